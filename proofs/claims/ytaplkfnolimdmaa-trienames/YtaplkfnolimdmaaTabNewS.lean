/- trie.Table[string]: the form of a table in memory; New, Len. -/
import Derived.Test.YtaplkfnolimdmaaTableS
namespace Go.Proofs.Ytaplkfnolimdmaa.TableS
open Go.Proofs.Ytaplkfnolimdmaa.Table (Pf eP wfP keyP)
open Go.RowKit Go.Proofs.Ytaplkfnolimdmaa.PC Go.Proofs.YtaplkfnolimdmaaW.PrintWords Go.Proofs.YtaplkfnolimdmaaW.PrintLast Go.Proofs.YtaplkfnolimdmaaW.PrintMore Go.Proofs.YtaplkfnolimdmaaW.Bits Go.Proofs.YtaplkfnolimdmaaW.MapRaw
set_option linter.unusedVariables false
set_option linter.unusedSimpArgs false

/-- How many prefixes have so many bits. -/
def cnt (L : List (Pf × Vt)) (i : Nat) : Int := ((L.filter (fun x => decide (x.1.2 = (i : Int)))).length : Int)
def tabCells (bm : Nat) (L : List (Pf × Vt)) : Array Value := (Value.map (some bm) :: (List.range 33).map (fun i => Value.int .i64 (cnt L i))).toArray
/-- Block bt is a table whose map is the block bm: with these prefixes, and numbers. -/
structure TabIs (w : World) (bt bm : Nat) (L : List (Pf × Vt)) : Prop where
  cells : w.heap[bt]? = some (.cells (tabCells bm L) 118 (0, 0))
  map : MapIs w eP wfP eV bm L
  bits : ∀ x ∈ L, 0 ≤ x.1.2 ∧ x.1.2 ≤ 32
theorem TabIs.lt {w : World} {bt bm : Nat} {L : List (Pf × Vt)} (h : TabIs w bt bm L) : bt < w.heap.size ∧ bm < w.heap.size := ⟨(Array.getElem?_eq_some_iff.1 h.cells).1, h.map.lt⟩
theorem TabIs.at {w w' : World} {bt bm : Nat} {L : List (Pf × Vt)} (h : TabIs w bt bm L) (h1 : w'.heap[bt]? = w.heap[bt]?) (h2 : w'.heap[bm]? = w.heap[bm]?) : TabIs w' bt bm L :=
  ⟨h1.trans h.cells, h.map.at h2, h.bits⟩
theorem TabIs.below {w w' : World} {bt bm : Nat} {L : List (Pf × Vt)} (h : TabIs w bt bm L) (hb : Below w.heap.size w w') : TabIs w' bt bm L := h.at (hb.block _ h.lt.1) (hb.block _ h.lt.2)
theorem TabIs.ne {w : World} {bt bm : Nat} {L : List (Pf × Vt)} (h : TabIs w bt bm L) : bt ≠ bm := by
  rintro rfl
  obtain ⟨es, clock, hb, _⟩ := h.map
  rw [h.cells] at hb
  cases hb

/-- All but these blocks is as it was. -/
structure But (S : Nat → Prop) (w w' : World) : Prop where
  os : w'.os = w.os
  tape : w'.tape = w.tape
  output : w'.output = w.output
  size : w.heap.size ≤ w'.heap.size
  block : ∀ k, k < w.heap.size → ¬ S k → w'.heap[k]? = w.heap[k]?
theorem But.refl (S : Nat → Prop) (w : World) : But S w w := ⟨rfl, rfl, rfl, Nat.le_refl _, fun _ _ _ => rfl⟩
theorem But.trans {S : Nat → Prop} {a b c : World} (h : But S a b) (k : But S b c) : But S a c :=
  ⟨k.os.trans h.os, k.tape.trans h.tape, k.output.trans h.output, Nat.le_trans h.size k.size, fun i hi hn => (k.block i (Nat.lt_of_lt_of_le hi h.size) hn).trans (h.block i hi hn)⟩
theorem But.of_below {S : Nat → Prop} {a b : World} (h : Below a.heap.size a b) : But S a b := ⟨h.os, h.tape, h.output, h.size, fun k hk _ => h.block k hk⟩
theorem But.below {S : Nat → Prop} {B : Nat} {a b : World} (h : But S a b) (hB : B ≤ a.heap.size) (hS : ∀ k, S k → B ≤ k) : Below B a b := ⟨h.os, h.tape, h.output, h.size, fun k hk => h.block k (by omega) (fun hs => by have := hS k hs; omega)⟩
theorem But.mono {S S' : Nat → Prop} {a b : World} (h : But S a b) (hs : ∀ k, S k → S' k) : But S' a b := ⟨h.os, h.tape, h.output, h.size, fun k hk hn => h.block k hk (fun h2 => hn (hs k h2))⟩

theorem But.drewN {S : Nat → Prop} {a b : World} (h : But S a b) (n : Nat) : But S a (b.drewN n) := ⟨h.os, h.tape, h.output, h.size, h.block⟩
theorem But.of_grown {S : Nat → Prop} {a b : World} {row : Option Nat} (hg : a.grownBy b row) (hr : ∀ k, row = some k → S k) : But S a b := ⟨hg.os, hg.tape, hg.output, hg.size, fun k hk hn => hg.block k hk (fun e => hn (hr k e.symm))⟩
theorem But.setCell {S : Nat → Prop} {a b : World} (h : But S a b) {p : Addr} (hp : S p.block) (u : Value) : But S a (b.setCell p u) :=
  h.trans ⟨rfl, rfl, rfl, by simp [World.setCell], fun k hk hn => Below.heap_setCell _ _ _ _ (fun e => hn (e ▸ hp))⟩

theorem cells_new (bm : Nat) : tabCells bm [] = #[.map (some bm), .int .i64 0, .int .i64 0, .int .i64 0, .int .i64 0, .int .i64 0, .int .i64 0, .int .i64 0, .int .i64 0, .int .i64 0, .int .i64 0, .int .i64 0, .int .i64 0, .int .i64 0, .int .i64 0, .int .i64 0, .int .i64 0, .int .i64 0, .int .i64 0, .int .i64 0, .int .i64 0, .int .i64 0, .int .i64 0, .int .i64 0, .int .i64 0, .int .i64 0, .int .i64 0, .int .i64 0, .int .i64 0, .int .i64 0, .int .i64 0, .int .i64 0, .int .i64 0, .int .i64 0] := rfl

set_option maxRecDepth 100000 in
theorem new_calls (w : World) : Calls Try.prog 42 #[] w fun e w' => ∃ bt bm, e = .returned (.pointer (some ⟨bt, 0, none⟩)) ∧ TabIs w' bt bm [] ∧ w.heap.size ≤ bt ∧ w.heap.size ≤ bm ∧ Below w.heap.size w w' := by
  have hmm := @run_makeMap Try.prog
  go_enter Try.func42, Try.ntmps42
  go_wp2
  go_ret
  refine ⟨w.heap.size + 1, w.heap.size, rfl, ⟨?_, ?_, by simp⟩, by omega, by omega, ?_⟩
  · rw [cells_new]
    have := (Go.MapKept.heap_alloc (w.alloc (Obj.map #[] 0)) (Obj.cells (tabCells w.heap.size []) 118)).1
    rw [show (w.alloc (Obj.map #[] 0)).heap.size = w.heap.size + 1 by simp] at this
    rw [cells_new] at this
    exact this
  · refine (MapIs.made w).at ?_
    exact (Go.MapKept.heap_alloc (w.alloc (Obj.map #[] 0)) _).2 _ (by simp)
  · exact ((Below.refl _ w).alloc (Nat.le_refl _) _).alloc (by simp) _
end Go.Proofs.Ytaplkfnolimdmaa.TableS
