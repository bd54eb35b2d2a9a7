/- trie.Table[int]: what the table's own functions do, as a list of prefixes with numbers. -/
import Derived.Test.YtaplkfnolimdmaaPCx6
import Derived.Test.YtaplkfnolimdmaaMapRaw
import Derived.Test.YtaplkfnolimdmaaBits
import Derived.DeepKeys4
import Derived.StillTailTactics
import Derived.Deep.MidRow
import Derived.Deep.RegionHeld3
import Derived.Maps.RangeWalk
namespace Go.Proofs.Ytaplkfnolimdmaa.Table
open Go.RowKit Go.Proofs.Ytaplkfnolimdmaa.PC Go.Proofs.YtaplkfnolimdmaaW.PrintWords Go.Proofs.YtaplkfnolimdmaaW.PrintLast Go.Proofs.YtaplkfnolimdmaaW.PrintMore Go.Proofs.YtaplkfnolimdmaaW.Bits Go.Proofs.YtaplkfnolimdmaaW.MapRaw
set_option linter.unusedVariables false
set_option linter.unusedSimpArgs false

abbrev Pf := Int × Int
def eP (p : Pf) : Value := .agg #[.int .u32 p.1, .int .i64 p.2]
def wfP (p : Pf) : Prop := (Lit.int .u32 p.1).wf = true ∧ (Lit.int .i64 p.2).wf = true
def eV (v : Int) : Value := .int .i64 v

theorem laidOut : laidOutB Try.prog = true := by kernel_rfl
theorem rowP : (26 : TypeId) < Try.prog.types.size := of_decide_eq_true (by kernel_rfl)
theorem wideP : (match Try.prog.underlying 26 with | some (.array _ _) | some (.struct _) => true | _ => false) = true := by rw [Try.underlying26]
theorem typeP : Try.prog.keyTypeAt 2 26 = true := by kernel_rfl
theorem lawP : Go.WideMaps.KeyLaw Try.prog 26 := by
  refine deep_law_laid laidOut (m := 2) (by omega) rowP typeP ?_
  rw [Try.underlying26]
theorem keyedP : Go.Maps.Keyed Try.prog 26 := Go.Maps.Keyed.of_law lawP
theorem cellsP : Try.prog.cellsOf 26 = 2 := by kernel_rfl
theorem cellsA : Try.prog.cellsOf 24 = 1 := by kernel_rfl
theorem cellsI : Try.prog.cellsOf 3 = 1 := by kernel_rfl
theorem ktP : Try.prog.keyType 26 = true := by kernel_rfl
theorem reads_gen {P : Program} {k a i : TypeId} {f0 f1 : Field} (hk : P.keyType k = true) (hu : P.underlying k = some (.struct #[f0, f1])) (o0 : f0.offset = 0) (o1 : f1.offset = 1) (t0 : f0.type = a) (t1 : f1.type = i) (n0 : (f0.name != "_") = true) (n1 : (f1.name != "_") = true)
    (hs : Nat.ble 1 P.types.size = true) (ck : P.cellsOf k = 2) (ca : P.cellsOf a = 1) (ci : P.cellsOf i = 1) (ua : P.underlying a = some (.int .u32)) (ui : P.underlying i = some (.int .i64)) {p : Pf} (h : wfP p) : ∃ l, keyOf P k (eP p) = some l := by
  obtain ⟨h1, h2⟩ := h
  obtain ⟨d, hd⟩ : ∃ d, P.types.size = d + 1 := ⟨P.types.size - 1, by have := Nat.le_of_ble_eq_true hs; omega⟩
  simp [keyOf, hk, hu, eP, Value.formed, ck, Value.cells, hd, Program.keyLits, ca, ci, ua, ui, h1, h2, o0, o1, t0, t1]
  exact ⟨by simpa using n0, by simpa using n1⟩
theorem sizeT0 : Nat.ble 1 Try.prog.types.size = true := by kernel_rfl
theorem readsP {p : Pf} (h : wfP p) : ∃ l, keyOf Try.prog 26 (eP p) = some l :=
  reads_gen ktP Try.underlying26 rfl rfl rfl rfl (by decide) (by decide) sizeT0 cellsP cellsA cellsI Try.underlying24 Try.underlying3 h
theorem keyP : Key Try.prog 26 eP wfP := ⟨keyedP, fun {p q} h => by simp [eP] at h; exact Prod.ext h.1 h.2, readsP⟩
end Go.Proofs.Ytaplkfnolimdmaa.Table
namespace Go.Proofs.Ytaplkfnolimdmaa.Table
open Go.RowKit Go.Proofs.Ytaplkfnolimdmaa.PC Go.Proofs.YtaplkfnolimdmaaW.PrintWords Go.Proofs.YtaplkfnolimdmaaW.PrintLast Go.Proofs.YtaplkfnolimdmaaW.PrintMore Go.Proofs.YtaplkfnolimdmaaW.Bits Go.Proofs.YtaplkfnolimdmaaW.MapRaw
set_option linter.unusedVariables false
set_option linter.unusedSimpArgs false

/-- How many prefixes have so many bits. -/
def cnt (L : List (Pf × Int)) (i : Nat) : Int := ((L.filter (fun x => decide (x.1.2 = (i : Int)))).length : Int)
def tabCells (bm : Nat) (L : List (Pf × Int)) : Array Value := (Value.map (some bm) :: (List.range 33).map (fun i => Value.int .i64 (cnt L i))).toArray
/-- Block bt is a table whose map is the block bm: with these prefixes, and numbers. -/
structure TabIs (w : World) (bt bm : Nat) (L : List (Pf × Int)) : Prop where
  cells : w.heap[bt]? = some (.cells (tabCells bm L) 110 (0, 0))
  map : MapIs w eP wfP eV bm L
  bits : ∀ x ∈ L, 0 ≤ x.1.2 ∧ x.1.2 ≤ 32
theorem TabIs.lt {w : World} {bt bm : Nat} {L : List (Pf × Int)} (h : TabIs w bt bm L) : bt < w.heap.size ∧ bm < w.heap.size := ⟨(Array.getElem?_eq_some_iff.1 h.cells).1, h.map.lt⟩
theorem TabIs.at {w w' : World} {bt bm : Nat} {L : List (Pf × Int)} (h : TabIs w bt bm L) (h1 : w'.heap[bt]? = w.heap[bt]?) (h2 : w'.heap[bm]? = w.heap[bm]?) : TabIs w' bt bm L :=
  ⟨h1.trans h.cells, h.map.at h2, h.bits⟩
theorem TabIs.below {w w' : World} {bt bm : Nat} {L : List (Pf × Int)} (h : TabIs w bt bm L) (hb : Below w.heap.size w w') : TabIs w' bt bm L := h.at (hb.block _ h.lt.1) (hb.block _ h.lt.2)
theorem TabIs.ne {w : World} {bt bm : Nat} {L : List (Pf × Int)} (h : TabIs w bt bm L) : bt ≠ bm := by
  rintro rfl
  obtain ⟨es, clock, hb, _⟩ := h.map
  rw [h.cells] at hb
  cases hb

/-- All but these blocks is as it was. -/
structure But (S : Nat → Prop) (w w' : World) : Prop where
  os : w'.os = w.os
  tape : w'.tape = w.tape
  output : w'.output = w.output
  size : w.heap.size ≤ w'.heap.size
  block : ∀ k, k < w.heap.size → ¬ S k → w'.heap[k]? = w.heap[k]?
theorem But.refl (S : Nat → Prop) (w : World) : But S w w := ⟨rfl, rfl, rfl, Nat.le_refl _, fun _ _ _ => rfl⟩
theorem But.trans {S : Nat → Prop} {a b c : World} (h : But S a b) (k : But S b c) : But S a c :=
  ⟨k.os.trans h.os, k.tape.trans h.tape, k.output.trans h.output, Nat.le_trans h.size k.size, fun i hi hn => (k.block i (Nat.lt_of_lt_of_le hi h.size) hn).trans (h.block i hi hn)⟩
theorem But.of_below {S : Nat → Prop} {a b : World} (h : Below a.heap.size a b) : But S a b := ⟨h.os, h.tape, h.output, h.size, fun k hk _ => h.block k hk⟩
theorem But.below {S : Nat → Prop} {B : Nat} {a b : World} (h : But S a b) (hB : B ≤ a.heap.size) (hS : ∀ k, S k → B ≤ k) : Below B a b := ⟨h.os, h.tape, h.output, h.size, fun k hk => h.block k (by omega) (fun hs => by have := hS k hs; omega)⟩
theorem But.mono {S S' : Nat → Prop} {a b : World} (h : But S a b) (hs : ∀ k, S k → S' k) : But S' a b := ⟨h.os, h.tape, h.output, h.size, fun k hk hn => h.block k hk (fun h2 => hn (hs k h2))⟩

theorem But.drewN {S : Nat → Prop} {a b : World} (h : But S a b) (n : Nat) : But S a (b.drewN n) := ⟨h.os, h.tape, h.output, h.size, h.block⟩
theorem But.of_grown {S : Nat → Prop} {a b : World} {row : Option Nat} (hg : a.grownBy b row) (hr : ∀ k, row = some k → S k) : But S a b := ⟨hg.os, hg.tape, hg.output, hg.size, fun k hk hn => hg.block k hk (fun e => hn (hr k e.symm))⟩
theorem But.setCell {S : Nat → Prop} {a b : World} (h : But S a b) {p : Addr} (hp : S p.block) (u : Value) : But S a (b.setCell p u) :=
  h.trans ⟨rfl, rfl, rfl, by simp [World.setCell], fun k hk hn => Below.heap_setCell _ _ _ _ (fun e => hn (e ▸ hp))⟩

theorem cells_new (bm : Nat) : tabCells bm [] = #[.map (some bm), .int .i64 0, .int .i64 0, .int .i64 0, .int .i64 0, .int .i64 0, .int .i64 0, .int .i64 0, .int .i64 0, .int .i64 0, .int .i64 0, .int .i64 0, .int .i64 0, .int .i64 0, .int .i64 0, .int .i64 0, .int .i64 0, .int .i64 0, .int .i64 0, .int .i64 0, .int .i64 0, .int .i64 0, .int .i64 0, .int .i64 0, .int .i64 0, .int .i64 0, .int .i64 0, .int .i64 0, .int .i64 0, .int .i64 0, .int .i64 0, .int .i64 0, .int .i64 0, .int .i64 0] := rfl

set_option maxRecDepth 100000 in
theorem new_calls (w : World) : Calls Try.prog 26 #[] w fun e w' => ∃ bt bm, e = .returned (.pointer (some ⟨bt, 0, none⟩)) ∧ TabIs w' bt bm [] ∧ w.heap.size ≤ bt ∧ w.heap.size ≤ bm ∧ Below w.heap.size w w' := by
  have hmm := @run_makeMap Try.prog
  go_enter Try.func26, Try.ntmps26
  go_wp2
  go_ret
  refine ⟨w.heap.size + 1, w.heap.size, rfl, ⟨?_, ?_, by simp⟩, by omega, by omega, ?_⟩
  · rw [cells_new]
    have := (Go.MapKept.heap_alloc (w.alloc (Obj.map #[] 0)) (Obj.cells (tabCells w.heap.size []) 110)).1
    rw [show (w.alloc (Obj.map #[] 0)).heap.size = w.heap.size + 1 by simp] at this
    rw [cells_new] at this
    exact this
  · refine (MapIs.made w).at ?_
    exact (Go.MapKept.heap_alloc (w.alloc (Obj.map #[] 0)) _).2 _ (by simp)
  · exact ((Below.refl _ w).alloc (Nat.le_refl _) _).alloc (by simp) _
end Go.Proofs.Ytaplkfnolimdmaa.Table
namespace Go.Proofs.Ytaplkfnolimdmaa.Table
open Go.RowKit Go.Proofs.Ytaplkfnolimdmaa.PC Go.Proofs.YtaplkfnolimdmaaW.PrintWords Go.Proofs.YtaplkfnolimdmaaW.PrintLast Go.Proofs.YtaplkfnolimdmaaW.PrintMore Go.Proofs.YtaplkfnolimdmaaW.Bits Go.Proofs.YtaplkfnolimdmaaW.MapRaw
set_option linter.unusedVariables false
set_option linter.unusedSimpArgs false

/-- What Check answers: 0, 1 (ErrArg) or 10 (ErrMask). -/
def chk (a b : Int) : Int := if b < 0 ∨ 32 < b then 1 else if a % sz b = 0 then 0 else 10
theorem chk_bits {a b : Int} (h : chk a b = 0) : 0 ≤ b ∧ b ≤ 32 := by
  unfold chk at h
  split at h
  · cases h
  · omega
theorem behind_f {b : Int} (h0 : 0 ≤ b) (h1 : b ≤ 32) : addr_behind.f b = some (sz b - 1) := by
  obtain ⟨e1, e2⟩ := behind_val h0 h1
  unfold addr_behind.f
  rw [e1, if_pos (by omega), e2]
theorem ev_behind {b : Int} (h0 : 0 ≤ b) (h1 : b ≤ 32) : Ev (fun _ => addr_behind.f b) (sz b - 1) := Ev.congr (fun _ => behind_f h0 h1) (Ev.now _)
theorem ev_ACheck (a b : Int) (h0 : 0 ≤ a) (h1 : a < 4294967296) : Ev (fun k => addr_Check.f k a b) (chk a b) := by
  unfold addr_Check.f
  by_cases c : b < 0
  · refine Ev.pos c (Ev.step (fun k => by rw [addr_Check.j0]) (Ev.pos rfl (Ev.some' ?_)))
    unfold chk
    rw [if_pos (Or.inl c)]
  · refine Ev.neg c (Ev.step (fun k => by rw [addr_Check.j0]) ?_)
    by_cases c2 : b > 32
    · refine Ev.pos (decide_eq_true c2) (Ev.some' ?_)
      unfold chk
      rw [if_pos (Or.inr c2)]
    · refine Ev.neg (by simp; omega) ?_
      refine Ev.bind (ev_behind (by omega) (by omega)) ?_
      rw [and_mask h0 h1 (by omega) (by omega)]
      unfold chk
      rw [if_neg (show ¬ (b < 0 ∨ 32 < b) by omega)]
      by_cases c3 : a % sz b = 0
      · exact Ev.pos c3 (Ev.some' (if_pos c3).symm)
      · exact Ev.neg c3 (Ev.some' (if_neg c3).symm)
theorem wf_U {p : Pf} (h : wfP p) : 0 ≤ p.1 ∧ p.1 < 4294967296 := by
  have h := h.1
  simp [Lit.wf, IntKind.min, IntKind.max, IntKind.bits, IntKind.signed] at h
  omega
theorem check_calls (p : Pf) (hp : wfP p) (w : World) : Calls Try.prog 56 #[.agg #[.int .u32 p.1, .int .i64 p.2]] w fun e w' => e = .returned (.int .i64 (chk p.1 p.2)) ∧ Below w.heap.size w w' := by
  obtain ⟨k, hk⟩ := (ev_ACheck p.1 p.2 (wf_U hp).1 (wf_U hp).2).rounds
  exact addr_Check.calls k _ _ _ w hk

theorem TabIs.cell0 {w : World} {bt bm : Nat} {L : List (Pf × Int)} (h : TabIs w bt bm L) : w.cell? ⟨bt, 0, none⟩ = some (.map (some bm)) := by
  rw [blk_cell h.cells]; rfl
theorem TabIs.cellc {w : World} {bt bm : Nat} {L : List (Pf × Int)} (h : TabIs w bt bm L) {i : Nat} (hi : i ≤ 32) : w.cell? ⟨bt, i + 1, none⟩ = some (.int .i64 (cnt L i)) := by
  rw [blk_cell h.cells]
  unfold tabCells
  simp [List.getElem?_map, List.getElem?_range (show i < 33 by omega)]

theorem cnt_up_some {L : List (Pf × Int)} {p : Pf} {v : Int} (h : lkL L p ≠ none) (i : Nat) : cnt (putL L p v) i = cnt L i := by
  unfold cnt
  congr 1
  induction L with
  | nil => exact absurd rfl h
  | cons x l ih =>
    unfold putL
    unfold lkL at h
    by_cases e : x.1 = p
    · rw [if_pos e]
      simp only [List.filter_cons, e]
      split <;> rfl
    · rw [if_neg e] at h ⊢
      simp only [List.filter_cons]
      split
      · simp only [List.length_cons, ih h]
      · exact ih h
theorem cnt_up_none {L : List (Pf × Int)} {p : Pf} {v : Int} (h : lkL L p = none) (i : Nat) : cnt (putL L p v) i = cnt L i + (if p.2 = (i : Int) then 1 else 0) := by
  unfold cnt
  induction L with
  | nil =>
    unfold putL
    simp only [List.filter_cons, List.filter_nil]
    by_cases e : p.2 = (i : Int) <;> simp [e]
  | cons x l ih =>
    unfold putL
    unfold lkL at h
    by_cases e : x.1 = p
    · rw [if_pos e] at h
      cases h
    · rw [if_neg e] at h ⊢
      have ih := ih h
      simp only [List.filter_cons]
      split
      · simp only [List.length_cons, Int.natCast_add, Int.natCast_one]
        omega
      · exact ih
theorem bits_up {L : List (Pf × Int)} {p : Pf} {v : Int} (h : ∀ x ∈ L, 0 ≤ x.1.2 ∧ x.1.2 ≤ 32) (hp : 0 ≤ p.2 ∧ p.2 ≤ 32) : ∀ x ∈ putL L p v, 0 ≤ x.1.2 ∧ x.1.2 ≤ 32 := by
  induction L with
  | nil =>
    intro x hx
    obtain rfl : x = (p, v) := by simpa [putL] using hx
    exact hp
  | cons y l ih =>
    intro x hx
    unfold putL at hx
    split at hx
    · rcases List.mem_cons.1 hx with e | e
      · rw [e]; exact hp
      · exact h x (by simp [e])
    · rcases List.mem_cons.1 hx with e | e
      · rw [e]; exact h y (by simp)
      · exact ih (fun z hz => h z (by simp [hz])) x e
theorem cells_up_some {bm : Nat} {L : List (Pf × Int)} {p : Pf} {v : Int} (h : lkL L p ≠ none) : tabCells bm (putL L p v) = tabCells bm L := by
  unfold tabCells
  simp only [cnt_up_some h]
theorem cells_up_none {bm : Nat} {L : List (Pf × Int)} {p : Pf} {v : Int} (h : lkL L p = none) (hp : 0 ≤ p.2 ∧ p.2 ≤ 32) : (tabCells bm L).setIfInBounds (p.2.toNat + 1) (.int .i64 (cnt L p.2.toNat + 1)) = tabCells bm (putL L p v) := by
  unfold tabCells
  simp only [List.setIfInBounds_toArray, List.set_cons_succ]
  congr 2
  apply List.ext_getElem?
  intro i
  rw [List.getElem?_set, List.getElem?_map, List.getElem?_map]
  by_cases e : p.2.toNat = i
  · subst e
    rw [if_pos rfl, List.getElem?_range (show p.2.toNat < 33 by omega)]
    simp only [List.length_map, List.length_range, Option.map_some]
    rw [if_pos (by omega), cnt_up_none h, if_pos (by omega)]
  · rw [if_neg e]
    by_cases hi : i < 33
    · rw [List.getElem?_range hi]
      simp only [Option.map_some]
      rw [cnt_up_none h, if_neg (by omega), Int.add_zero]
    · rw [List.getElem?_eq_none (by simp; omega)]
      rfl

theorem arrLen : Try.prog.arrayLen 108 = 33 := by kernel_rfl
theorem arrElem : Try.prog.elem 108 = 3 := by kernel_rfl
theorem sizeInt (W : World) : (sizeOf 3).run Try.prog W = .ok 1 W := by kernel_rfl
theorem ix_used (bt : Nat) (i : Int) (h0 : 0 ≤ i) (h1 : i ≤ 32) (W : World) : (Instr.indexAt 108 (.pointer (some ⟨bt, 1, none⟩)) (.int .i64 i)).run Try.prog W = .ok (.pointer (some ⟨bt, i.toNat + 1, none⟩)) W := by
  rw [run_indexAt_array W 108 _ .i64 i (by rw [arrLen, arrElem]; exact Try.underlying108), arrLen, arrElem, if_pos ⟨h0, by omega⟩, sizeInt]
  simp [Result.andThen, Addr.add, Nat.add_comm]
set_option maxRecDepth 100000 in
theorem put_calls (p : Pf) (v : Int) (hp : wfP p) (w : World) (bt bm : Nat) (L : List (Pf × Int)) (hT : TabIs w bt bm L) (hL : L.length ≤ 1000000) :
    Calls Try.prog 27 #[.pointer (some ⟨bt, 0, none⟩), .agg #[.int .u32 p.1, .int .i64 p.2], .int .i64 v] w fun e w' => e = .returned (.int .i64 (chk p.1 p.2)) ∧ TabIs w' bt bm (if chk p.1 p.2 = 0 then putL L p v else L) ∧ But (fun k => k = bt ∨ k = bm) w w' := by
  have hc := fun W => check_calls p hp W
  have HC := Aside0.mk hc
  clear hc
  have HT := Aside0.mk hT
  clear hT
  obtain ⟨p0, p1⟩ := p
  generalize hq : chk p0 p1 = q at HC ⊢
  by_cases q0 : q = 0
  · subst q0
    have HQ := Aside0.mk hq
    clear hq
    go_enter Try.func27, Try.ntmps27
    go_wp2_with (first | (go_at_call 56; refine (HC.out _).mono ?_; rintro e w2 ⟨rfl, hb⟩))
    have hsz : w.heap.size < (w.alloc (Obj.cells #[Value.int IntKind.u32 p0, Value.int IntKind.i64 p1] 26)).heap.size := by simp
    have hT1 := HT.out.below ((Below.refl w.heap.size w).alloc (Nat.le_refl _) (Obj.cells #[Value.int IntKind.u32 p0, Value.int IntKind.i64 p1] 26))
    have hT2 := hT1.below hb
    have hbox : w2.heap[w.heap.size]? = some (Obj.cells #[Value.int IntKind.u32 p0, Value.int IntKind.i64 p1] 26) := (hb.block _ hsz).trans (Go.MapKept.heap_alloc w _).1
    have b0 : w2.cell? ⟨w.heap.size, 0, none⟩ = some (.int .u32 p0) := by rw [blk_cell hbox]; rfl
    have b1 : w2.cell? ⟨w.heap.size, 1, none⟩ = some (.int .i64 p1) := by rw [blk_cell hbox]; rfl
    have c0 := hT2.cell0
    have hlook := fun n => (hT2.map.at (w' := w2.drewN n) rfl).look keyP true Try.underlying107 (z := .int .i64 0) (e := 3) (by kernel_rfl) hp
    have HB := Aside0.mk hb
    have HT2 := Aside0.mk hT2
    clear hb hT1 hT2 hsz hbox
    simp only [eP] at hlook
    cases hl : lkL L (p0, p1) with
    | some v0 =>
      simp only [hl, if_true, eV] at hlook
      have HL := Aside0.mk hl
      clear hl
      go_quiet (fail)
      go_wp2
      refine wp_region_still_tail 6 (by kernel_rfl) (by kernel_rfl) ?_
      simp only [List.take_succ_cons, List.take_zero, List.drop_succ_cons, List.drop_zero]
      rw [show ({ heap := (w2.drewN nq).heap, tape := (w2.drewN nq).tape, drawn := (w2.drewN nq).drawn + 1, os := (w2.drewN nq).os, output := (w2.drewN nq).output } : World) = w2.drewN (nq + 1) from rfl]
      repeat still_step
      refine wpStill_nil ?_
      obtain ⟨w3, hrun, hM3, hg3, hs3⟩ := (HT2.out.map.at (w' := w2.drewN (nq + 1)) rfl).store keyP Try.underlying107 hp v
      simp only [eP, eV] at hrun
      have HM := Aside0.mk hM3
      have HG := Aside0.mk hg3
      clear hM3 hg3 hs3
      go_wp2
      go_ret
      have hB02 : Below w.heap.size w w2 := ((Below.refl w.heap.size w).alloc (Nat.le_refl _) _).trans (HB.out.mono (by simp))
      refine ⟨rfl, ?_, ?_⟩
      · refine ⟨?_, HM.out, bits_up HT2.out.bits (chk_bits HQ.out)⟩
        rw [cells_up_some (by rw [HL.out]; simp)]
        exact (HG.out.block bt HT2.out.lt.1 (fun e => HT2.out.ne (Option.some.inj e))).trans HT2.out.cells
      · exact ((But.of_below hB02).drewN (nq + 1)).trans (But.of_grown HG.out (fun k e => .inr (Option.some.inj e).symm))
    | none =>
      simp only [hl, if_true, eV] at hlook
      have HL := Aside0.mk hl
      clear hl
      have hpb := chk_bits HQ.out
      have hb1 : p1.toNat ≤ 32 := by omega
      have c1 := HT2.out.cellc hb1
      have f1 := blk_frozen HT2.out.cells (p1.toNat + 1)
      have hix := ix_used bt p1 hpb.1 hpb.2
      clear hpb
      go_quiet (fail)
      go_wp2
      refine wp_region_still_tail 11 (by kernel_rfl) (by kernel_rfl) ?_
      simp only [List.take_succ_cons, List.take_zero, List.drop_succ_cons, List.drop_zero]
      rw [show ({ heap := (w2.drewN nq).heap, tape := (w2.drewN nq).tape, drawn := (w2.drewN nq).drawn + 1, os := (w2.drewN nq).os, output := (w2.drewN nq).output } : World) = w2.drewN (nq + 1) from rfl]
      repeat still_step
      refine wpStill_nil ?_
      go_wp2
      have hB02 : Below w.heap.size w w2 := ((Below.refl w.heap.size w).alloc (Nat.le_refl _) _).trans (HB.out.mono (by simp))
      have hcnt : wrap64 (cnt L p1.toNat + 1) = cnt L p1.toNat + 1 := by
        have : cnt L p1.toNat ≤ 1000000 := by unfold cnt; have := List.length_filter_le (fun x : Pf × Int => decide (x.1.2 = (p1.toNat : Int))) L; omega
        have : 0 ≤ cnt L p1.toNat := by unfold cnt; omega
        exact w64 (by omega) (by omega)
      rw [hcnt]
      have hblk : ((w2.drewN (nq + 1)).setCell ⟨bt, p1.toNat + 1, none⟩ (Value.int .i64 (cnt L p1.toNat + 1))).heap[bt]? = some (.cells (tabCells bm (putL L (p0, p1) v)) 110 (0, 0)) := by
        refine blk_put (w := w2.drewN (nq + 1)) HT2.out.cells _ _ ?_
        exact cells_up_none HL.out (chk_bits HQ.out)
      have hmp := HT2.out.map.at (w' := (w2.drewN (nq + 1)).setCell ⟨bt, p1.toNat + 1, none⟩ (Value.int .i64 (cnt L p1.toNat + 1))) (Below.heap_setCell _ _ _ _ (fun e => HT2.out.ne e.symm))
      have hbut := (((But.of_below hB02).drewN (nq + 1)).setCell (S := fun k => k = bt ∨ k = bm) (p := ⟨bt, p1.toNat + 1, none⟩) (.inl rfl) (Value.int .i64 (cnt L p1.toNat + 1)))
      have hne4 : w.heap.size ≠ bt := by have := HT.out.lt.1; omega
      have b04 : ((w2.drewN (nq + 1)).setCell ⟨bt, p1.toNat + 1, none⟩ (Value.int .i64 (cnt L p1.toNat + 1))).cell? ⟨w.heap.size, 0, none⟩ = some (.int .u32 p0) := by
        rw [World.cell?_setCell_other _ _ _ _ (by intro e; exact hne4 (congrArg Addr.block e).symm)]; exact b0
      have b14 : ((w2.drewN (nq + 1)).setCell ⟨bt, p1.toNat + 1, none⟩ (Value.int .i64 (cnt L p1.toNat + 1))).cell? ⟨w.heap.size, 1, none⟩ = some (.int .i64 p1) := by
        rw [World.cell?_setCell_other _ _ _ _ (by intro e; exact hne4 (congrArg Addr.block e).symm)]; exact b1
      generalize ((w2.drewN (nq + 1)).setCell ⟨bt, p1.toNat + 1, none⟩ (Value.int .i64 (cnt L p1.toNat + 1))) = w4 at hblk hmp hbut b04 b14 ⊢
      have c04 : w4.cell? ⟨bt, 0, none⟩ = some (.map (some bm)) := by rw [blk_cell hblk]; rfl
      have HBLK := Aside0.mk hblk
      have HBUT := Aside0.mk hbut
      have HMP := Aside0.mk hmp
      clear hblk hmp hbut hcnt hlook c1 f1 hix c0 b0 b1 hB02
      refine wp_region_still_tail 6 (by kernel_rfl) (by kernel_rfl) ?_
      simp only [List.take_succ_cons, List.take_zero, List.drop_succ_cons, List.drop_zero]
      rw [show ({ heap := w4.heap, tape := w4.tape, drawn := w4.drawn + 1, os := w4.os, output := w4.output } : World) = w4.drewN 1 from rfl]
      repeat still_step
      refine wpStill_nil ?_
      obtain ⟨w3, hrun, hM3, hg3, hs3⟩ := (HMP.out.at (w' := w4.drewN 1) rfl).store keyP Try.underlying107 hp v
      simp only [eP, eV] at hrun
      have HM := Aside0.mk hM3
      have HG := Aside0.mk hg3
      clear hM3 hg3 hs3
      go_wp2
      go_ret
      have hlt4 : bt < w4.heap.size := (Array.getElem?_eq_some_iff.1 HBLK.out).1
      refine ⟨rfl, ?_, ?_⟩
      · refine ⟨?_, HM.out, bits_up HT2.out.bits (chk_bits HQ.out)⟩
        exact (HG.out.block bt hlt4 (fun e => HT2.out.ne (Option.some.inj e))).trans HBLK.out
      · exact (HBUT.out.drewN 1).trans (But.of_grown HG.out (fun k e => .inr (Option.some.inj e).symm))
  · have q1 : (q == 0) = false := by simpa using q0
    have q2 : (q != 0) = true := by simpa using q0
    go_enter Try.func27, Try.ntmps27
    go_wp2_with (first | (go_at_call 56; refine (HC.out _).mono ?_; rintro e w2 ⟨rfl, hb⟩))
    go_ret
    have hB02 : Below w.heap.size w w2 := ((Below.refl w.heap.size w).alloc (Nat.le_refl _) _).trans (hb.mono (by simp))
    exact ⟨rfl, HT.out.below hB02, But.of_below hB02⟩
end Go.Proofs.Ytaplkfnolimdmaa.Table
namespace Go.Proofs.Ytaplkfnolimdmaa.Table
open Go.RowKit Go.Proofs.Ytaplkfnolimdmaa.PC Go.Proofs.YtaplkfnolimdmaaW.PrintWords Go.Proofs.YtaplkfnolimdmaaW.PrintLast Go.Proofs.YtaplkfnolimdmaaW.PrintMore Go.Proofs.YtaplkfnolimdmaaW.Bits Go.Proofs.YtaplkfnolimdmaaW.MapRaw
set_option linter.unusedVariables false
set_option linter.unusedSimpArgs false

theorem infoP : (Try.prog.info? 26).map (fun i => (i.zero, i.size, i.bytes)) = some (some (.agg #[(.int .u32 0), (.int .i64 0)]), 2, 16) := by kernel_rfl
theorem infoU : (Try.prog.info? 108).map (·.size) = some 33 := by kernel_rfl
def kP : Kd Pf := Kd.pair (Kd.int .u32) (Kd.int .i64)
theorem kP_mkM (w : World) (base : Nat) (ok : Nat → Prop) (x : Pf) : kP.M w base ok x [.int .u32 x.1, .int .i64 x.2] := ⟨[.int .u32 x.1], [.int .i64 x.2], rfl, rfl, rfl⟩

def par (x b : Int) : Int := x - x % sz b
/-- The prefix of so many bits of an address, if the table has it. -/
def hit (L : List (Pf × Int)) (x : Int) (i : Nat) : Option Pf := if (lkL L (par x i, (i : Int))).isSome then some (par x i, (i : Int)) else none
def overL (L : List (Pf × Int)) (x : Int) (n : Nat) : List Pf := (List.range n).filterMap (hit L x)
theorem overL_succ (L : List (Pf × Int)) (x : Int) (n : Nat) : overL L x (n + 1) = overL L x n ++ (hit L x n).toList := by
  unfold overL
  rw [List.range_succ, List.filterMap_append]
  cases h : hit L x n <;> simp [h]
theorem overL_len (L : List (Pf × Int)) (x : Int) (n : Nat) : (overL L x n).length ≤ n := by
  unfold overL
  have := List.length_filterMap_le (hit L x) (List.range n)
  simpa using this
theorem lk_mem {L : List (Pf × Int)} {p : Pf} {v : Int} (h : lkL L p = some v) : (p, v) ∈ L := by
  induction L with
  | nil => cases h
  | cons x l ih =>
    unfold lkL at h
    split at h
    · rename_i e
      cases h
      subst e
      simp
    · exact List.mem_cons_of_mem _ (ih h)
theorem hit_zero {L : List (Pf × Int)} {x : Int} {i : Nat} (h : cnt L i = 0) : hit L x i = none := by
  unfold hit
  rw [if_neg]
  intro hs
  obtain ⟨v, hv⟩ := Option.isSome_iff_exists.1 hs
  have hm := lk_mem hv
  unfold cnt at h
  have : ((par x i, (i : Int)), v) ∈ L.filter (fun x => decide (x.1.2 = (i : Int))) := List.mem_filter.2 ⟨hm, by simp⟩
  have := List.length_pos_of_mem this
  omega
def usedV (L : List (Pf × Int)) : List Value := (List.range 33).map (fun i => Value.int .i64 (cnt L i))
theorem TabIs.used {w : World} {bt bm : Nat} {L : List (Pf × Int)} (h : TabIs w bt bm L) : (Instr.loadAt 108 (.pointer (some ⟨bt, 1, none⟩))).run Try.prog w = .ok (.agg (usedV L).toArray) w := by
  refine run_loadAt_mid w bt 1 108 (usedV L) _ (fun j v hv => ?_) Try.underlying108 rfl (by rw [infoU]; simp [usedV])
  have hj : j < 33 := by have := (List.getElem?_eq_some_iff.1 hv).1; simpa [usedV] using this
  rw [Nat.add_comm, h.cellc (by omega)]
  unfold usedV at hv
  rw [List.getElem?_map, List.getElem?_range hj] at hv
  exact hv
theorem ix_agg (L : List (Pf × Int)) (i : Nat) (hi : i < 33) (W : World) : (Instr.index 108 (.agg (usedV L).toArray) (.int .i64 (i : Int))).run Try.prog W = .ok (.int .i64 (cnt L i)) W := by
  have h1 := run_underlying Try.underlying108 W
  have h2 := run_underlying Try.underlying3 W
  have hc : (usedV L)[i]? = some (.int .i64 (cnt L i)) := by unfold usedV; simp [List.getElem?_map, List.getElem?_range hi]
  have hs := sizeInt W
  simp [Instr.index, asIntOf, Sem.run_bind, h1, h2, part, isAgg, hs, hc, Result.andThen, hi]
theorem subnet_calls (x : Int) (i : Nat) (hx : 0 ≤ x ∧ x < 4294967296) (hi : i ≤ 32) (w : World) : Calls Try.prog 93 #[.int .u32 x, .int .i64 (i : Int)] w fun e w' => e = .returned (.tuple #[.agg #[.int .u32 (par x i), .int .i64 (i : Int)], .int .i64 0]) ∧ Below w.heap.size w w' := by
  refine addr_Subnet.calls x (i : Int) _ _ _ w ?_
  unfold addr_Subnet.f
  rw [if_neg (by omega), if_neg (by omega), behind_f (by omega) (by omega)]
  show some _ = some _
  rw [andNot_mask hx.1 hx.2 (by omega) (by omega)]
  rfl
theorem par_wf {x : Int} {i : Nat} (hx : 0 ≤ x ∧ x < 4294967296) (hi : i ≤ 32) : wfP (par x i, (i : Int)) := by
  have hs := sz_pos (i : Int)
  have h1 := Int.emod_nonneg x (show sz (i : Int) ≠ 0 by omega)
  have h2 : x % sz (i : Int) ≤ x := by
    have := Int.emod_add_mul_ediv x (sz (i : Int))
    have := Int.mul_nonneg (show 0 ≤ sz (i : Int) by omega) (Int.ediv_nonneg hx.1 (show 0 ≤ sz (i : Int) by omega))
    omega
  unfold wfP par
  simp [Lit.wf, IntKind.min, IntKind.max, IntKind.bits, IntKind.signed]
  omega

theorem wpList_load_raw {P : Program} (w : World) {ops : Array Oper} {rest : List Oper} {o : Oper} {a : Act} {Q : Exit → Act → World → Prop}
    (hg : o.guard = none) (ty : TypeId) (x : Operand) (ho : o.op = Op.load ty x) (v : Value) (hx : a.eval x = v) (u : Value) (hrun : (Instr.loadAt ty v).run P w = .ok u w)
    (hK : wpList P ops Q rest (a.put o.dst u) w) : wpList P ops Q (o :: rest) a w := by
  refine wpList_plain hg fun K' hK' => ?_
  unfold Oper.wp
  simp [execOp, ho, hx, hrun, Result.andThen]
  exact hK' _ _ hK

set_option maxRecDepth 100000 in
set_option maxHeartbeats 1000000 in
theorem over_calls (x : Int) (hx : 0 ≤ x ∧ x < 4294967296) (w : World) (bt bm : Nat) (L : List (Pf × Int)) (hT : TabIs w bt bm L) :
    Calls Try.prog 63 #[.pointer (some ⟨bt, 0, none⟩), .int .u32 x] w fun e w' => ∃ v, e = .returned v ∧ Kd.R kP 26 w' w.heap.size (fun _ => True) v (overL L x 33) ∧ Below w.heap.size w w' := by
  have HT := Aside0.mk hT
  have hu := hT.used
  clear hT
  have HB := Aside0.mk (Below.refl w.heap.size w)
  have HS := Aside0.mk (fun i (hi : i ≤ 32) W => subnet_calls x i hx hi W)
  obtain ⟨U, hU⟩ : ∃ U, (usedV L).toArray = U := ⟨_, rfl⟩
  have HIX := Aside0.mk (fun i (hi : i < 33) W => ix_agg L i hi W)
  rw [hU] at hu HIX
  have HX := Aside0.mk hx
  clear hx hU
  go_enter Try.func63, Try.ntmps63
  go_wp2_with (first | (refine wpList_load_raw _ rfl 108 (.tmp 16) rfl _ rfl _ hu ?_))
  clear hu
  go_loopg [5, 18] 40 (fun kq v5 v18 w' => ∃ (i : Nat) (y : Int), v18 = .int .i64 y ∧ Aside0 (i ≤ 33 ∧ 34 - i ≤ kq ∧ y = (i : Int)) ∧ Aside0 (kq ≤ 40) ∧ Aside0 (Kd.R kP 26 w' w.heap.size (fun _ => True) v5 (overL L x i)) ∧ Aside0 (Below w.heap.size w w'))
  case atStart => exact ⟨0, 0, rfl, ⟨by omega⟩, ⟨by omega⟩, ⟨Kd.R_nil _ _ _ _ _⟩, HB⟩
  case round =>
    clear HB
    obtain ⟨i, y, rfl, HI, HK, HO, HB⟩ := hrel
    obtain rfl : y = (i : Int) := HI.out.2.2
    cases gk with
    | zero => exact absurd HI.out (by omega)
    | succ k1 =>
      by_cases c : (i : Int) < 33
      · have cb : decide ((i : Int) < 33) = true := decide_eq_true c
        have hi : i < 33 := by omega
        have HIL := Aside0.mk hi
        have hix := HIX.out i hi
        have c9 : i < 33 := hi
        clear c hi
        by_cases z : cnt L i = 0
        · have zb : (cnt L i == 0) = true := by simpa using z
          have HZ := Aside0.mk z
          clear z
          go_wp2
          go_roundg k1
          case measure => have := HK.out; omega
          case rel => exact ⟨i + 1, (i : Int) + 1, (by first | rfl | (simp; done) | (simp; have := HIL.out; unfold wrap64; omega)), ⟨by have := HI.out; have := HIL.out; omega⟩, ⟨by have := HK.out; omega⟩, ⟨by rw [overL_succ, hit_zero HZ.out]; simpa using HO.out⟩, HB⟩
        · have zb : (cnt L i == 0) = false := by simpa using z
          clear z
          go_wp2_with (first | (go_at_call 93; refine (HS.out i (by have := HIL.out; omega) _).mono ?_; rintro e w2 ⟨rfl, hb⟩))
          have hB2 := HB.out.trans (hb.mono HB.out.size)
          have hO2 := Kd.R_below HO.out hb
          have hB3 := hB2.alloc hB2.size (Obj.cells #[Value.int .u32 (par x i), Value.int .i64 (i : Int)] 26)
          have hT3 := HT.out.below hB3
          have hO3 := Kd.R_alloc hO2 (Obj.cells #[Value.int .u32 (par x i), Value.int .i64 (i : Int)] 26)
          have hbx := blk_new w2 (Obj.cells #[Value.int .u32 (par x i), Value.int .i64 (i : Int)] 26)
          have b0 : (w2.alloc (Obj.cells #[Value.int .u32 (par x i), Value.int .i64 (i : Int)] 26)).cell? ⟨w2.heap.size, 0, none⟩ = some (.int .u32 (par x i)) := by rw [blk_cell hbx]; rfl
          have b1 : (w2.alloc (Obj.cells #[Value.int .u32 (par x i), Value.int .i64 (i : Int)] 26)).cell? ⟨w2.heap.size, 1, none⟩ = some (.int .i64 (i : Int)) := by rw [blk_cell hbx]; rfl
          generalize (w2.alloc (Obj.cells #[Value.int .u32 (par x i), Value.int .i64 (i : Int)] 26)) = w3 at hB3 hT3 hO3 b0 b1 ⊢
          have c0 := hT3.cell0
          have hlook := fun n => (hT3.map.at (w' := w3.drewN n) rfl).look keyP true Try.underlying107 (z := .int .i64 0) (e := 3) (by kernel_rfl) (par_wf (i := i) HX.out (by have := HIL.out; omega))
          have HB3 := Aside0.mk hB3
          have HO3 := Aside0.mk hO3
          clear hbx hB2 hO2 hB3 hT3 hO3 hb HO HB
          simp only [eP] at hlook
          obtain ⟨P0, hP0⟩ : ∃ P0, par x i = P0 := ⟨_, rfl⟩
          simp only [hP0] at hlook b0 ⊢
          have HP := Aside0.mk hP0
          clear hP0
          cases hl : lkL L (P0, (i : Int)) with
          | some v0 =>
            simp only [hl, if_true, eV] at hlook
            have HL := Aside0.mk hl
            clear hl
            go_quiet (fail)
            go_wp2_with (first | ((with_reducible refine gate_builtin (b := .append) (xs := #[.tmp 40, .tmp 42]) rfl ?_); at_builtin; refine Kd.R_append kP (w0 := w) w.heap.size rfl (.tmp 40) (.tmp 42) 22 26 (.agg #[(.int .u32 0), (.int .i64 0)]) 16 rfl Try.underlying22 infoP rfl (by decide) (by omega) u5 (overL L x i) (P0, (i : Int)) [.int .u32 P0, .int .i64 (i : Int)] (fun _ => True) (fun _ => False) rfl rfl ?aP (fun _ hk => hk.elim) ?aF ?aO ?aB ?aS ?aL ?_; (case aP => exact kP_mkM _ _ _ (P0, (i : Int))); (case aB => exact pw_below_drewN HB3.out _); (case aF => exact (fun _ _ => trivial)); (case aO => exact Kd.R_drewN HO3.out _); (case aS => exact HB3.out.size); (case aL => have := overL_len L x i; have := HIL.out; omega); intro v43 w4 ho hb hg hat; have n0_ := Aside0.mk hb; have n1_ := Aside0.mk ho; clear hb ho hg hat))
            go_roundg k1
            case measure => have := HK.out; omega
            case rel => exact ⟨i + 1, (i : Int) + 1, (by first | rfl | (simp; done) | (simp; have := HIL.out; unfold wrap64; omega)), ⟨by have := HI.out; have := HIL.out; omega⟩, ⟨by have := HK.out; omega⟩, ⟨by rw [overL_succ, hit, HP.out, HL.out]; exact n1_.out⟩, n0_⟩
          | none =>
            simp only [hl, if_true, eV] at hlook
            have HL := Aside0.mk hl
            clear hl
            go_quiet (fail)
            go_wp2
            go_roundg k1
            case measure => have := HK.out; omega
            case rel => exact ⟨i + 1, (i : Int) + 1, (by first | rfl | (simp; done) | (simp; have := HIL.out; unfold wrap64; omega)), ⟨by have := HI.out; have := HIL.out; omega⟩, ⟨by have := HK.out; omega⟩, ⟨by rw [overL_succ, hit, HP.out, HL.out]; simpa using Kd.R_drewN HO3.out _⟩, ⟨pw_below_drewN HB3.out _⟩⟩
      · have cb : decide ((i : Int) < 33) = false := decide_eq_false c
        have e33 : i = 33 := by have := HI.out; omega
        clear c
        go_wp2
        go_ret
        exact ⟨u5, rfl, by rw [← e33]; exact HO.out, HB.out⟩
end Go.Proofs.Ytaplkfnolimdmaa.Table
namespace Go.Proofs.Ytaplkfnolimdmaa.Table
open Go.RowKit Go.Proofs.Ytaplkfnolimdmaa.PC Go.Proofs.YtaplkfnolimdmaaW.PrintWords Go.Proofs.YtaplkfnolimdmaaW.PrintLast Go.Proofs.YtaplkfnolimdmaaW.PrintMore Go.Proofs.YtaplkfnolimdmaaW.Bits Go.Proofs.YtaplkfnolimdmaaW.MapRaw
set_option linter.unusedVariables false
set_option linter.unusedSimpArgs false

theorem kP_open {w : World} {x : Pf} {cs : List Value} (h : kP.K w x cs) : cs = [.int .u32 x.1, .int .i64 x.2] := by
  obtain ⟨_, _, rfl, rfl, rfl⟩ := h
  rfl
def rdP (xs : List Pf) (i : Int) : Pf := xs.getD i.toNat (0, 0)
theorem at_P {w : World} {A : Option Addr} {n : Nat} {xs : List Pf} (h : Kd.C kP w A n xs) (i : Int) (h0 : 0 ≤ i) (h1 : i < n) : ∃ ad, A = some ad ∧ w.cell? (ad.add (i.toNat * 2)) = some (.int .u32 (rdP xs i).1) ∧ w.cell? ⟨(ad.add (i.toNat * 2)).block, (ad.add (i.toNat * 2)).off + 1, none⟩ = some (.int .i64 (rdP xs i).2) := by
  obtain ⟨ad, c, e, _, hK, hc0⟩ := Kd.C_get h (0, 0) i h0 h1
  have hc : ∀ j u, c[j]? = some u → w.cell? (ad.add (i.toNat * 2 + j)) = some u := hc0
  obtain rfl := kP_open hK
  exact ⟨ad, e, hc 0 _ rfl, by rw [← add_field _ _ 1 (by omega)]; exact hc 1 _ rfl⟩

theorem results_cell_row3 {P : Program} {fn : Func} {p u v : Tmp} {ty : TypeId} (h : fn.results = #[.cell p ty, .tmp u, .tmp v]) (tmps : Array Value) (w : World) (g : Nat) (t : TypeId) (cs : Array Value) (fr : Nat × Nat) (d : TypeDesc)
    (hp : tmps.getD p undef = .pointer (some ⟨g, 0, none⟩)) (hg : w.heap[g]? = some (.cells cs t fr))
    (hu : P.underlying ty = some d) (hd : (match d with | .struct _ | .array _ _ => true | _ => false) = true) (hi : (P.info? ty).map (·.size) = some cs.size) :
    (results fn tmps).run P w = .ok (.tuple #[.agg cs, tmps.getD u undef, tmps.getD v undef]) w := by
  have hp' : tmps[p]?.getD undef = .pointer (some ⟨g, 0, none⟩) := by simpa using hp
  simp [results, h, hp', asAddr, run_loadVar_row w g t ty cs fr d hg hu hd hi]
theorem infoPs : (Try.prog.info? 26).map (·.size) = some 2 := by kernel_rfl

/-- The longest prefix in which an address is, its number, and whether there is one. -/
def longest (L : List (Pf × Int)) (x : Int) : Pf × Int × Bool :=
  match (overL L x 33).getLast? with
  | none => ((0, 0), 0, false)
  | some p => (p, (lkL L p).getD 0, true)

theorem overL_wf {L : List (Pf × Int)} {x : Int} (hx : 0 ≤ x ∧ x < 4294967296) {p : Pf} (h : p ∈ overL L x 33) : wfP p ∧ ∃ v, lkL L p = some v := by
  unfold overL at h
  obtain ⟨i, hi, he⟩ := List.mem_filterMap.1 h
  have hi' : i < 33 := by simpa using hi
  unfold hit at he
  split at he
  · rename_i hs
    cases he
    exact ⟨par_wf hx (by omega), Option.isSome_iff_exists.1 hs⟩
  · cases he

/-- A store of what stands there already turns nothing. -/
theorem setCell_same {w : World} {g i : Nat} {t : TypeId} {cs : Array Value} {v : Value} (h : w.heap[g]? = some (.cells cs t (0, 0))) (hi : cs[i]? = some v) : w.setCell ⟨g, i, none⟩ v = w := by
  have hb := blk_set h i v
  have e : cs.setIfInBounds i v = cs := by
    apply Array.ext_getElem?
    intro j
    rw [Array.getElem?_setIfInBounds]
    split
    · rename_i e
      subst e
      obtain ⟨hl, he⟩ := Array.getElem?_eq_some_iff.1 hi
      rw [if_pos hl, hi]
    · rfl
  rw [e] at hb
  have hh : (w.setCell ⟨g, i, none⟩ v).heap = w.heap := by
    apply Array.ext_getElem?
    intro k
    by_cases hk : k = g
    · subst hk; rw [hb, h]
    · exact Below.heap_setCell _ _ _ _ hk
  have hw : w.setCell ⟨g, i, none⟩ v = { w with heap := (w.setCell ⟨g, i, none⟩ v).heap } := rfl
  rw [hw, hh]

set_option maxRecDepth 100000 in
set_option maxHeartbeats 1000000 in
theorem longest_calls (x : Int) (hx : 0 ≤ x ∧ x < 4294967296) (w : World) (bt bm : Nat) (L : List (Pf × Int)) (hT : TabIs w bt bm L) :
    Calls Try.prog 21 #[.pointer (some ⟨bt, 0, none⟩), .int .u32 x] w fun e w' => e = .returned (.tuple #[eP (longest L x).1, .int .i64 (longest L x).2.1, .bool (longest L x).2.2]) ∧ Below w.heap.size w w' := by
  have HT := Aside0.mk hT
  clear hT
  have HV := Aside0.mk (fun W h => over_calls x hx W bt bm L h)
  have HW := Aside0.mk (fun p h => overL_wf (L := L) (p := p) hx h)
  have hlen := overL_len L x 33
  obtain ⟨O, hO⟩ : ∃ O, overL L x 33 = O := ⟨_, rfl⟩
  have e0 : longest L x = match O.getLast? with | none => ((0, 0), 0, false) | some p => (p, (lkL L p).getD 0, true) := by unfold longest; rw [hO]
  rw [hO] at HV HW hlen
  have HX := Aside0.mk hx
  have HLEN := Aside0.mk hlen
  clear hx hO hlen
  have hB1 := (Below.refl w.heap.size w).alloc (Nat.le_refl _) (Obj.cells #[Value.int .u32 0, Value.int .i64 0] 26)
  have hT1 := Aside0.mk (HT.out.below hB1)
  have HB1 := Aside0.mk hB1
  clear hB1
  rcases List.eq_nil_or_concat O with rfl | ⟨O1, q, e⟩
  · have e1 : longest L x = ((0, 0), 0, false) := e0
    rw [e1]
    clear e0 e1
    simp only [eP]
    go_enter Try.func21, Try.ntmps21
    go_wp2_with (first | (go_at_call 63; refine (HV.out _ hT1.out).mono ?_; rintro e w2 ⟨u, rfl, ho, hb⟩; obtain ⟨Ao, co, eo⟩ := Kd.R_slice ho; subst eo; have hbx := (blk_below (blk_new w (Obj.cells #[Value.int .u32 0, Value.int .i64 0] 26)) hb); have b0 : w2.cell? ⟨w.heap.size, 0, none⟩ = some (.int .u32 0) := (by rw [blk_cell hbx]; rfl); have b1 : w2.cell? ⟨w.heap.size, 1, none⟩ = some (.int .i64 0) := (by rw [blk_cell hbx]; rfl); have f0 := blk_frozen hbx 0; have f1 := blk_frozen hbx 1; have HBX := Aside0.mk hbx; have HB := Aside0.mk hb; have HO := Aside0.mk ho; clear hb ho hbx))
    (try simp only [Exit.inBlock, Exit.then])
    have hbx2 := blk_put (blk_put HBX.out 0 (.int .u32 0) rfl) 1 (.int .i64 0) rfl
    have hB2 := HB1.out.trans (HB.out.mono HB1.out.size)
    refine bodyPost_ret (results_cell_row3 rfl _ _ w.heap.size 26 _ (0, 0) _ rfl hbx2 Try.underlying26 rfl infoPs) rfl ⟨rfl, ?_⟩
    exact (hB2.setCell (p := ⟨w.heap.size, 0, none⟩) (Nat.le_refl _) _).setCell (p := ⟨w.heap.size, 1, none⟩) (Nat.le_refl _) _
  · have e : O = O1 ++ [q] := by rw [e]; simp
    subst e
    have e1 : longest L x = (q, (lkL L q).getD 0, true) := by rw [e0]; simp
    obtain ⟨v, hv⟩ := (HW.out q (by simp)).2
    have hq := (HW.out q (by simp)).1
    rw [hv] at e1
    rw [e1]
    clear e0 e1
    simp only [eP, Option.getD_some]
    have hwl : wrap64 (O1.length : Int) = (O1.length : Int) := by have := HLEN.out; simp at this; exact w64 (by omega) (by omega)
    have hlt : (O1.length : Int) < (O1.length : Int) + 1 := by omega
    have h0l : 0 ≤ (O1.length : Int) := by omega
    go_enter Try.func21, Try.ntmps21
    go_wp2_with (first | (go_at_call 63; refine (HV.out _ hT1.out).mono ?_; rintro e w2 ⟨u, rfl, ho, hb⟩; obtain ⟨Ao, co, eo⟩ := Kd.R_slice ho; subst eo; have hbx := (blk_below (blk_new w (Obj.cells #[Value.int .u32 0, Value.int .i64 0] 26)) hb); have b0 : w2.cell? ⟨w.heap.size, 0, none⟩ = some (.int .u32 0) := (by rw [blk_cell hbx]; rfl); have b1 : w2.cell? ⟨w.heap.size, 1, none⟩ = some (.int .i64 0) := (by rw [blk_cell hbx]; rfl); have f0 := blk_frozen hbx 0; have f1 := blk_frozen hbx 1; have hlen : (O1 ++ [q]).length = O1.length + 1 := (by simp); have hC := (Kd.R_reads' ho).2.2; have hro := (Kd.R_reads' ho).2.1; obtain ⟨ad, ea, d0, d1⟩ := at_P hC (O1.length : Int) (by omega) (by rw [hlen]; omega); cases ea; have hrq : rdP (O1 ++ [q]) (O1.length : Int) = q := (by unfold rdP; simp); rw [hrq] at d0 d1; rw [hlen]; (try simp only [Int.toNat_natCast] at d0 d1); have HBX := Aside0.mk hbx; clear hC hro hlen hrq; have HB := Aside0.mk hb; have HO := Aside0.mk ho; clear hb ho hbx))
    have hbx2 := blk_put (blk_put HBX.out 0 (.int .u32 q.1) rfl) 1 (.int .i64 q.2) rfl
    have hB2 := HB1.out.trans (HB.out.mono HB1.out.size)
    have hB3 := (hB2.setCell (p := ⟨w.heap.size, 0, none⟩) (Nat.le_refl _) (.int .u32 q.1)).setCell (p := ⟨w.heap.size, 1, none⟩) (Nat.le_refl _) (.int .i64 q.2)
    have hT3 := HT.out.below hB3
    generalize ((w2.setCell ⟨w.heap.size, 0, none⟩ (Value.int .u32 q.1)).setCell ⟨w.heap.size, 1, none⟩ (Value.int .i64 q.2)) = w3 at hbx2 hB3 hT3 ⊢
    have c0 := hT3.cell0
    have b20 : w3.cell? ⟨w.heap.size, 0, none⟩ = some (.int .u32 q.1) := by rw [blk_cell hbx2]; rfl
    have b21 : w3.cell? ⟨w.heap.size, 1, none⟩ = some (.int .i64 q.2) := by rw [blk_cell hbx2]; rfl
    have f20 := blk_frozen hbx2 0
    have f21 := blk_frozen hbx2 1
    have s20 := fun n => setCell_same (blk_drewN hbx2 n) (i := 0) (v := .int .u32 q.1) rfl
    have s21 := fun n => setCell_same (blk_drewN hbx2 n) (i := 1) (v := .int .i64 q.2) rfl
    have hlook := fun n => (hT3.map.at (w' := w3.drewN n) rfl).look keyP false Try.underlying107 (z := .int .i64 0) (e := 3) (by kernel_rfl) hq
    rw [hv] at hlook
    simp only [eP, eV] at hlook
    have HB3 := Aside0.mk hB3
    have HBX2 := Aside0.mk hbx2
    clear hbx2 hB2 hB3 hT3 d0 d1 b0 b1 f0 f1 hwl hlt h0l hv hq
    go_quiet (fail)
    go_wp2
    (try simp only [Exit.inBlock, Exit.then])
    refine bodyPost_ret (results_cell_row3 rfl _ _ w.heap.size 26 _ (0, 0) _ rfl (blk_drewN HBX2.out _) Try.underlying26 rfl infoPs) rfl ⟨rfl, pw_below_drewN HB3.out _⟩
end Go.Proofs.Ytaplkfnolimdmaa.Table
namespace Go.Proofs.Ytaplkfnolimdmaa.Table
open Go.RowKit Go.Proofs.Ytaplkfnolimdmaa.PC Go.Proofs.YtaplkfnolimdmaaW.PrintWords Go.Proofs.YtaplkfnolimdmaaW.PrintLast Go.Proofs.YtaplkfnolimdmaaW.PrintMore Go.Proofs.YtaplkfnolimdmaaW.Bits Go.Proofs.YtaplkfnolimdmaaW.MapRaw
set_option linter.unusedVariables false
set_option linter.unusedSimpArgs false

theorem run_len_map {P : Program} {t k e ty : TypeId} (ht : P.underlying t = some (.map k e)) {κ ν : Type} [DecidableEq κ] {eK : κ → Value} {ok : κ → Prop} {eV : ν → Value} {w : World} {b : Nat} {L : List (κ × ν)} (h : MapIs w eK ok eV b L) :
    (Builtin.len_ #[t] ty #[.map (some b)]).run P w = .ok (goInt L.length) w := by
  obtain ⟨es, clock, hb, hs⟩ := h.len
  simp [Builtin.len_, run_underlying ht, MapKept.run_getObj_map hb, Result.andThen, hs]

set_option maxRecDepth 100000 in
theorem len_calls (w : World) (bt bm : Nat) (L : List (Pf × Int)) (hT : TabIs w bt bm L) : Calls Try.prog 30 #[.pointer (some ⟨bt, 0, none⟩)] w fun e w' => e = .returned (.int .i64 (L.length : Int)) ∧ w' = w := by
  have c0 := hT.cell0
  have hl := fun ty => run_len_map (ty := ty) Try.underlying107 hT.map
  clear hT
  go_enter Try.func30, Try.ntmps30
  go_wp2
  go_ret
  exact ⟨rfl, rfl⟩

abbrev q8 : Pf := (167772160, 8)
abbrev q16 : Pf := (167837696, 16)
theorem wf8 : wfP q8 := by unfold wfP; decide
theorem wf16 : wfP q16 := by unfold wfP; decide
theorem chk8 : chk q8.1 q8.2 = 0 := by kernel_rfl
theorem chk16 : chk q16.1 q16.2 = 0 := by kernel_rfl
abbrev L2 : List (Pf × Int) := [(q8, 1), (q16, 2)]
theorem put8 : (if chk q8.1 q8.2 = 0 then putL ([] : List (Pf × Int)) q8 (1 : Int) else []) = [(q8, 1)] := by rw [if_pos chk8]; kernel_rfl
theorem put16 : (if chk q16.1 q16.2 = 0 then putL ([(q8, 1)] : List (Pf × Int)) q16 (2 : Int) else [(q8, 1)]) = L2 := by rw [if_pos chk16]; kernel_rfl
theorem long1 : longest L2 167838211 = (q16, 2, true) := by kernel_rfl
theorem long2 : longest L2 167903747 = (q8, 1, true) := by kernel_rfl

set_option maxRecDepth 100000 in
set_option maxHeartbeats 2000000 in
theorem awake_calls (w : World) : Calls Try.prog 15 #[] w fun e w' => e = .returned (.bool true) ∧ Below w.heap.size w w' := by
  have P1 := Aside0.mk (fun W bt bm h => by have := put_calls q8 1 wf8 W bt bm [] h (by simp); rw [put8, chk8] at this; exact this)
  have P2 := Aside0.mk (fun W bt bm h => by have := put_calls q16 2 wf16 W bt bm [(q8, 1)] h (by simp); rw [put16, chk16] at this; exact this)
  have G1 := Aside0.mk (fun W bt bm h => by have := longest_calls 167838211 (by omega) W bt bm L2 h; rw [long1] at this; simp only [eP] at this; exact this)
  have G2 := Aside0.mk (fun W bt bm h => by have := longest_calls 167903747 (by omega) W bt bm L2 h; rw [long2] at this; simp only [eP] at this; exact this)
  go_enter Try.func15, Try.ntmps15
  go_wp2_with (first
    | (go_at_call 26; refine (new_calls _).mono ?_; rintro e w1 ⟨bt, bm, rfl, hT0, h1, h2, hb⟩; have T0 := Aside0.mk hT0; have B1 := Aside0.mk (show w.heap.size ≤ bt ∧ w.heap.size ≤ bm from ⟨h1, h2⟩); have HB := Aside0.mk hb; clear hT0 h1 h2 hb)
    | (go_at_call 27; refine (P1.out _ bt bm T0.out).mono ?_; rintro e w2 ⟨rfl, hT1, hu⟩; have T1 := Aside0.mk hT1; have n0_ := Aside0.mk (HB.out.trans (hu.below HB.out.size (fun k hk => by rcases hk with rfl | rfl; exact B1.out.1; exact B1.out.2))); clear T0 HB hT1 hu; have HB := n0_; clear n0_)
    | (go_at_call 27; refine (P2.out _ bt bm T1.out).mono ?_; rintro e w3 ⟨rfl, hT2, hu⟩; have T2 := Aside0.mk hT2; have n0_ := Aside0.mk (HB.out.trans (hu.below HB.out.size (fun k hk => by rcases hk with rfl | rfl; exact B1.out.1; exact B1.out.2))); clear T1 HB hT2 hu; have HB := n0_; clear n0_)
    | (go_at_call 21; refine (G1.out _ bt bm T2.out).mono ?_; rintro e w4 ⟨rfl, hu⟩; have n0_ := Aside0.mk (HB.out.trans (hu.mono HB.out.size)); have n1_ := Aside0.mk (T2.out.below hu); clear HB hu T2; have HB := n0_; have T3 := n1_; clear n0_ n1_)
    | (go_at_call 21; refine (G2.out _ bt bm ?tT).mono ?_; (case tT => exact T3.out.below ((Below.refl _ _).alloc (Nat.le_refl _) _)); rintro e w5 ⟨rfl, hu⟩; have n0_ := Aside0.mk ((HB.out.alloc HB.out.size (Obj.cells #[Value.int .u32 167837696, Value.int .i64 16] 26)).trans (hu.mono (HB.out.alloc HB.out.size (Obj.cells #[Value.int .u32 167837696, Value.int .i64 16] 26)).size)); have n1_ := Aside0.mk ((T3.out.below ((Below.refl _ _).alloc (Nat.le_refl _) (Obj.cells #[Value.int .u32 167837696, Value.int .i64 16] 26))).below hu); have hbx := blk_below (blk_new w4 (Obj.cells #[Value.int .u32 167837696, Value.int .i64 16] 26)) hu; have b1 : (w5.alloc (Obj.cells #[Value.int .u32 167772160, Value.int .i64 8] 26)).cell? ⟨w4.heap.size, 1, none⟩ = some (.int .i64 16) := (by rw [blk_cell (blk_alloc hbx (Obj.cells #[Value.int .u32 167772160, Value.int .i64 8] 26))]; rfl); clear HB hu T3 hbx; have HB := n0_; have T4 := n1_; clear n0_ n1_)
    | (go_at_call 30; refine (len_calls _ bt bm L2 ?tT).mono ?_; (case tT => exact T4.out.below ((Below.refl _ _).alloc (Nat.le_refl _) _)); rintro e w6 ⟨rfl, rfl⟩; have n0_ := Aside0.mk (HB.out.alloc HB.out.size (Obj.cells #[Value.int .u32 167772160, Value.int .i64 8] 26)); clear HB; have HB := n0_; clear n0_))
  go_ret
  exact ⟨rfl, HB.out⟩
end Go.Proofs.Ytaplkfnolimdmaa.Table
namespace Go.Proofs.Ytaplkfnolimdmaa.Table
open Go.RowKit Go.Proofs.Ytaplkfnolimdmaa.PC Go.Proofs.YtaplkfnolimdmaaW.PrintWords Go.Proofs.YtaplkfnolimdmaaW.PrintLast Go.Proofs.YtaplkfnolimdmaaW.PrintMore Go.Proofs.YtaplkfnolimdmaaW.Bits Go.Proofs.YtaplkfnolimdmaaW.MapRaw
set_option linter.unusedVariables false
set_option linter.unusedSimpArgs false

set_option maxRecDepth 100000 in
set_option maxHeartbeats 1000000 in
theorem at_calls (p : Pf) (hp : wfP p) (w : World) (bt bm : Nat) (L : List (Pf × Int)) (hT : TabIs w bt bm L) :
    Calls Try.prog 23 #[.pointer (some ⟨bt, 0, none⟩), .agg #[.int .u32 p.1, .int .i64 p.2]] w fun e w' => e = .returned (.tuple #[.int .i64 ((lkL L p).getD 0), .bool (lkL L p).isSome]) ∧ Below w.heap.size w w' := by
  obtain ⟨p0, p1⟩ := p
  have hB1 := (Below.refl w.heap.size w).alloc (Nat.le_refl _) (Obj.cells #[Value.int .u32 p0, Value.int .i64 p1] 26)
  have hT1 := hT.below hB1
  have hbx := blk_new w (Obj.cells #[Value.int .u32 p0, Value.int .i64 p1] 26)
  have b0 : (w.alloc (Obj.cells #[Value.int .u32 p0, Value.int .i64 p1] 26)).cell? ⟨w.heap.size, 0, none⟩ = some (.int .u32 p0) := by rw [blk_cell hbx]; rfl
  have b1 : (w.alloc (Obj.cells #[Value.int .u32 p0, Value.int .i64 p1] 26)).cell? ⟨w.heap.size, 1, none⟩ = some (.int .i64 p1) := by rw [blk_cell hbx]; rfl
  have c0 := hT1.cell0
  have hlook := fun n => (hT1.map.at (w' := (w.alloc (Obj.cells #[Value.int .u32 p0, Value.int .i64 p1] 26)).drewN n) rfl).look keyP true Try.underlying107 (z := .int .i64 0) (e := 3) (by kernel_rfl) hp
  simp only [eP] at hlook
  have HB1 := Aside0.mk hB1
  clear hT hT1 hbx hB1
  obtain ⟨v, hv⟩ : ∃ v, (lkL L (p0, p1)) = v := ⟨_, rfl⟩
  rw [hv] at hlook ⊢
  clear hv
  cases v with
  | some v0 =>
    simp only [if_true, eV] at hlook
    simp only [Option.getD_some, Option.isSome_some]
    go_enter Try.func23, Try.ntmps23
    go_wp2
    go_quiet (fail)
    go_wp2
    go_ret2
    exact ⟨rfl, pw_below_drewN HB1.out _⟩
  | none =>
    simp only [if_true, eV] at hlook
    simp only [Option.getD_none, Option.isSome_none]
    go_enter Try.func23, Try.ntmps23
    go_wp2
    go_quiet (fail)
    go_wp2
    go_ret2
    exact ⟨rfl, pw_below_drewN HB1.out _⟩
end Go.Proofs.Ytaplkfnolimdmaa.Table
namespace Go.Proofs.Ytaplkfnolimdmaa.Table
open Go.RowKit Go.Proofs.Ytaplkfnolimdmaa.PC Go.Proofs.YtaplkfnolimdmaaW.PrintWords Go.Proofs.YtaplkfnolimdmaaW.PrintLast Go.Proofs.YtaplkfnolimdmaaW.PrintMore Go.Proofs.YtaplkfnolimdmaaW.Bits Go.Proofs.YtaplkfnolimdmaaW.MapRaw
set_option linter.unusedVariables false
set_option linter.unusedSimpArgs false

theorem cnt_del {L : List (Pf × Int)} {p : Pf} {v : Int} (h : lkL L p = some v) (i : Nat) : cnt (delL L p) i + (if p.2 = (i : Int) then 1 else 0) = cnt L i := by
  unfold cnt
  induction L with
  | nil => cases h
  | cons x l ih =>
    unfold delL
    unfold lkL at h
    by_cases e : x.1 = p
    · rw [if_pos e]
      simp only [List.filter_cons, e]
      by_cases hi : p.2 = (i : Int)
      · simp only [hi, decide_true, if_true, List.length_cons]
        omega
      · simp [hi]
    · rw [if_neg e] at h ⊢
      have ih := ih h
      simp only [List.filter_cons]
      split
      · simp only [List.length_cons, Int.natCast_add, Int.natCast_one]
        omega
      · exact ih
theorem bits_del {L : List (Pf × Int)} {p : Pf} (h : ∀ x ∈ L, 0 ≤ x.1.2 ∧ x.1.2 ≤ 32) : ∀ x ∈ delL L p, 0 ≤ x.1.2 ∧ x.1.2 ≤ 32 := by
  induction L with
  | nil => intro x hx; cases hx
  | cons y l ih =>
    intro x hx
    unfold delL at hx
    split at hx
    · exact h x (by simp [hx])
    · rcases List.mem_cons.1 hx with e | e
      · rw [e]; exact h y (by simp)
      · exact ih (fun z hz => h z (by simp [hz])) x e
theorem cells_del {bm : Nat} {L : List (Pf × Int)} {p : Pf} {v : Int} (h : lkL L p = some v) (hp : 0 ≤ p.2 ∧ p.2 ≤ 32) : (tabCells bm L).setIfInBounds (p.2.toNat + 1) (.int .i64 (cnt L p.2.toNat - 1)) = tabCells bm (delL L p) := by
  unfold tabCells
  simp only [List.setIfInBounds_toArray, List.set_cons_succ]
  congr 2
  apply List.ext_getElem?
  intro i
  rw [List.getElem?_set, List.getElem?_map, List.getElem?_map]
  by_cases e : p.2.toNat = i
  · subst e
    rw [if_pos rfl, List.getElem?_range (show p.2.toNat < 33 by omega)]
    simp only [List.length_map, List.length_range, Option.map_some]
    rw [if_pos (by omega)]
    have := cnt_del h p.2.toNat
    rw [if_pos (by omega)] at this
    rw [show cnt L p.2.toNat - 1 = cnt (delL L p) p.2.toNat by omega]
  · rw [if_neg e]
    by_cases hi : i < 33
    · rw [List.getElem?_range hi]
      simp only [Option.map_some]
      have := cnt_del h i
      rw [if_neg (by omega)] at this
      rw [show cnt L i = cnt (delL L p) i by omega]
    · rw [List.getElem?_eq_none (by simp; omega)]
      rfl
theorem wpList_delete_raw {κ ν : Type} [DecidableEq κ] {P : Program} {k e : TypeId} {eK : κ → Value} {ok : κ → Prop} {eV : ν → Value} {w : World} {b : Nat} {L : List (κ × ν)} {ops : Array Oper} {rest : List Oper} {o : Oper} {a : Act} {Q : Exit → Act → World → Prop}
    (hg : o.guard = none) (m x : Operand) (t : TypeId) (hop : o.op = Op.call { callee := Callee.builtin Builtin.delete, args := #[m, x], argTypes := #[t, k] }) (h : MapIs w eK ok eV b L) (K : Key P k eK ok) (ht : P.underlying t = some (.map k e)) {p : κ} (hp : ok p)
    (hm : a.eval m = .map (some b)) (hx : a.eval x = eK p) (hK : ∀ w', MapIs w' eK ok eV b (delL L p) → w.grownBy w' (some b) → w'.heap.size = w.heap.size → wpList P ops Q rest (a.put o.dst (.tuple #[])) w') : wpList P ops Q (o :: rest) a w := by
  refine wpList_plain hg fun K' hK' => ?_
  obtain ⟨w', hrun, r1, r2, r3⟩ := h.delete (P := P) K (ty := o.type) ht hp
  unfold Oper.wp
  simp [execOp, hop, resolve, invoke, builtin, hm, hx, hrun, Result.andThen]
  exact hK' _ _ (hK w' r1 r2 r3)

set_option maxRecDepth 100000 in
set_option maxHeartbeats 2000000 in
theorem drop_calls (p : Pf) (v0 : Int) (hp : wfP p) (w : World) (bt bm : Nat) (L : List (Pf × Int)) (hT : TabIs w bt bm L) (hL : lkL L p = some v0) (hq : chk p.1 p.2 = 0) (hlen : L.length ≤ 1000000) :
    Calls Try.prog 29 #[.pointer (some ⟨bt, 0, none⟩), .agg #[.int .u32 p.1, .int .i64 p.2]] w fun e w' => e = .returned (.int .i64 0) ∧ TabIs w' bt bm (delL L p) ∧ But (fun k => k = bt ∨ k = bm) w w' := by
  have HC := Aside0.mk (fun W => by have := check_calls p hp W; rw [hq] at this; exact this)
  have HT := Aside0.mk hT
  have HQ := Aside0.mk hq
  clear hT hq
  obtain ⟨p0, p1⟩ := p
  go_enter Try.func29, Try.ntmps29
  go_wp2_with (first | (go_at_call 56; refine (HC.out _).mono ?_; rintro e w2 ⟨rfl, hb⟩))
  have hsz : w.heap.size < (w.alloc (Obj.cells #[Value.int IntKind.u32 p0, Value.int IntKind.i64 p1] 26)).heap.size := by simp
  have hT1 := HT.out.below ((Below.refl w.heap.size w).alloc (Nat.le_refl _) (Obj.cells #[Value.int IntKind.u32 p0, Value.int IntKind.i64 p1] 26))
  have hT2 := hT1.below hb
  have hbox : w2.heap[w.heap.size]? = some (Obj.cells #[Value.int IntKind.u32 p0, Value.int IntKind.i64 p1] 26) := (hb.block _ hsz).trans (Go.MapKept.heap_alloc w _).1
  have b0 : w2.cell? ⟨w.heap.size, 0, none⟩ = some (.int .u32 p0) := by rw [blk_cell hbox]; rfl
  have b1 : w2.cell? ⟨w.heap.size, 1, none⟩ = some (.int .i64 p1) := by rw [blk_cell hbox]; rfl
  have c0 := hT2.cell0
  have hlook := fun n => (hT2.map.at (w' := w2.drewN n) rfl).look keyP true Try.underlying107 (z := .int .i64 0) (e := 3) (by kernel_rfl) hp
  have hB02 : Below w.heap.size w w2 := ((Below.refl w.heap.size w).alloc (Nat.le_refl _) _).trans (hb.mono (by simp))
  have HB := Aside0.mk hB02
  have HT2 := Aside0.mk hT2
  have HBOX := Aside0.mk hbox
  clear hb hT1 hT2 hsz hbox hB02
  simp only [eP] at hlook
  have HL := Aside0.mk hL
  rw [hL] at hlook
  simp only [if_true, eV] at hlook
  clear hL
  go_quiet (fail)
  go_wp2
  refine wp_region_still_tail 5 (by kernel_rfl) (by kernel_rfl) ?_
  simp only [List.take_succ_cons, List.take_zero, List.drop_succ_cons, List.drop_zero]
  rw [show ({ heap := (w2.drewN nq).heap, tape := (w2.drewN nq).tape, drawn := (w2.drewN nq).drawn + 1, os := (w2.drewN nq).os, output := (w2.drewN nq).output } : World) = w2.drewN (nq + 1) from rfl]
  repeat still_step
  refine wpStill_nil ?_
  refine wpList_delete_raw rfl (.tmp 29) (.tmp 30) 107 rfl (HT2.out.map.at (w' := w2.drewN (nq + 1)) rfl) keyP Try.underlying107 hp rfl rfl ?_
  intro w3 hM3 hg3 hs3
  have hpb := chk_bits HQ.out
  have hb1 : p1.toNat ≤ 32 := by omega
  have hblk : w3.heap[bt]? = some (.cells (tabCells bm L) 110 (0, 0)) := (hg3.block bt HT2.out.lt.1 (fun e => HT2.out.ne (Option.some.inj e))).trans HT2.out.cells
  have hne : w.heap.size ≠ bm := by have := HT.out.lt.2; omega
  have hbox3 : w3.heap[w.heap.size]? = some (Obj.cells #[Value.int IntKind.u32 p0, Value.int IntKind.i64 p1] 26) := (hg3.block _ (Array.getElem?_eq_some_iff.1 HBOX.out).1 (fun e => hne (Option.some.inj e))).trans HBOX.out
  have d1 : w3.cell? ⟨w.heap.size, 1, none⟩ = some (.int .i64 p1) := by rw [blk_cell hbox3]; rfl
  have d2 : w3.cell? ⟨bt, p1.toNat + 1, none⟩ = some (.int .i64 (cnt L p1.toNat)) := by
    rw [blk_cell hblk]
    unfold tabCells
    simp [List.getElem?_map, List.getElem?_range (show p1.toNat < 33 by omega)]
  have f1 := blk_frozen hblk (p1.toNat + 1)
  have hix := ix_used bt p1 hpb.1 hpb.2
  have hbut := ((But.of_below HB.out).drewN (nq + 1)).trans (But.of_grown (S := fun k => k = bt ∨ k = bm) hg3 (fun k e => .inr (Option.some.inj e).symm))
  have HBLK := Aside0.mk hblk
  have HM3 := Aside0.mk hM3
  have HBUT := Aside0.mk hbut
  have HCD := Aside0.mk (cells_del (bm := bm) HL.out hpb)
  have hcl : 0 ≤ cnt L p1.toNat ∧ cnt L p1.toNat ≤ 1000000 := by
    unfold cnt
    have := List.length_filter_le (fun x : Pf × Int => decide (x.1.2 = (p1.toNat : Int))) L
    omega
  have HW := Aside0.mk (show wrap64 (cnt L p1.toNat - 1) = cnt L p1.toNat - 1 from w64 (by omega) (by omega))
  clear hblk hM3 hg3 hs3 hbut hlook c0 b0 b1 hcl hpb hne hbox3
  go_frame
  go_wp2
  refine wp_region_still_tail 11 (by kernel_rfl) (by kernel_rfl) ?_
  simp only [List.take_succ_cons, List.take_zero, List.drop_succ_cons, List.drop_zero]
  rw [show ({ heap := w3.heap, tape := w3.tape, drawn := w3.drawn + 1, os := w3.os, output := w3.output } : World) = w3.drewN 1 from rfl]
  repeat still_step
  refine wpStill_nil ?_
  go_wp2
  go_ret
  rw [HW.out]
  refine ⟨rfl, ⟨?_, ?_, bits_del HT2.out.bits⟩, ?_⟩
  · exact blk_put (w := w3.drewN 1) HBLK.out _ _ HCD.out
  · exact HM3.out.at (w' := (w3.drewN 1).setCell ⟨bt, p1.toNat + 1, none⟩ (Value.int .i64 (cnt L p1.toNat - 1))) (Below.heap_setCell _ _ _ _ (fun e => HT2.out.ne e.symm))
  · exact (HBUT.out.drewN 1).setCell (p := ⟨bt, p1.toNat + 1, none⟩) (.inl rfl) _
end Go.Proofs.Ytaplkfnolimdmaa.Table
