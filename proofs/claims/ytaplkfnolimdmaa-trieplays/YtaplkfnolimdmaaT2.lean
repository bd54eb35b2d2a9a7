/- trie.Table[int]: the iterator over rows: each in order, as long as it is asked for. -/
import Derived.Test.YtaplkfnolimdmaaT1
import Derived.RangeFuncNested
import Derived.RangeFuncBound
import Derived.RangeFuncCalls
import Derived.RangeFuncLeaves
import Derived.RangeFuncBox
import Derived.OwnWalkIn
import Derived.TacticsInMore
import Derived.LoopNIn
import Derived.LoopIn
import Derived.Deep.RegionHeld3
import Derived.Deep.RegionLaw
import Derived.Test.YtaplkfnolimdmaaMapRaw
import Derived.Maps.Range
import Derived.Maps.RangeWalk
import Derived.Test.YtaplkfnolimdmaaLeafI
namespace Go.Proofs.Ytaplkfnolimdmaa.Table
open Go.RowKit Go.Proofs.Ytaplkfnolimdmaa.PC Go.Proofs.YtaplkfnolimdmaaW.PrintWords Go.Proofs.YtaplkfnolimdmaaW.PrintLast Go.Proofs.YtaplkfnolimdmaaW.PrintMore Go.Proofs.YtaplkfnolimdmaaW.Bits Go.Proofs.YtaplkfnolimdmaaW.MapRaw
attribute [local go_sem] Oper.semAt_some
set_option linter.unusedVariables false
set_option linter.unusedSimpArgs false

abbrev Row := Pf × Int
def kRow : Kd Row := Kd.pair kP (Kd.int .i64)
theorem kRow_open {w : World} {x : Row} {cs : List Value} (h : kRow.K w x cs) : cs = [.int .u32 x.1.1, .int .i64 x.1.2, .int .i64 x.2] := by
  obtain ⟨a, b, rfl, h1, rfl⟩ := h
  rw [kP_open h1]
  rfl
theorem kRow_mkM (w : World) (base : Nat) (ok : Nat → Prop) (x : Row) : kRow.M w base ok x [.int .u32 x.1.1, .int .i64 x.1.2, .int .i64 x.2] := ⟨[.int .u32 x.1.1, .int .i64 x.1.2], [.int .i64 x.2], rfl, kP_mkM w base ok x.1, rfl⟩
theorem infoRow : (Try.prog.info? 144).map (fun i => (i.zero, i.size, i.bytes)) = some (some (.agg #[(.int .u32 0), (.int .i64 0), (.int .i64 0)]), 3, 24) := by kernel_rfl
abbrev r0 : Row := ((0, 0), 0)
/-- The rows' cells lie below n₀. -/
def RowsAt (n₀ : Nat) (W : World) (A : Option Addr) (rows : List Row) : Prop :=
  ∀ j, j < rows.length → ∃ ad : Addr, A = some ad ∧ ad.block < n₀ ∧ W.cell? (ad.add (j * 3)) = some (.int .u32 (rows.getD j r0).1.1) ∧ W.cell? ⟨(ad.add (j * 3)).block, (ad.add (j * 3)).off + 1, none⟩ = some (.int .i64 (rows.getD j r0).1.2) ∧ W.cell? ⟨(ad.add (j * 3)).block, (ad.add (j * 3)).off + 2, none⟩ = some (.int .i64 (rows.getD j r0).2)
theorem add_block (ad : Addr) (n : Nat) : (ad.add n).block = ad.block := by cases ad; simp only [Addr.add]; split <;> rfl
theorem RowsAt.below {n₀ : Nat} {W W' : World} {A : Option Addr} {rows : List Row} (h : RowsAt n₀ W A rows) (hb : Below n₀ W W') : RowsAt n₀ W' A rows := fun j hj => by
  obtain ⟨ad, e, hl, h0, h1, h2⟩ := h j hj
  have hl' : (ad.add (j * 3)).block < n₀ := by rw [add_block]; exact hl
  exact ⟨ad, e, hl, (hb.cell (p := ad.add (j * 3)) hl').trans h0, (hb.cell (p := ⟨(ad.add (j * 3)).block, (ad.add (j * 3)).off + 1, none⟩) hl').trans h1, (hb.cell (p := ⟨(ad.add (j * 3)).block, (ad.add (j * 3)).off + 2, none⟩) hl').trans h2⟩
theorem RowsAt.of_C {W : World} {A : Option Addr} {rows : List Row} (h : Kd.C kRow W A rows.length rows) : RowsAt W.heap.size W A rows := fun j hj => by
  obtain ⟨ad, c, e, _, hK, hc0⟩ := Kd.C_get h r0 (j : Int) (by omega) (by omega)
  have hc : ∀ i u, c[i]? = some u → W.cell? (ad.add ((j : Int).toNat * 3 + i)) = some u := hc0
  obtain rfl := kRow_open hK
  simp only [Int.toNat_natCast] at hc
  have c0 := hc 0 _ rfl
  have c1 := hc 1 _ rfl
  have c2 := hc 2 _ rfl
  refine ⟨ad, e, ?_, c0, by rw [← add_field _ _ 1 (by omega)]; exact c1, by rw [← add_field _ _ 2 (by omega)]; exact c2⟩
  subst e
  exact Kd.C_lt h (by omega) (by decide)
def encRow (x : Row) : Array Value := #[.agg #[.int .u32 x.1.1, .int .i64 x.1.2], .int .i64 x.2]

set_option maxRecDepth 100000 in
set_option maxHeartbeats 2000000 in
theorem gone1_in (F : Fence) (n : Nat) (h7 : F.fn 95) (hro : F.round = none) (hn : 1 ≤ n) (l Bs n₀ : Nat) (A : Option Addr) (c : Nat) (rows : List Row) (hlen : rows.length ≤ 1000000) (J Jx : List Row → World → Prop) (W : World) (hn₀ : n₀ ≤ W.heap.size) (hJ : AbidesFrom W.heap.size J)
    (hY : ∀ pre x W1, J pre W1 → pre.length < rows.length → YieldAt F (n - 1) Try.prog l (encRow x) W1 fun e W' =>
      (e = .returned (.bool true) ∧ J (pre ++ [x]) W' ∧ Below n₀ W1 W') ∨ (e = .returned (.bool false) ∧ Jx (pre ++ [x]) W'))
    (hBs : W.cell? ⟨Bs, 0, none⟩ = some (.slice A rows.length c)) (hC : RowsAt n₀ W A rows) (h0 : J [] W) :
    CallsIn F n Try.prog 95 #[.func (.yield l) #[] #[], .pointer (some ⟨Bs, 0, none⟩)] W fun e W' => (∃ v, e = .returned v) ∧
      ((∃ ys, ys = rows ∧ J ys W') ∨ (∃ pre, pre <+: rows ∧ Jx pre W')) := by
  have hu26 := Try.underlying26
  have hu144 := Try.underlying144
  have HC := Aside0.mk hC
  have HN := Aside0.mk hn₀
  have HJ := Aside0.mk hJ
  have HL := Aside0.mk hlen
  clear hC hn₀ hJ
  refine callsIn_of_wp Try.func95 rfl h7 ?_ hro
  simp only [Try.ntmps95, List.size_toArray, List.length_cons, List.length_nil, Nat.reduceAdd, Nat.reduceSub, Array.replicate_succ, Array.replicate_zero, List.push_toArray, List.append_toArray, List.nil_append, List.cons_append]
  gi_wp2
  gi_loopw [7] (fun i wr => ∃ k : Nat, k ≤ rows.length ∧ i = .int .i64 k ∧ Aside0 (J (rows.take k) wr) ∧ Aside0 (Below n₀ W wr))
    (fun i _ => rows.length - (intOf i).toNat)
  case atStart => exact ⟨0, Nat.zero_le _, rfl, ⟨h0⟩, ⟨Below.refl _ _⟩⟩
  case round =>
    obtain ⟨k, hk, rfl, hJs, hnx⟩ := hrel
    by_cases hlt : k < rows.length
    · obtain ⟨ad, rfl, hb, d0, d1, d2⟩ := (HC.out.below hnx.out) k hlt
      have e1 : (rows.getD k r0) = rows[k] := by rw [List.getD_eq_getElem?_getD, List.getElem?_eq_getElem hlt]; rfl
      have htk : rows.take (k + 1) = rows.take k ++ [rows.getD k r0] := by rw [List.take_succ_eq_append_getElem hlt, e1]
      have HTK := Aside0.mk htk
      clear e1 htk
      obtain ⟨x, hx⟩ : ∃ x, rows.getD k r0 = x := ⟨_, rfl⟩
      rw [hx] at d0 d1 d2 HTK
      clear hx
      have hbx := blk_new wr (.cells #[.int .u32 x.1.1, .int .i64 x.1.2, .int .i64 x.2] 144)
      obtain ⟨fn, tmps, assign, body, hy, hR⟩ := hY (rows.take k) x (wr.alloc (.cells #[.int .u32 x.1.1, .int .i64 x.1.2, .int .i64 x.2] 144)) (HJ.out _ _ _ none hJs.out (World.grownBy_alloc _ _ none) (fun r e => by cases e)) (by rw [List.length_take]; omega)
      dsimp only [encRow] at hy
      have HR := Aside0.mk hR
      have hq1 : (0 : Int) ≤ (k : Int) := by omega
      have hq2 : (k : Int) < (rows.length : Int) := by omega
      clear hY hR hb
      gi_wp2
      refine HR.out.mono ?_
      rintro e W3 (⟨rfl, hJ3, hk3⟩ | ⟨rfl, hJx3⟩)
      · have HJ3 := Aside0.mk hJ3
        have HK3 := Aside0.mk hk3
        clear hJ3 hk3
        gi_wp2
        go_roundw
        case rel => exact ⟨k + 1, by omega, (by first | (simp; done) | go_num), ⟨by rw [HTK.out]; exact HJ3.out⟩, ⟨(hnx.out.alloc (Nat.le_trans HN.out hnx.out.size) _).trans HK3.out⟩⟩
        case measure => simp [intOf]; omega
      · have HJ3 := Aside0.mk hJx3
        clear hJx3
        gi_wp2
        refine bodyPost_ret (results_none rfl _ _ _) rfl ?_
        exact ⟨⟨_, rfl⟩, .inr ⟨_, by rw [← HTK.out]; exact List.take_prefix _ _, HJ3.out⟩⟩
    · obtain rfl : k = rows.length := by omega
      gi_wp2
      go_end0
      exact ⟨⟨_, rfl⟩, .inl ⟨_, rfl, by have := hJs.out; rw [List.take_length] at this; exact this⟩⟩
theorem gone1_stops (F : Fence) (n : Nat) (h7 : F.fn 95) (hro : F.round = none) (hn : 1 ≤ n) (Bs n₀ : Nat) (A : Option Addr) (c : Nat) (rows : List Row) (hlen : rows.length ≤ 1000000) (w : World) (hBs : Bs < w.heap.size) (hn₀ : n₀ ≤ w.heap.size)
    (hc : w.cell? ⟨Bs, 0, none⟩ = some (.slice A rows.length c)) (hI : RowsAt n₀ w A rows) :
    SeqStopsK F n Try.prog 95 #[.pointer (some ⟨Bs, 0, none⟩)] encRow (Below n₀) (fun ys => ys = rows) (fun pre => pre <+: rows) rows.length w := fun l J Jx W hW hJ _ hY h0 =>
  gone1_in F n h7 hro hn l Bs n₀ A c rows hlen J Jx W (Nat.le_trans hn₀ hW.size) hJ hY ((hW.cell (p := ⟨Bs, 0, none⟩) hBs).trans hc) (hI.below (hW.mono hn₀)) h0
end Go.Proofs.Ytaplkfnolimdmaa.Table
namespace Go.Proofs.Ytaplkfnolimdmaa.Table
open Go.RowKit Go.Proofs.Ytaplkfnolimdmaa.PC Go.Proofs.YtaplkfnolimdmaaW.PrintWords Go.Proofs.YtaplkfnolimdmaaW.PrintLast Go.Proofs.YtaplkfnolimdmaaW.PrintMore Go.Proofs.YtaplkfnolimdmaaW.Bits Go.Proofs.YtaplkfnolimdmaaW.MapRaw
set_option linter.unusedVariables false
set_option linter.unusedSimpArgs false

def rowsOf (L : List (Pf × Int)) (l : List Pf) : List Row := l.map fun p => (p, (lkL L p).getD 0)
theorem rowsOf_take {L : List (Pf × Int)} {l : List Pf} {k : Nat} (hk : k < l.length) : rowsOf L (l.take (k + 1)) = rowsOf L (l.take k) ++ [(l[k], (lkL L l[k]).getD 0)] := by
  unfold rowsOf
  rw [List.take_succ_eq_append_getElem hk, List.map_append]
  rfl
theorem rowsOf_len (L : List (Pf × Int)) (l : List Pf) (k : Nat) : (rowsOf L (l.take k)).length ≤ k := by
  unfold rowsOf
  rw [List.length_map, List.length_take]
  omega
/-- What a world keeps in a round of gone: the table, the prefix's box and the rows' box. -/
structure GS (w0 : World) (bt bm : Nat) (L : List (Pf × Int)) (gb pb : Nat) (p : Pf) (v : Value) (W : World) : Prop where
  tab : TabIs W bt bm L
  pbox : W.heap[pb]? = some (.cells #[.int .u32 p.1, .int .i64 p.2] 26 (0, 0))
  box : W.heap[gb]? = some (.cells #[v] 142 (0, 0))
  lt : bt < w0.heap.size ∧ bm < w0.heap.size ∧ w0.heap.size ≤ gb ∧ gb < pb
theorem GS.to {w0 : World} {bt bm : Nat} {L : List (Pf × Int)} {gb pb : Nat} {p : Pf} {v : Value} {W W' : World} (h : GS w0 bt bm L gb pb p v W) (hb : ∀ k, (k < w0.heap.size ∨ k = gb ∨ k = pb) → W'.heap[k]? = W.heap[k]?) : GS w0 bt bm L gb pb p v W' :=
  ⟨h.tab.at (hb _ (.inl h.lt.1)) (hb _ (.inl h.lt.2.1)), (hb _ (.inr (.inr rfl))).trans h.pbox, (hb _ (.inr (.inl rfl))).trans h.box, h.lt⟩
theorem GS.below {w0 : World} {bt bm : Nat} {L : List (Pf × Int)} {gb pb : Nat} {p : Pf} {v : Value} {W W' : World} (h : GS w0 bt bm L gb pb p v W) (hb : Below W.heap.size W W') : GS w0 bt bm L gb pb p v W' :=
  ⟨h.tab.below hb, blk_below h.pbox hb, blk_below h.box hb, h.lt⟩
theorem GS.grown {w0 : World} {bt bm : Nat} {L : List (Pf × Int)} {gb pb : Nat} {p : Pf} {v : Value} {W W' : World} (h : GS w0 bt bm L gb pb p v W) {row : Option Nat} (hg : W.grownBy W' row) (hr : ∀ k, row = some k → w0.heap.size ≤ k ∧ k ≠ gb ∧ k < pb) : GS w0 bt bm L gb pb p v W' := by
  have h1 := (Array.getElem?_eq_some_iff.1 h.pbox).1
  have h2 := (Array.getElem?_eq_some_iff.1 h.box).1
  have h3 := h.tab.lt
  have h4 := h.lt
  refine ⟨h.tab.at (hg.block _ h3.1 ?_) (hg.block _ h3.2 ?_), (hg.block _ h1 ?_).trans h.pbox, (hg.block _ h2 ?_).trans h.box, h.lt⟩ <;> intro e <;> have := hr _ e.symm <;> omega
theorem GS.cells {w0 : World} {bt bm : Nat} {L : List (Pf × Int)} {gb pb : Nat} {p : Pf} {v : Value} {W : World} (h : GS w0 bt bm L gb pb p v W) (hp : wfP p) {u : Int} (hu : (lkL L p).getD 0 = u) :
    W.cell? ⟨gb, 0, none⟩ = some v ∧ W.cell? ⟨pb, 0, none⟩ = some (.int .u32 p.1) ∧ W.cell? ⟨pb, 1, none⟩ = some (.int .i64 p.2) ∧ W.cell? ⟨bt, 0, none⟩ = some (.map (some bm)) ∧
      (Instr.lookup 107 (.map (some bm)) (.agg #[.int .u32 p.1, .int .i64 p.2]) false).run Try.prog W = .ok (.int .i64 u) W ∧ Aside0 (GS w0 bt bm L gb pb p v W) := by
  refine ⟨by rw [blk_cell h.box]; rfl, by rw [blk_cell h.pbox]; rfl, by rw [blk_cell h.pbox]; rfl, h.tab.cell0, ?_, ⟨h⟩⟩
  have := h.tab.map.look keyP false Try.underlying107 (z := .int .i64 0) (e := 3) (by kernel_rfl) hp
  simp only [eP] at this
  rw [this]
  rw [← hu]
  cases lkL L p <;> rfl

set_option maxRecDepth 100000 in
set_option maxHeartbeats 4000000 in
theorem gone_calls (w : World) (bt bm : Nat) (L : List (Pf × Int)) (hT : TabIs w bt bm L) (A : Option Addr) (c : Nat) (l : List Pf) (hC : Kd.C kP w A l.length l) (hlen : l.length ≤ 1000000) (hwf : ∀ p ∈ l, wfP p) :
    Calls Try.prog 64 #[.pointer (some ⟨bt, 0, none⟩), .slice A l.length c] w fun e w' => ∃ g v, e = .returned (.func (.func 95) #[] #[.pointer (some ⟨g, 0, none⟩)]) ∧ w.heap.size ≤ g ∧ w'.heap[g]? = some (.cells #[v] 142 (0, 0)) ∧
      Kd.R kRow 144 w' w.heap.size (fun k => k ≠ g) v (rowsOf L l) ∧ Below w.heap.size w w' := by
  have hu26 := Try.underlying26
  have hu144 := Try.underlying144
  have HT := Aside0.mk hT
  have HC := Aside0.mk hC
  have HWF := Aside0.mk hwf
  have hb0 := (Below.refl w.heap.size w).alloc (Nat.le_refl _) (.cells #[.slice none 0 0] 142)
  have HB := Aside0.mk hb0
  have HX := Aside0.mk (blk_new w (.cells #[.slice none 0 0] 142))
  have HR := Aside0.mk (Kd.R_nil kRow 144 (w.alloc (.cells #[.slice none 0 0] 142)) w.heap.size (fun k => k ≠ w.heap.size))
  clear hT hC hwf hb0
  go_enter Try.func64, Try.ntmps64
  go_wp2
  go_loopw [10] (fun i wr => ∃ (k : Nat) (v : Value), k ≤ l.length ∧ i = .int .i64 k ∧ Aside0 (wr.heap[w.heap.size]? = some (.cells #[v] 142 (0, 0))) ∧ Aside0 (Kd.R kRow 144 wr w.heap.size (fun k => k ≠ w.heap.size) v (rowsOf L (l.take k))) ∧ Aside0 (Below w.heap.size w wr) ∧ w.heap.size + 1 ≤ wr.heap.size) (fun i _ => l.length - (intOf i).toNat)
  case atStart => exact ⟨0, _, Nat.zero_le _, rfl, HX, HR, HB, by simp⟩
  case round =>
    clear HB HX HR
    obtain ⟨k, v, hk, rfl, HX, HR, HB, hsz⟩ := hrel
    by_cases hlt : k < l.length
    · obtain ⟨ad, rfl, d0, d1⟩ := at_P (Kd.C_below HC.out HB.out) (k : Int) (by omega) (by omega)
      have HTK := Aside0.mk (rowsOf_take (L := L) hlt)
      have hp := HWF.out l[k] (List.getElem_mem hlt)
      have e1 : rdP l (k : Int) = l[k] := by unfold rdP; rw [List.getD_eq_getElem?_getD, Int.toNat_natCast, List.getElem?_eq_getElem hlt]; rfl
      rw [e1] at d0 d1
      simp only [Int.toNat_natCast] at d0 d1
      clear e1
      obtain ⟨p, hp0⟩ : ∃ p, l[k] = p := ⟨_, rfl⟩
      rw [hp0] at d0 d1 HTK hp
      clear hp0
      obtain ⟨u, hu⟩ : ∃ u, (lkL L p).getD 0 = u := ⟨_, rfl⟩
      have HG := Aside0.mk (show GS w bt bm L w.heap.size wr.heap.size p v (wr.alloc (.cells #[.int .u32 p.1, .int .i64 p.2] 26)) from
        ⟨(HT.out.below HB.out).below ((Below.refl _ wr).alloc (Nat.le_refl _) _), blk_new wr _, blk_alloc HX.out _, HT.out.lt.1, HT.out.lt.2, Nat.le_refl _, by omega⟩)
      have HCE := Aside0.mk (fun W (h : GS w bt bm L w.heap.size wr.heap.size p v W) => h.cells hp hu)
      rw [hu] at HTK
      have HR1 := Aside0.mk (Kd.R_drewN (Kd.R_alloc HR.out (.cells #[.int .u32 p.1, .int .i64 p.2] 26)) 1)
      have HB1 := Aside0.mk (pw_below_drewN (HB.out.alloc HB.out.size (.cells #[.int .u32 p.1, .int .i64 p.2] 26)) 1)
      have HOB := Aside0.mk (show ∀ q, v.ownBlock = some q → w.heap.size ≤ q ∧ q ≠ w.heap.size ∧ q < wr.heap.size from fun q hq => by have := (Kd.R_bound HR.out).1 q hq; exact ⟨this.2.1, this.1, this.2.2.1⟩)
      clear hp hu HX HR HB
      have hq1 : (0 : Int) ≤ (k : Int) := by omega
      have hq2 : (k : Int) < (l.length : Int) := by omega
      go_wp2
      generalize (wr.alloc (Obj.cells #[Value.int .u32 p.1, Value.int .i64 p.2] 26)) = w3 at HG HR1 HB1 ⊢
      obtain ⟨f1, f2, f3, f4, f5, _⟩ := HCE.out _ HG.out
      have f6 := (HCE.out _ (HG.out.below (Below.refl _ _).drew)).2.2.2.2.1
      have f7 : (w3.alloc (Obj.cells #[Value.int .u32 p.1, Value.int .i64 p.2, Value.int .i64 u] 144)).cell? ⟨w.heap.size, 0, none⟩ = some v := by rw [blk_cell (blk_alloc HG.out.box _)]; rfl
      have HFR := Aside0.mk (show ∀ q, w3.drew.heap.size ≤ q → q ≠ w.heap.size from fun q hq => by have h1 := (Array.getElem?_eq_some_iff.1 HG.out.box).1; have h2 : w3.drew.heap.size = w3.heap.size := rfl; omega)
      have HL24 := Aside0.mk (show ((rowsOf L (l.take k)).length + 1) * 24 ≤ 140737488355328 by have := rowsOf_len L l k; omega)
      go_region_law ((refine Kd.R_append_step kRow (w0 := w) (W := w3.drew) w.heap.size (by rfl) (.tmp 14) (.tmp 23) 142 144 (.agg #[(.int .u32 0), (.int .i64 0), (.int .i64 0)]) 24 (by rfl) Try.underlying142 infoRow rfl (by decide) (by omega) v (rowsOf L (l.take k)) (p, u) [.int .u32 p.1, .int .i64 p.2, .int .i64 u] (fun k => k ≠ w.heap.size) (fun _ => False) (by rfl) (by rfl) (kRow_mkM _ _ _ (p, u)) (fun _ hk => hk.elim) HFR.out HR1.out HB1.out HB1.out.size HL24.out ?_; intro v9 w9 hR9 hB9 hg9 hat9; obtain ⟨A9, c9, e9⟩ := Kd.R_slice hR9; subst e9; have hG9 := (HG.out.below (Below.refl _ _).drew).grown hg9 HOB.out; have g1 : w9.cell? ⟨w.heap.size, 0, none⟩ = some v := (by rw [blk_cell hG9.box]; rfl); have g2 := blk_frozen hG9.box 0))
      all_goals (
        have hx9 := blk_put hG9.box 0 (.slice A9 (rowsOf L (l.take k) ++ [(p, u)]).length c9) rfl
        have hR10 := Kd.R_move hR9 (w1 := w9.setCell ⟨w.heap.size, 0, none⟩ (.slice A9 (rowsOf L (l.take k) ++ [(p, u)]).length c9)) (fun q hq => Below.heap_setCell _ _ _ _ hq)
        have hB10 := hB9.setCell (p := ⟨w.heap.size, 0, none⟩) (Nat.le_refl _) (.slice A9 (rowsOf L (l.take k) ++ [(p, u)]).length c9)
        simp only [List.length_append, List.length_cons, List.length_nil, Nat.zero_add] at hx9 hR10 hB10
        have HX := Aside0.mk hx9
        have HR := Aside0.mk hR10
        have HB := Aside0.mk hB10
        have HSZ := Aside0.mk hB10.size
        have HSZ2 := Aside0.mk (Array.getElem?_eq_some_iff.1 hx9).1
        clear hx9 hR10 hB10 hR9 hB9 hg9 hat9 hG9 g1 g2 f1 f2 f3 f4 f5 f6 f7
        go_wp2
        go_roundw
        case rel => exact ⟨k + 1, _, by omega, (by first | rfl | (simp; done) | go_num), HX, ⟨by rw [HTK.out]; exact HR.out⟩, HB, by have := HSZ2.out; omega⟩
        case measure => simp [intOf]; omega)
    · obtain rfl : k = l.length := by omega
      rw [List.take_length] at HR
      go_wp2
      go_ret
      exact ⟨w.heap.size, v, rfl, Nat.le_refl _, HX.out, HR.out, HB.out⟩
end Go.Proofs.Ytaplkfnolimdmaa.Table
namespace Go.Proofs.YtaplkfnolimdmaaW.MapRaw
open Go.ChangeMaps Go.MapKept
open Go.Maps (Keyed)
set_option linter.unusedVariables false
set_option linter.unusedSimpArgs false
variable {κ ν : Type}

theorem len_le : ∀ (n : Nat) (js : List Nat), js.Nodup → (∀ j ∈ js, j < n) → js.length ≤ n
  | 0, js, _, h => by
    cases js with
    | nil => simp
    | cons j l => exact absurd (h j (by simp)) (by omega)
  | n + 1, js, hn, h => by
    have h2 : ∀ j ∈ js.erase n, j < n := fun j hj => by
      have h3 := (hn.mem_erase_iff).1 hj
      have := h j h3.2
      have := h3.1
      omega
    have h4 := len_le n (js.erase n) (hn.erase n) h2
    by_cases hm : n ∈ js
    · rw [List.length_erase_of_mem hm] at h4
      have := List.length_pos_of_mem hm
      omega
    · rw [List.erase_of_not_mem hm] at h4
      omega
theorem perm_range : ∀ (n : Nat) (js : List Nat), js.Nodup → (∀ j ∈ js, j < n) → (∀ j, j < n → j ∈ js) → js.Perm (List.range n)
  | 0, js, _, h, _ => by
    cases js with
    | nil => simp
    | cons j l => exact absurd (h j (by simp)) (by omega)
  | n + 1, js, hn, h, ha => by
    have h2 : ∀ j ∈ js.erase n, j < n := fun j hj => by
      have h3 := (hn.mem_erase_iff).1 hj
      have := h j h3.2
      have := h3.1
      omega
    have h4 := perm_range n (js.erase n) (hn.erase n) h2 (fun j hj => (hn.mem_erase_iff).2 ⟨by omega, ha j (by omega)⟩)
    rw [List.range_succ]
    exact (List.perm_cons_erase (ha n (by omega))).trans ((h4.cons n).trans (List.perm_append_comm (l₁ := [n]) (l₂ := List.range n)))
theorem born_inj {es : List MapEntry} (h : (es.map (·.born)).Nodup) {i j : Nat} {a b : MapEntry} (hi : es[i]? = some a) (hj : es[j]? = some b) (hb : a.born = b.born) : i = j := by
  obtain ⟨hi1, hi2⟩ := List.getElem?_eq_some_iff.1 hi
  obtain ⟨hj1, hj2⟩ := List.getElem?_eq_some_iff.1 hj
  have hp := List.pairwise_iff_getElem.1 h
  rcases Nat.lt_trichotomy i j with hlt | he | hlt
  · have h3 := hp i j (by simpa using hi1) (by simpa using hj1) hlt
    rw [List.getElem_map, List.getElem_map, hi2, hj2] at h3
    exact absurd hb h3
  · exact he
  · have h3 := hp j i (by simpa using hj1) (by simpa using hi1) hlt
    rw [List.getElem_map, List.getElem_map, hi2, hj2] at h3
    exact absurd hb.symm h3

/-- Block r of w goes over the map block b (entries L); the entries with these numbers have come. -/
def RangeIs (w : World) (eK : κ → Value) (ok : κ → Prop) (eV : ν → Value) (b r : Nat) (L : List (κ × ν)) (js : List Nat) : Prop :=
  ∃ es clock since seen c0, w.heap[b]? = some (.map es clock) ∧ es.toList.map (fun e => (e.key, e.val)) = L.map (fun x => (eK x.1, eV x.2)) ∧ Stamped es clock ∧ (∀ x ∈ L, ok x.1) ∧
    w.heap[r]? = some (.mapIter (some b) since seen c0) ∧ (∀ x ∈ es.toList, x.born < since) ∧ since ≤ c0 ∧ since ≤ clock ∧ js.Nodup ∧ (∀ j ∈ js, j < L.length) ∧ (∀ j e, es.toList[j]? = some e → (seen.contains e.born = true ↔ j ∈ js))

variable {P : Program} {k e t : TypeId} {eK : κ → Value} {ok : κ → Prop} {eV : ν → Value} {w : World} {b r : Nat} {L : List (κ × ν)} {js : List Nat}

theorem RangeIs.at {w' : World} (h : RangeIs w eK ok eV b r L js) (h1 : w'.heap[b]? = w.heap[b]?) (h2 : w'.heap[r]? = w.heap[r]?) : RangeIs w' eK ok eV b r L js := by
  obtain ⟨es, clock, since, seen, c0, hb, a1, a2, a3, hr, a4⟩ := h
  exact ⟨es, clock, since, seen, c0, h1.trans hb, a1, a2, a3, h2.trans hr, a4⟩
theorem RangeIs.lt (h : RangeIs w eK ok eV b r L js) : b < w.heap.size ∧ r < w.heap.size := by
  obtain ⟨es, clock, since, seen, c0, hb, _, _, _, hr, _⟩ := h
  exact ⟨(Array.getElem?_eq_some_iff.1 hb).1, (Array.getElem?_eq_some_iff.1 hr).1⟩
theorem RangeIs.map (h : RangeIs w eK ok eV b r L js) : MapIs w eK ok eV b L := by
  obtain ⟨es, clock, since, seen, c0, hb, a1, a2, a3, _⟩ := h
  exact ⟨es, clock, hb, a1, a2, a3⟩
theorem RangeIs.ne (h : RangeIs w eK ok eV b r L js) : b ≠ r := by
  obtain ⟨es, clock, since, seen, c0, hb, _, _, _, hr, _⟩ := h
  rintro rfl
  rw [hb] at hr
  cases hr
theorem RangeIs.le (h : RangeIs w eK ok eV b r L js) : js.length ≤ L.length := by
  obtain ⟨es, clock, since, seen, c0, _, _, _, _, _, _, _, _, hn, hl, _⟩ := h
  exact len_le _ _ hn hl

theorem RangeIs.okAt {j : Nat} {x : κ × ν} (h : RangeIs w eK ok eV b r L js) (hj : L[j]? = some x) : ok x.1 := by
  obtain ⟨es, clock, since, seen, c0, _, _, _, a3, _⟩ := h
  exact a3 x (List.mem_of_getElem? hj)
theorem RangeIs.nodup_js (h : RangeIs w eK ok eV b r L js) : js.Nodup := by
  obtain ⟨es, clock, since, seen, c0, _, _, _, _, _, _, _, _, hn, _, _⟩ := h
  exact hn
theorem RangeIs.lt_js (h : RangeIs w eK ok eV b r L js) : ∀ j ∈ js, j < L.length := by
  obtain ⟨es, clock, since, seen, c0, _, _, _, _, _, _, _, _, _, hl, _⟩ := h
  exact hl

/-- 'range m'. -/
theorem MapIs.range (h : MapIs w eK ok eV b L) (ht : P.underlying t = some (.map k e)) :
    ∃ o, (Instr.range t (.map (some b))).run P w = .ok (.pointer (some ⟨w.heap.size, 0, none⟩)) (w.alloc o) ∧ RangeIs (w.alloc o) eK ok eV b w.heap.size L [] := by
  have hlt := h.lt
  obtain ⟨es, clock, hb, h1, h2, h3⟩ := h
  exact ⟨_, run_range_map w t k e b es clock ht hb, es, clock, clock, #[], clock, ((MapKept.heap_alloc w _).2 b hlt).trans hb, h1, h2, h3, (MapKept.heap_alloc w _).1, h2.1, Nat.le_refl _, Nat.le_refl _, List.nodup_nil, by simp, by simp⟩

/-- The step: all have come; or one that has not. -/
theorem RangeIs.next (h : RangeIs w eK ok eV b r L js) (ty : TypeId) :
    ((∀ j, j < L.length → j ∈ js) ∧ (Instr.next (.pointer (some ⟨r, 0, none⟩)) false ty).run P w = .ok (.tuple #[.bool false]) w) ∨
    ∃ j x w', L[j]? = some x ∧ j ∉ js ∧ (Instr.next (.pointer (some ⟨r, 0, none⟩)) false ty).run P w = .ok (.tuple #[.bool true, eK x.1, eV x.2]) w' ∧ RangeIs w' eK ok eV b r L (js ++ [j]) ∧
      w.grownBy w' (some r) ∧ w'.heap.size = w.heap.size ∧ (Instr.entry (.pointer (some ⟨r, 0, none⟩))).run P w' = .ok (.tuple #[eK x.1, eV x.2]) w' := by
  have hne := h.ne
  obtain ⟨es, clock, since, seen, c0, hb, h1, hs, ho, hr, hold, hsc, hsk, hn, hl, hseen⟩ := h
  rcases run_next_at (P := P) w ty r b since c0 seen es clock hr hb hold hsc with ⟨h0, hrun⟩ | ⟨e, he, w1, hal, hrun⟩
  · refine Or.inl ⟨fun j hj => ?_, hrun⟩
    have hjl : j < es.toList.length := by have := congrArg List.length h1; simp at this ⊢; omega
    have hx := all_seen es seen h0 es.toList[j] (List.getElem_mem hjl)
    exact (hseen j _ (List.getElem?_eq_getElem hjl)).1 hx
  · obtain ⟨hem, hes⟩ := mem_left he
    obtain ⟨j, hj⟩ := List.mem_iff_getElem?.1 hem
    obtain ⟨x, hx, hk1, hv1⟩ := row_of h1 hj
    have hr1 : w1.heap[r]? = some (.mapIter (some b) since seen c0) := by rcases hal with rfl | rfl <;> exact hr
    have hb1 : w1.heap[b]? = some (.map es clock) := by rcases hal with rfl | rfl <;> exact hb
    have hset := heap_set (o' := .mapIter (some b) since (seen.push e.born) clock) hr1
    have hb' : (setBlock w1 r (.mapIter (some b) since (seen.push e.born) clock)).heap[b]? = some (.map es clock) := (hset.2 b hne).trans hb1
    have hjn : j ∉ js := fun hjs => by have := (hseen j e hj).2 hjs; rw [hes] at this; cases this
    rw [hk1, hv1] at hrun
    refine Or.inr ⟨j, x, _, hx, hjn, hrun, ⟨es, clock, since, seen.push e.born, clock, hb', h1, hs, ho, hset.1, hold, hsk, hsk, ?_, ?_, fun i e' hi => ?_⟩, ?_, ?_, ?_⟩
    · exact List.nodup_append.2 ⟨hn, by simp, fun a ha b hb' => by rintro rfl; simp at hb'; exact hjn (hb' ▸ ha)⟩
    · intro i hi
      rcases List.mem_append.1 hi with hi | hi
      · exact hl i hi
      · obtain rfl : i = j := by simpa using hi
        exact (List.getElem?_eq_some_iff.1 hx).1
    · rw [contains_push]
      constructor
      · intro hc
        rcases (Bool.or_eq_true _ _).mp hc with hc | hc
        · exact List.mem_append_left _ ((hseen i e' hi).1 hc)
        · have hb2 : e'.born = e.born := by simpa using hc
          have : i = j := born_inj hs.2.1 hi hj hb2
          exact List.mem_append_right _ (by simp [this])
      · intro hm
        rcases List.mem_append.1 hm with hm | hm
        · rw [(hseen i e' hi).2 hm]; rfl
        · obtain rfl : i = j := by simpa using hm
          rw [hj] at hi
          cases hi
          simp
    · rcases hal with rfl | rfl <;> exact ⟨rfl, rfl, rfl, by simp [setBlock], fun i _ hi => hset.2 i (fun e1 => hi (by rw [e1]))⟩
    · rcases hal with rfl | rfl <;> simp [setBlock]
    · have := run_entry_at (P := P) _ r b since seen es clock e hset.1 hb' hem hs.2.1
      rw [hk1, hv1] at this
      exact this
end Go.Proofs.YtaplkfnolimdmaaW.MapRaw
namespace Go.Proofs.YtaplkfnolimdmaaW.MapRaw
open Go.ChangeMaps Go.MapKept
section
variable {κ ν : Type} {P : Program} {k e t : TypeId} {eK : κ → Value} {ok : κ → Prop} {eV : ν → Value} {w : World} {b r : Nat} {L : List (κ × ν)} {js : List Nat} {ops : Array Oper} {rest : List Oper} {o : Oper} {a : Act} {Q : Exit → Act → World → Prop}
theorem wpList_range_raw (hg : o.guard = none) (m : Operand) (t : TypeId) (hop : o.op = Op.range t m) (hm : a.eval m = .map (some b)) (h : MapIs w eK ok eV b L) (ht : P.underlying t = some (.map k e))
    (hK : ∀ ob, RangeIs (w.alloc ob) eK ok eV b w.heap.size L [] → wpList P ops Q rest (a.put o.dst (.pointer (some ⟨w.heap.size, 0, none⟩))) (w.alloc ob)) : wpList P ops Q (o :: rest) a w := by
  refine wpList_plain hg fun K' hK' => ?_
  obtain ⟨ob, hrun, hr⟩ := h.range (P := P) ht
  unfold Oper.wp
  simp [execOp, hop, hm, hrun, Result.andThen]
  exact hK' _ _ (hK ob hr)
theorem wpList_next_raw (hg : o.guard = none) (it : Operand) (hop : o.op = Op.next it false) (hit : a.eval it = .pointer (some ⟨r, 0, none⟩)) (h : RangeIs w eK ok eV b r L js)
    (hDone : (∀ j, j < L.length → j ∈ js) → wpList P ops Q rest (a.put o.dst (.tuple #[.bool false])) w)
    (hMore : ∀ j x w', L[j]? = some x → j ∉ js → RangeIs w' eK ok eV b r L (js ++ [j]) → w.grownBy w' (some r) → w'.heap.size = w.heap.size → (Instr.entry (.pointer (some ⟨r, 0, none⟩))).run P w' = .ok (.tuple #[eK x.1, eV x.2]) w' →
      wpList P ops Q rest (a.put o.dst (.tuple #[.bool true, eK x.1, eV x.2])) w') : wpList P ops Q (o :: rest) a w := by
  refine wpList_plain hg fun K' hK' => ?_
  unfold Oper.wp
  rcases h.next (P := P) o.type with ⟨h0, hrun⟩ | ⟨j, x, w', hj, hn, hrun, hr, hgr, hsz, hen⟩
  · simp [execOp, hop, hit, hrun, Result.andThen]
    exact hK' _ _ (hDone h0)
  · simp [execOp, hop, hit, hrun, Result.andThen]
    exact hK' _ _ (hMore j x w' hj hn hr hgr hsz hen)
end
end Go.Proofs.YtaplkfnolimdmaaW.MapRaw
namespace Go.Proofs.Ytaplkfnolimdmaa.Table
open Go.RowKit Go.Proofs.Ytaplkfnolimdmaa.PC Go.Proofs.YtaplkfnolimdmaaW.PrintWords Go.Proofs.YtaplkfnolimdmaaW.PrintLast Go.Proofs.YtaplkfnolimdmaaW.PrintMore Go.Proofs.YtaplkfnolimdmaaW.Bits Go.Proofs.YtaplkfnolimdmaaW.MapRaw
set_option linter.unusedVariables false
set_option linter.unusedSimpArgs false

def toS (p : Pf) : S26 := ⟨p.1, p.2⟩
def ofS (s : S26) : Pf := (s.f0, s.f1)
theorem of_to (p : Pf) : ofS (toS p) = p := rfl
theorem to_of (s : S26) : toS (ofS s) = s := rfl
theorem R_toS {e base : Nat} {w : World} {ok : Nat → Prop} {v : Value} {l : List Pf} (h : Kd.R kP e w base ok v l) : Kd.R k26 e w base ok v (l.map toS) := by
  obtain ⟨h0, inner, ho, hr⟩ := h
  refine ⟨h0, inner, by rw [List.length_map]; exact ho, ⟨by rw [List.length_map]; exact hr.1, fun j p hj => ?_⟩⟩
  rw [List.getElem?_map] at hj
  cases hx : l[j]? with
  | none => rw [hx] at hj; cases hj
  | some x =>
    rw [hx] at hj
    cases hj
    exact hr.2 j x hx
theorem R_ofS {e base : Nat} {w : World} {ok : Nat → Prop} {v : Value} {l : List S26} (h : Kd.R k26 e w base ok v l) : Kd.R kP e w base ok v (l.map ofS) := by
  obtain ⟨h0, inner, ho, hr⟩ := h
  refine ⟨h0, inner, by rw [List.length_map]; exact ho, ⟨by rw [List.length_map]; exact hr.1, fun j p hj => ?_⟩⟩
  rw [List.getElem?_map] at hj
  cases hx : l[j]? with
  | none => rw [hx] at hj; cases hj
  | some x =>
    rw [hx] at hj
    cases hj
    exact hr.2 j x hx
/-- The prefixes with these numbers, of which it is so, in the order in which they came. -/
def came (L : List (Pf × Int)) (good : Pf → Bool) (js : List Nat) : List Pf := (js.map (fun j => (L.getD j ((0, 0), 0)).1)).filter good
theorem came_len (L : List (Pf × Int)) (good : Pf → Bool) (js : List Nat) : (came L good js).length ≤ js.length := by
  unfold came
  have := List.length_filter_le good (js.map (fun j => (L.getD j ((0, 0), 0)).1))
  simpa using this
theorem came_snoc {L : List (Pf × Int)} {good : Pf → Bool} {js : List Nat} {j : Nat} {x : Pf × Int} (hj : L[j]? = some x) : came L good (js ++ [j]) = came L good js ++ (if good x.1 = true then [x.1] else []) := by
  unfold came
  rw [List.map_append, List.filter_append]
  congr 1
  simp only [List.map_cons, List.map_nil, List.getD_eq_getElem?_getD, hj, Option.getD_some, List.filter_cons, List.filter_nil]
theorem came_perm {L : List (Pf × Int)} {good : Pf → Bool} {js : List Nat} (hp : js.Perm (List.range L.length)) : (came L good js).Perm ((L.map Prod.fst).filter good) := by
  unfold came
  refine List.Perm.filter _ ?_
  refine (hp.map _).trans ?_
  have : (List.range L.length).map (fun j => (L.getD j ((0, 0), 0)).1) = L.map Prod.fst := by
    apply List.ext_getElem
    · simp
    · intro i h1 h2
      have hi : i < L.length := by simpa using h1
      simp [List.getElem?_eq_getElem hi]
  rw [this]
/-- In the order of prefixes. -/
def sortP (l : List Pf) : List Pf := ((l.map toS).mergeSort leP).map ofS
end Go.Proofs.Ytaplkfnolimdmaa.Table
namespace Go.Proofs.Ytaplkfnolimdmaa.Table
open Go.RowKit Go.Proofs.Ytaplkfnolimdmaa.PC Go.Proofs.YtaplkfnolimdmaaW.PrintWords Go.Proofs.YtaplkfnolimdmaaW.PrintLast Go.Proofs.YtaplkfnolimdmaaW.PrintMore Go.Proofs.YtaplkfnolimdmaaW.Bits Go.Proofs.YtaplkfnolimdmaaW.MapRaw
set_option linter.unusedVariables false
set_option linter.unusedSimpArgs false

theorem infoPf : (Try.prog.info? 26).map (fun i => (i.zero, i.size, i.bytes)) = some (some (.agg #[(.int .u32 0), (.int .i64 0)]), 2, 16) := by kernel_rfl

set_option maxRecDepth 100000 in
set_option maxHeartbeats 4000000 in
theorem sorted_all (w : World) (bt bm : Nat) (L : List (Pf × Int)) (hT : TabIs w bt bm L) (hlen : L.length ≤ 1000000) (good : Pf → Bool)
    (hP : ∀ p W, wfP p → Below w.heap.size w W → Calls Try.prog 66 #[.agg #[.int .u32 p.1, .int .i64 p.2]] W fun e w' => e = .returned (.bool (good p)) ∧ Below W.heap.size W w') :
    Calls Try.prog 65 #[.pointer (some ⟨bt, 0, none⟩), .func (.func 66) #[] #[]] w fun e w' => ∃ v l, e = .returned v ∧ l.Perm ((L.map Prod.fst).filter good) ∧ Kd.R kP 26 w' w.heap.size (fun _ => True) v (sortP l) ∧ Below w.heap.size w w' := by
  have hu26 := Try.underlying26
  have HT := Aside0.mk hT
  have HP := Aside0.mk hP
  have HL := Aside0.mk hlen
  have hc0 := hT.cell0
  have HM := Aside0.mk hT.map
  clear hT hP hlen
  obtain ⟨M, hM⟩ : ∃ M : Nat, M = L.length + 2 := ⟨_, rfl⟩
  have HMM := Aside0.mk hM
  clear hM
  go_enter Try.func65, Try.ntmps65
  go_wp2_with (first | (at_range; refine wpList_range_raw rfl _ 107 rfl rfl HM.out Try.underlying107 ?_; intro ob hrg; have HRG := Aside0.mk hrg; clear hrg))
  go_frame
  have HB := Aside0.mk ((Below.refl w.heap.size w).alloc (Nat.le_refl _) ob)
  go_loopg [5] M (fun kq v5 wr => ∃ js, Aside0 (RangeIs wr eP wfP eV bm w.heap.size L js ∧ L.length + 2 ≤ kq + js.length) ∧ Aside0 (kq ≤ M) ∧ Aside0 (Kd.R kP 26 wr w.heap.size (fun k => k ≠ w.heap.size) v5 (came L good js)) ∧ Aside0 (Below w.heap.size w wr))
  case atStart => exact ⟨[], ⟨HRG.out, by have := HMM.out; simp; omega⟩, ⟨Nat.le_refl _⟩, ⟨Kd.R_nil _ _ _ _ _⟩, HB⟩
  case round =>
    clear HB HRG
    obtain ⟨js, HRG, HK, HR, HB⟩ := hrel
    have hle := HRG.out.1.le
    cases gk with
    | zero => exact absurd HRG.out.2 (by omega)
    | succ k1 =>
      go_wp2_with (first | (at_next; refine wpList_next_raw rfl _ rfl rfl HRG.out.1 ?_ ?_))
      · intro hall
        have HSF := Aside0.mk (show slices_SortFunc_Prefix.f ((came L good js).map toS) = some (((came L good js).map toS).mergeSort leP) by
          unfold slices_SortFunc_Prefix.f
          rw [if_pos (by have := came_len L good js; have := HL.out; rw [List.length_map]; omega)])
        have HPM := Aside0.mk (came_perm (good := good) (perm_range L.length js HRG.out.1.nodup_js HRG.out.1.lt_js hall))
        clear hall
        go_wp2_with (first | (go_at_call 57; refine (slices_SortFunc_Prefix.calls (fun k => k ≠ w.heap.size) _ _ _ w _ HB.out (R_toS HR.out) HSF.out).mono ?_; rintro e w3 ⟨rfl, hR3, hB3, hK3⟩; have HR3 := Aside0.mk hR3; have HB3 := Aside0.mk hB3; clear hR3 hB3 hK3))
        go_ret
        exact ⟨u5, came L good js, rfl, HPM.out, Kd.R_mono (R_ofS HR3.out) (fun _ _ => trivial), HB3.out⟩
      · intro j p0 p1 v w2 hj hn hrg2 hg2 hs2 hen
        have hwf : wfP (p0, p1) := hrg2.okAt hj
        have hB2 := HB.out.grown hg2 HB.out.size (fun k e => by cases e; exact Nat.le_refl _)
        have hR2 := Kd.R_mono (Kd.R_move (w1 := w2) (Kd.R_bound HR.out) (fun q hq => hg2.block q hq.2.2.1 (fun e => hq.1 (Option.some.inj e)))) (fun q hq => hq.1)
        have HSN := Aside0.mk (came_snoc (good := good) (js := js) hj)
        have HRG2 := Aside0.mk hrg2
        have HB2 := Aside0.mk (hB2.alloc hB2.size (Obj.cells #[Value.int .u32 p0, Value.int .i64 p1] 26))
        have HR2 := Aside0.mk (Kd.R_alloc hR2 (Obj.cells #[Value.int .u32 p0, Value.int .i64 p1] 26))
        have HX2 := Aside0.mk (blk_new w2 (Obj.cells #[Value.int .u32 p0, Value.int .i64 p1] 26))
        have HRG3 := Aside0.mk (hrg2.at (w' := w2.alloc (Obj.cells #[Value.int .u32 p0, Value.int .i64 p1] 26)) (Below.heap_alloc _ _ _ hrg2.lt.1) (Below.heap_alloc _ _ _ hrg2.lt.2))
        have HJL := Aside0.mk (show js.length + 1 ≤ L.length by have := hrg2.le; simpa using this)
        simp only [eP, eV] at hen
        clear hj hn hrg2 hg2 hs2 hB2 hR2 HR HB
        cases hgd : good (p0, p1) with
        | true =>
          have HPC := Aside0.mk (fun W h => by have := HP.out (p0, p1) W hwf h; rw [hgd] at this; exact this)
          rw [hgd, if_pos rfl] at HSN
          clear hgd hwf
          go_wp2_with (first
            | (go_at_call 66; refine (HPC.out _ HB2.out).mono ?_; rintro e w4 ⟨rfl, hb4⟩; have hx4 := blk_below HX2.out hb4; have b0 : w4.cell? ⟨w2.heap.size, 0, none⟩ = some (.int .u32 p0) := (by rw [blk_cell hx4]; rfl); have b1 : w4.cell? ⟨w2.heap.size, 1, none⟩ = some (.int .i64 p1) := (by rw [blk_cell hx4]; rfl); have HB4 := Aside0.mk (HB2.out.trans (hb4.mono HB2.out.size)); have HR4 := Aside0.mk (Kd.R_below HR2.out hb4); have HRG4 := Aside0.mk (HRG3.out.at (hb4.block _ HRG3.out.lt.1) (hb4.block _ HRG3.out.lt.2)); clear hb4 hx4)
            | ((with_reducible refine gate_builtin (b := .append) (xs := #[.tmp 21, .tmp 23]) rfl ?_); at_builtin; refine Kd.R_append kP (w0 := w) w.heap.size rfl (.tmp 21) (.tmp 23) 22 26 (.agg #[(.int .u32 0), (.int .i64 0)]) 16 rfl Try.underlying22 infoPf rfl (by decide) (by omega) u5 (came L good js) (p0, p1) [.int .u32 p0, .int .i64 p1] (fun k => k ≠ w.heap.size) (fun _ => False) rfl rfl ?aP (fun _ hk => hk.elim) ?aF ?aO ?aB ?aS ?aL ?_; (case aP => exact kP_mkM _ _ _ (p0, p1)); (case aB => exact HB4.out); (case aF => exact (fun q hq => by have := HRG4.out.lt.2; omega)); (case aO => exact HR4.out); (case aS => exact HB4.out.size); (case aL => have := came_len L good js; have := HJL.out; have := HL.out; omega); intro v24 w5 ho hb hg hat; have n0_ := Aside0.mk hb; have n1_ := Aside0.mk ho; have n2_ := Aside0.mk (HRG4.out.at (hg.block _ HRG4.out.lt.1 (fun e => by have := (Kd.R_bound HR4.out).1 _ e.symm; have := HT.out.lt.2; omega)) (hg.block _ HRG4.out.lt.2 (fun e => (HR4.out.1 _ e.symm) rfl))); clear hb ho hg hat))
          go_roundg k1
          case measure => have := HK.out; omega
          case rel => exact ⟨js ++ [j], ⟨n2_.out, by have := HRG.out.2; simp; omega⟩, ⟨by have := HK.out; omega⟩, ⟨by rw [HSN.out]; exact n1_.out⟩, n0_⟩
        | false =>
          have HPC := Aside0.mk (fun W h => by have := HP.out (p0, p1) W hwf h; rw [hgd] at this; exact this)
          rw [hgd, if_neg Bool.false_ne_true, List.append_nil] at HSN
          clear hgd hwf
          go_wp2_with (first
            | (go_at_call 66; refine (HPC.out _ HB2.out).mono ?_; rintro e w4 ⟨rfl, hb4⟩; have HB4 := Aside0.mk (HB2.out.trans (hb4.mono HB2.out.size)); have HR4 := Aside0.mk (Kd.R_below HR2.out hb4); have HRG4 := Aside0.mk (HRG3.out.at (hb4.block _ HRG3.out.lt.1) (hb4.block _ HRG3.out.lt.2)); clear hb4))
          go_roundg k1
          case measure => have := HK.out; omega
          case rel => exact ⟨js ++ [j], ⟨HRG4.out, by have := HRG.out.2; simp; omega⟩, ⟨by have := HK.out; omega⟩, ⟨by rw [HSN.out]; exact HR4.out⟩, HB4⟩

set_option maxRecDepth 100000 in
set_option maxHeartbeats 4000000 in
theorem sorted_within (w : World) (bt bm : Nat) (L : List (Pf × Int)) (hT : TabIs w bt bm L) (hlen : L.length ≤ 1000000) (good : Pf → Bool) (pb : Nat)
    (hP : ∀ p W, wfP p → Below w.heap.size w W → Calls Try.prog 67 #[.agg #[.int .u32 p.1, .int .i64 p.2], .pointer (some ⟨pb, 0, none⟩)] W fun e w' => e = .returned (.bool (good p)) ∧ Below W.heap.size W w') :
    Calls Try.prog 65 #[.pointer (some ⟨bt, 0, none⟩), .func (.func 67) #[] #[.pointer (some ⟨pb, 0, none⟩)]] w fun e w' => ∃ v l, e = .returned v ∧ l.Perm ((L.map Prod.fst).filter good) ∧ Kd.R kP 26 w' w.heap.size (fun _ => True) v (sortP l) ∧ Below w.heap.size w w' := by
  have hu26 := Try.underlying26
  have HT := Aside0.mk hT
  have HP := Aside0.mk hP
  have HL := Aside0.mk hlen
  have hc0 := hT.cell0
  have HM := Aside0.mk hT.map
  clear hT hP hlen
  obtain ⟨M, hM⟩ : ∃ M : Nat, M = L.length + 2 := ⟨_, rfl⟩
  have HMM := Aside0.mk hM
  clear hM
  go_enter Try.func65, Try.ntmps65
  go_wp2_with (first | (at_range; refine wpList_range_raw rfl _ 107 rfl rfl HM.out Try.underlying107 ?_; intro ob hrg; have HRG := Aside0.mk hrg; clear hrg))
  go_frame
  have HB := Aside0.mk ((Below.refl w.heap.size w).alloc (Nat.le_refl _) ob)
  go_loopg [5] M (fun kq v5 wr => ∃ js, Aside0 (RangeIs wr eP wfP eV bm w.heap.size L js ∧ L.length + 2 ≤ kq + js.length) ∧ Aside0 (kq ≤ M) ∧ Aside0 (Kd.R kP 26 wr w.heap.size (fun k => k ≠ w.heap.size) v5 (came L good js)) ∧ Aside0 (Below w.heap.size w wr))
  case atStart => exact ⟨[], ⟨HRG.out, by have := HMM.out; simp; omega⟩, ⟨Nat.le_refl _⟩, ⟨Kd.R_nil _ _ _ _ _⟩, HB⟩
  case round =>
    clear HB HRG
    obtain ⟨js, HRG, HK, HR, HB⟩ := hrel
    have hle := HRG.out.1.le
    cases gk with
    | zero => exact absurd HRG.out.2 (by omega)
    | succ k1 =>
      go_wp2_with (first | (at_next; refine wpList_next_raw rfl _ rfl rfl HRG.out.1 ?_ ?_))
      · intro hall
        have HSF := Aside0.mk (show slices_SortFunc_Prefix.f ((came L good js).map toS) = some (((came L good js).map toS).mergeSort leP) by
          unfold slices_SortFunc_Prefix.f
          rw [if_pos (by have := came_len L good js; have := HL.out; rw [List.length_map]; omega)])
        have HPM := Aside0.mk (came_perm (good := good) (perm_range L.length js HRG.out.1.nodup_js HRG.out.1.lt_js hall))
        clear hall
        go_wp2_with (first | (go_at_call 57; refine (slices_SortFunc_Prefix.calls (fun k => k ≠ w.heap.size) _ _ _ w _ HB.out (R_toS HR.out) HSF.out).mono ?_; rintro e w3 ⟨rfl, hR3, hB3, hK3⟩; have HR3 := Aside0.mk hR3; have HB3 := Aside0.mk hB3; clear hR3 hB3 hK3))
        go_ret
        exact ⟨u5, came L good js, rfl, HPM.out, Kd.R_mono (R_ofS HR3.out) (fun _ _ => trivial), HB3.out⟩
      · intro j p0 p1 v w2 hj hn hrg2 hg2 hs2 hen
        have hwf : wfP (p0, p1) := hrg2.okAt hj
        have hB2 := HB.out.grown hg2 HB.out.size (fun k e => by cases e; exact Nat.le_refl _)
        have hR2 := Kd.R_mono (Kd.R_move (w1 := w2) (Kd.R_bound HR.out) (fun q hq => hg2.block q hq.2.2.1 (fun e => hq.1 (Option.some.inj e)))) (fun q hq => hq.1)
        have HSN := Aside0.mk (came_snoc (good := good) (js := js) hj)
        have HRG2 := Aside0.mk hrg2
        have HB2 := Aside0.mk (hB2.alloc hB2.size (Obj.cells #[Value.int .u32 p0, Value.int .i64 p1] 26))
        have HR2 := Aside0.mk (Kd.R_alloc hR2 (Obj.cells #[Value.int .u32 p0, Value.int .i64 p1] 26))
        have HX2 := Aside0.mk (blk_new w2 (Obj.cells #[Value.int .u32 p0, Value.int .i64 p1] 26))
        have HRG3 := Aside0.mk (hrg2.at (w' := w2.alloc (Obj.cells #[Value.int .u32 p0, Value.int .i64 p1] 26)) (Below.heap_alloc _ _ _ hrg2.lt.1) (Below.heap_alloc _ _ _ hrg2.lt.2))
        have HJL := Aside0.mk (show js.length + 1 ≤ L.length by have := hrg2.le; simpa using this)
        simp only [eP, eV] at hen
        clear hj hn hrg2 hg2 hs2 hB2 hR2 HR HB
        cases hgd : good (p0, p1) with
        | true =>
          have HPC := Aside0.mk (fun W h => by have := HP.out (p0, p1) W hwf h; rw [hgd] at this; exact this)
          rw [hgd, if_pos rfl] at HSN
          clear hgd hwf
          go_wp2_with (first
            | (go_at_call 67; refine (HPC.out _ HB2.out).mono ?_; rintro e w4 ⟨rfl, hb4⟩; have hx4 := blk_below HX2.out hb4; have b0 : w4.cell? ⟨w2.heap.size, 0, none⟩ = some (.int .u32 p0) := (by rw [blk_cell hx4]; rfl); have b1 : w4.cell? ⟨w2.heap.size, 1, none⟩ = some (.int .i64 p1) := (by rw [blk_cell hx4]; rfl); have HB4 := Aside0.mk (HB2.out.trans (hb4.mono HB2.out.size)); have HR4 := Aside0.mk (Kd.R_below HR2.out hb4); have HRG4 := Aside0.mk (HRG3.out.at (hb4.block _ HRG3.out.lt.1) (hb4.block _ HRG3.out.lt.2)); clear hb4 hx4)
            | ((with_reducible refine gate_builtin (b := .append) (xs := #[.tmp 21, .tmp 23]) rfl ?_); at_builtin; refine Kd.R_append kP (w0 := w) w.heap.size rfl (.tmp 21) (.tmp 23) 22 26 (.agg #[(.int .u32 0), (.int .i64 0)]) 16 rfl Try.underlying22 infoPf rfl (by decide) (by omega) u5 (came L good js) (p0, p1) [.int .u32 p0, .int .i64 p1] (fun k => k ≠ w.heap.size) (fun _ => False) rfl rfl ?aP (fun _ hk => hk.elim) ?aF ?aO ?aB ?aS ?aL ?_; (case aP => exact kP_mkM _ _ _ (p0, p1)); (case aB => exact HB4.out); (case aF => exact (fun q hq => by have := HRG4.out.lt.2; omega)); (case aO => exact HR4.out); (case aS => exact HB4.out.size); (case aL => have := came_len L good js; have := HJL.out; have := HL.out; omega); intro v24 w5 ho hb hg hat; have n0_ := Aside0.mk hb; have n1_ := Aside0.mk ho; have n2_ := Aside0.mk (HRG4.out.at (hg.block _ HRG4.out.lt.1 (fun e => by have := (Kd.R_bound HR4.out).1 _ e.symm; have := HT.out.lt.2; omega)) (hg.block _ HRG4.out.lt.2 (fun e => (HR4.out.1 _ e.symm) rfl))); clear hb ho hg hat))
          go_roundg k1
          case measure => have := HK.out; omega
          case rel => exact ⟨js ++ [j], ⟨n2_.out, by have := HRG.out.2; simp; omega⟩, ⟨by have := HK.out; omega⟩, ⟨by rw [HSN.out]; exact n1_.out⟩, n0_⟩
        | false =>
          have HPC := Aside0.mk (fun W h => by have := HP.out (p0, p1) W hwf h; rw [hgd] at this; exact this)
          rw [hgd, if_neg Bool.false_ne_true, List.append_nil] at HSN
          clear hgd hwf
          go_wp2_with (first
            | (go_at_call 67; refine (HPC.out _ HB2.out).mono ?_; rintro e w4 ⟨rfl, hb4⟩; have HB4 := Aside0.mk (HB2.out.trans (hb4.mono HB2.out.size)); have HR4 := Aside0.mk (Kd.R_below HR2.out hb4); have HRG4 := Aside0.mk (HRG3.out.at (hb4.block _ HRG3.out.lt.1) (hb4.block _ HRG3.out.lt.2)); clear hb4))
          go_roundg k1
          case measure => have := HK.out; omega
          case rel => exact ⟨js ++ [j], ⟨HRG4.out, by have := HRG.out.2; simp; omega⟩, ⟨by have := HK.out; omega⟩, ⟨by rw [HSN.out]; exact HR4.out⟩, HB4⟩
end Go.Proofs.Ytaplkfnolimdmaa.Table
namespace Go.Proofs.Ytaplkfnolimdmaa.Table
open Go.RowKit Go.Proofs.Ytaplkfnolimdmaa.PC Go.Proofs.YtaplkfnolimdmaaW.PrintWords Go.Proofs.YtaplkfnolimdmaaW.PrintLast Go.Proofs.YtaplkfnolimdmaaW.PrintMore Go.Proofs.YtaplkfnolimdmaaW.Bits Go.Proofs.YtaplkfnolimdmaaW.MapRaw
set_option linter.unusedVariables false
set_option linter.unusedSimpArgs false

/-- A value that is an iterator over these rows; its memory lies from n₀ on. -/
def IterAt (n₀ : Nat) (w : World) (f : Value) (rows : List Row) : Prop :=
  ∃ g A c, f = .func (.func 95) #[] #[.pointer (some ⟨g, 0, none⟩)] ∧ n₀ ≤ g ∧ w.heap[g]? = some (.cells #[.slice A rows.length c] 142 (0, 0)) ∧ Kd.R kRow 144 w n₀ (fun k => k ≠ g) (.slice A rows.length c) rows
theorem IterAt.below {n₀ : Nat} {w w' : World} {f : Value} {rows : List Row} (h : IterAt n₀ w f rows) (hb : Below w.heap.size w w') : IterAt n₀ w' f rows := by
  obtain ⟨g, A, c, e, hg, hx, hr⟩ := h
  exact ⟨g, A, c, e, hg, blk_below hx hb, Kd.R_below hr hb⟩
theorem IterAt.low {n m : Nat} {w : World} {f : Value} {rows : List Row} (h : IterAt n w f rows) (hm : m ≤ n) : IterAt m w f rows := by
  obtain ⟨g, A, c, e, hg, hx, hr⟩ := h
  exact ⟨g, A, c, e, Nat.le_trans hm hg, hx, Kd.R_lower hr hm⟩

def gAll : Pf → Bool := fun _ => true
def gIn (q : Pf) : Pf → Bool := fun p => decide (Leaf.chk p.1 p.2 = 0 ∧ Leaf.chk q.1 q.2 = 0 ∧ Cov.wi (toS p) (toS q))

set_option maxRecDepth 100000 in
theorem all1_calls (p : Pf) (w : World) : Calls Try.prog 66 #[.agg #[.int .u32 p.1, .int .i64 p.2]] w fun e w' => e = .returned (.bool (gAll p)) ∧ Below w.heap.size w w' := by
  go_enter Try.func66, Try.ntmps66
  go_wp2
  go_ret
  exact ⟨rfl, (Below.refl w.heap.size w).alloc (Nat.le_refl _) _⟩
set_option maxRecDepth 100000 in
theorem within1_calls (p q : Pf) (hp : wfP p) (hq : wfP q) (pb : Nat) (w : World) (hx : w.heap[pb]? = some (.cells #[.int .u32 q.1, .int .i64 q.2] 26 (0, 0))) :
    Calls Try.prog 67 #[.agg #[.int .u32 p.1, .int .i64 p.2], .pointer (some ⟨pb, 0, none⟩)] w fun e w' => e = .returned (.bool (gIn q p)) ∧ Below w.heap.size w w' := by
  obtain ⟨k, hk⟩ := (Leaf.ev_AWithin (p := toS p) (q := toS q) (wf_U hp) (wf_U hq)).rounds
  have hk0 : addr_Within.f k p.1 p.2 q.1 q.2 = some (gIn q p) := hk
  obtain ⟨g, hg⟩ : ∃ g, gIn q p = g := ⟨_, rfl⟩
  rw [hg] at hk0 ⊢
  have HC := Aside0.mk (fun W => addr_Within.calls k _ _ _ _ _ W hk0)
  clear hg hk0
  have hx2 := blk_alloc hx (.cells #[.int .u32 p.1, .int .i64 p.2] 26)
  have b0 : (w.alloc (.cells #[.int .u32 p.1, .int .i64 p.2] 26)).cell? ⟨pb, 0, none⟩ = some (.int .u32 q.1) := by rw [blk_cell hx2]; rfl
  have b1 : (w.alloc (.cells #[.int .u32 p.1, .int .i64 p.2] 26)).cell? ⟨pb, 1, none⟩ = some (.int .i64 q.2) := by rw [blk_cell hx2]; rfl
  have HB := Aside0.mk ((Below.refl w.heap.size w).alloc (Nat.le_refl _) (.cells #[.int .u32 p.1, .int .i64 p.2] 26))
  clear hx hx2 hk
  go_enter Try.func67, Try.ntmps67
  go_wp2_with (first | (go_at_call 59; refine (HC.out _).mono ?_; rintro e w2 ⟨rfl, hb⟩; have HB2 := Aside0.mk (HB.out.trans (hb.mono HB.out.size)); clear hb))
  go_ret
  exact ⟨rfl, HB2.out⟩

theorem sortP_mem {l : List Pf} {p : Pf} (h : p ∈ sortP l) : p ∈ l := by
  unfold sortP at h
  obtain ⟨s, hs, rfl⟩ := List.mem_map.1 h
  obtain ⟨q, hq, rfl⟩ := List.mem_map.1 (List.mem_mergeSort.1 hs)
  exact hq
theorem sortP_perm (l : List Pf) : (sortP l).Perm l := by
  unfold sortP
  have h := (List.mergeSort_perm (l.map toS) leP).map ofS
  rwa [List.map_map, show ofS ∘ toS = id from rfl, List.map_id] at h
theorem TabIs.wf {w : World} {bt bm : Nat} {L : List (Pf × Int)} (h : TabIs w bt bm L) : ∀ p ∈ L.map Prod.fst, wfP p := fun p hp => by
  obtain ⟨x, hx, rfl⟩ := List.mem_map.1 hp
  obtain ⟨es, clock, _, _, _, ho⟩ := h.map
  exact ho x hx

set_option maxRecDepth 100000 in
set_option maxHeartbeats 1000000 in
theorem All_calls (w : World) (bt bm : Nat) (L : List (Pf × Int)) (hT : TabIs w bt bm L) (hlen : L.length ≤ 1000000) :
    Calls Try.prog 22 #[.pointer (some ⟨bt, 0, none⟩)] w fun e w' => ∃ f l, e = .returned f ∧ l.Perm (L.map Prod.fst) ∧ IterAt w.heap.size w' f (rowsOf L (sortP l)) ∧ Below w.heap.size w w' := by
  have HS := Aside0.mk (sorted_all w bt bm L hT hlen gAll (fun p W _ _ => all1_calls p W))
  have HG := Aside0.mk (fun W h => gone_calls W bt bm L (hT.below h))
  have HWF := Aside0.mk hT.wf
  have HLEN := Aside0.mk hlen
  clear hT hlen
  go_enter Try.func22, Try.ntmps22
  go_wp2_with (first
    | (go_at_call 65; refine HS.out.mono ?_; rintro e w2 ⟨v, l, rfl, hp, hr, hb⟩; obtain ⟨A, c, ev⟩ := Kd.R_slice hr; subst ev; rw [show (L.map Prod.fst).filter gAll = L.map Prod.fst from List.filter_eq_self.2 (fun _ _ => rfl)] at hp; have HP := Aside0.mk hp; have HR := Aside0.mk hr; have HB := Aside0.mk hb; clear hp hr hb)
    | (go_at_call 64; refine (HG.out _ HB.out A c _ (Kd.R_reads' HR.out).2.2 (by have := (sortP_perm l).length_eq; have := HP.out.length_eq; have := HLEN.out; simp at *; omega) (fun p hp => HWF.out p (HP.out.mem_iff.1 (sortP_mem hp)))).mono ?_; rintro e w3 ⟨g, v, rfl, hg, hx, hr, hb⟩; obtain ⟨A3, c3, ev⟩ := Kd.R_slice hr; subst ev; have HX := Aside0.mk hx; have HR3 := Aside0.mk hr; have HB3 := Aside0.mk hb; have HG3 := Aside0.mk hg; clear hx hr hb hg))
  go_ret
  exact ⟨_, l, rfl, HP.out, ⟨g, A3, c3, rfl, Nat.le_trans HB.out.size HG3.out, HX.out, Kd.R_lower HR3.out HB.out.size⟩, HB.out.trans (HB3.out.mono HB.out.size)⟩
set_option maxRecDepth 100000 in
set_option maxHeartbeats 1000000 in
theorem Over_calls (x : Int) (hx : 0 ≤ x ∧ x < 4294967296) (w : World) (bt bm : Nat) (L : List (Pf × Int)) (hT : TabIs w bt bm L) :
    Calls Try.prog 24 #[.pointer (some ⟨bt, 0, none⟩), .int .u32 x] w fun e w' => ∃ f, e = .returned f ∧ IterAt w.heap.size w' f (rowsOf L (overL L x 33)) ∧ Below w.heap.size w w' := by
  have HS := Aside0.mk (over_calls x hx w bt bm L hT)
  have HG := Aside0.mk (fun W h => gone_calls W bt bm L (hT.below h))
  have HWF := Aside0.mk (fun p (hp : p ∈ overL L x 33) => (overL_wf hx hp).1)
  have HLEN := Aside0.mk (overL_len L x 33)
  clear hT hx
  go_enter Try.func24, Try.ntmps24
  go_wp2_with (first
    | (go_at_call 63; refine HS.out.mono ?_; rintro e w2 ⟨v, rfl, hr, hb⟩; obtain ⟨A, c, ev⟩ := Kd.R_slice hr; subst ev; have HR := Aside0.mk hr; have HB := Aside0.mk hb; clear hr hb)
    | (go_at_call 64; refine (HG.out _ HB.out A c _ (Kd.R_reads' HR.out).2.2 (by have := HLEN.out; omega) HWF.out).mono ?_; rintro e w3 ⟨g, v, rfl, hg, hx, hr, hb⟩; obtain ⟨A3, c3, ev⟩ := Kd.R_slice hr; subst ev; have HX := Aside0.mk hx; have HR3 := Aside0.mk hr; have HB3 := Aside0.mk hb; have HG3 := Aside0.mk hg; clear hx hr hb hg))
  go_ret
  exact ⟨_, rfl, ⟨g, A3, c3, rfl, Nat.le_trans HB.out.size HG3.out, HX.out, Kd.R_lower HR3.out HB.out.size⟩, HB.out.trans (HB3.out.mono HB.out.size)⟩
set_option maxRecDepth 100000 in
set_option maxHeartbeats 1000000 in
theorem Within_calls (q : Pf) (hq : wfP q) (w : World) (bt bm : Nat) (L : List (Pf × Int)) (hT : TabIs w bt bm L) (hlen : L.length ≤ 1000000) :
    Calls Try.prog 25 #[.pointer (some ⟨bt, 0, none⟩), .agg #[.int .u32 q.1, .int .i64 q.2]] w fun e w' => ∃ f l, e = .returned f ∧ l.Perm ((L.map Prod.fst).filter (gIn q)) ∧ IterAt w.heap.size w' f (rowsOf L (sortP l)) ∧ Below w.heap.size w w' := by
  have hb1 := (Below.refl w.heap.size w).alloc (Nat.le_refl _) (.cells #[.int .u32 q.1, .int .i64 q.2] 26)
  have hbx := blk_new w (.cells #[.int .u32 q.1, .int .i64 q.2] 26)
  have hlt : w.heap.size < (w.alloc (.cells #[.int .u32 q.1, .int .i64 q.2] 26)).heap.size := by simp
  have HS := Aside0.mk (sorted_within (w.alloc (.cells #[.int .u32 q.1, .int .i64 q.2] 26)) bt bm L (hT.below hb1) hlen (gIn q) w.heap.size (fun p W hp hb => within1_calls p q hp hq _ W ((hb.block _ hlt).trans hbx)))
  have HG := Aside0.mk (fun W h => gone_calls W bt bm L (hT.below h))
  have HWF := Aside0.mk hT.wf
  have HLEN := Aside0.mk hlen
  have HB1 := Aside0.mk hb1
  clear hT hlen hb1 hbx hlt
  go_enter Try.func25, Try.ntmps25
  go_wp2_with (first
    | (go_at_call 65; refine HS.out.mono ?_; rintro e w2 ⟨v, l, rfl, hp, hr, hb⟩; obtain ⟨A, c, ev⟩ := Kd.R_slice hr; subst ev; have HLN := Aside0.mk (show (sortP l).length ≤ 1000000 by rw [(sortP_perm l).length_eq, hp.length_eq]; exact Nat.le_trans (List.length_filter_le _ _) (by rw [List.length_map]; exact HLEN.out)); have HP := Aside0.mk hp; have HR := Aside0.mk hr; have HB := Aside0.mk (HB1.out.trans (hb.mono HB1.out.size)); clear hp hr hb)
    | (go_at_call 64; refine (HG.out _ HB.out A c _ (Kd.R_reads' HR.out).2.2 HLN.out (fun p hp => HWF.out p (List.mem_filter.1 (HP.out.mem_iff.1 (sortP_mem hp))).1)).mono ?_; rintro e w3 ⟨g, v, rfl, hg, hx, hr, hb⟩; obtain ⟨A3, c3, ev⟩ := Kd.R_slice hr; subst ev; have HX := Aside0.mk hx; have HR3 := Aside0.mk hr; have HB3 := Aside0.mk hb; have HG3 := Aside0.mk hg; clear hx hr hb hg))
  go_ret
  exact ⟨_, l, rfl, HP.out, ⟨g, A3, c3, rfl, Nat.le_trans HB.out.size HG3.out, HX.out, Kd.R_lower HR3.out HB.out.size⟩, HB.out.trans (HB3.out.mono HB.out.size)⟩
end Go.Proofs.Ytaplkfnolimdmaa.Table
namespace Go.Proofs.Ytaplkfnolimdmaa.Table
open Go.RowKit Go.Proofs.Ytaplkfnolimdmaa.PC Go.Proofs.YtaplkfnolimdmaaW.PrintWords Go.Proofs.YtaplkfnolimdmaaW.PrintLast Go.Proofs.YtaplkfnolimdmaaW.PrintMore Go.Proofs.YtaplkfnolimdmaaW.Bits Go.Proofs.YtaplkfnolimdmaaW.MapRaw
set_option linter.unusedVariables false
set_option linter.unusedSimpArgs false

theorem lk_put (L : List (Pf × Int)) (p q : Pf) (v : Int) : lkL (putL L p v) q = if q = p then some v else lkL L q := by
  induction L with
  | nil =>
    unfold putL lkL
    by_cases h : q = p
    · rw [if_pos h.symm, if_pos h]
    · rw [if_neg (fun e => h e.symm), if_neg h]
      rfl
  | cons x l ih =>
    unfold putL
    by_cases h : x.1 = p
    · rw [if_pos h]
      unfold lkL
      by_cases hq : q = p
      · rw [if_pos hq.symm, if_pos hq]
      · rw [if_neg (fun e => hq e.symm), if_neg hq, if_neg (fun e => hq (by rw [← e, h]))]
    · rw [if_neg h]
      unfold lkL
      by_cases hq : x.1 = q
      · rw [if_pos hq, if_pos hq, if_neg (fun e => h (by rw [hq, e]))]
      · rw [if_neg hq, if_neg hq]
        exact ih
theorem lk_mem_iff {L : List (Pf × Int)} {p : Pf} : (lkL L p).isSome = true ↔ p ∈ L.map Prod.fst := by
  induction L with
  | nil => simp [lkL]
  | cons x l ih =>
    unfold lkL
    by_cases h : x.1 = p
    · simp [h]
    · rw [if_neg h, ih]
      simp [Ne.symm h]
theorem lk_del {L : List (Pf × Int)} (hn : (L.map Prod.fst).Nodup) (p q : Pf) : lkL (delL L p) q = if q = p then none else lkL L q := by
  induction L with
  | nil =>
    unfold delL lkL
    split <;> rfl
  | cons x l ih =>
    simp only [List.map_cons, List.nodup_cons] at hn
    unfold delL
    by_cases h : x.1 = p
    · rw [if_pos h]
      by_cases hq : q = p
      · rw [if_pos hq]
        cases hl : lkL l q with
        | none => rfl
        | some v => exact absurd (lk_mem_iff.1 (by rw [hl]; rfl)) (by rw [hq, ← h]; exact hn.1)
      · rw [if_neg hq]
        rw [show lkL (x :: l) q = lkL l q from if_neg (fun e => hq (by rw [← e, h]))]
    · rw [if_neg h]
      unfold lkL
      by_cases hq : x.1 = q
      · rw [if_pos hq, if_pos hq, if_neg (fun e => h (by rw [hq, e]))]
      · rw [if_neg hq, if_neg hq]
        exact ih hn.2
theorem put_len (L : List (Pf × Int)) (p : Pf) (v : Int) : (putL L p v).length ≤ L.length + 1 := by
  induction L with
  | nil => simp [putL]
  | cons x l ih =>
    unfold putL
    split
    · simp
    · simp only [List.length_cons]; omega

theorem del_len (L : List (Pf × Int)) (p : Pf) : (delL L p).length ≤ L.length := by
  induction L with
  | nil => simp [delL]
  | cons x l ih =>
    unfold delL
    split
    · simp
    · simp only [List.length_cons]; omega

/-- What TrieAgain puts for a prefix. -/
def vOf (p : Pf) : Int := wrap64 (p.1 + p.2)
def putV (L : List (Pf × Int)) (p : Pf) : List (Pf × Int) := if chk p.1 p.2 = 0 then putL L p (vOf p) else L
/-- The table holds the prefixes of S that may be, each with its own value, and no others. -/
def Holds (L : List (Pf × Int)) (S : List Pf) : Prop := ∀ p, lkL L p = if p ∈ S ∧ chk p.1 p.2 = 0 then some (vOf p) else none
theorem Holds.nil : Holds [] [] := fun p => by rw [if_neg (by simp)]; rfl
theorem Holds.put {L : List (Pf × Int)} {S : List Pf} (h : Holds L S) (q : Pf) : Holds (putV L q) (S ++ [q]) := fun p => by
  unfold putV
  by_cases hq : chk q.1 q.2 = 0
  · rw [if_pos hq, lk_put]
    by_cases e : p = q
    · rw [if_pos e, if_pos ⟨by simp [e], by rw [e]; exact hq⟩, e]
    · rw [if_neg e, h p]
      by_cases hs : p ∈ S ∧ chk p.1 p.2 = 0
      · rw [if_pos hs, if_pos ⟨by simp [hs.1], hs.2⟩]
      · rw [if_neg hs, if_neg (fun hh => hs ⟨by simpa [e] using hh.1, hh.2⟩)]
  · rw [if_neg hq, h p]
    by_cases hs : p ∈ S ∧ chk p.1 p.2 = 0
    · rw [if_pos hs, if_pos ⟨by simp [hs.1], hs.2⟩]
    · rw [if_neg hs, if_neg]
      rintro ⟨h1, h2⟩
      rcases List.mem_append.1 h1 with h3 | h3
      · exact hs ⟨h3, h2⟩
      · obtain rfl : p = q := by simpa using h3
        exact hq h2
theorem putV_len (L : List (Pf × Int)) (p : Pf) : (putV L p).length ≤ L.length + 1 := by
  unfold putV
  split
  · exact put_len _ _ _
  · omega
theorem Holds.same {L L' : List (Pf × Int)} {S S' : List Pf} (h : Holds L S) (h' : Holds L' S') (hs : ∀ p, p ∈ S ↔ p ∈ S') : ∀ p, lkL L p = lkL L' p := fun p => by
  rw [h p, h' p]
  by_cases hp : p ∈ S ∧ chk p.1 p.2 = 0
  · rw [if_pos hp, if_pos ⟨(hs p).1 hp.1, hp.2⟩]
  · rw [if_neg hp, if_neg (fun hh => hp ⟨(hs p).2 hh.1, hh.2⟩)]
theorem len_same {L L' : List (Pf × Int)} (hn : (L.map Prod.fst).Nodup) (hn' : (L'.map Prod.fst).Nodup) (h : ∀ p, lkL L p = lkL L' p) : L.length = L'.length := by
  have hp : (L.map Prod.fst).Perm (L'.map Prod.fst) := (List.perm_ext_iff_of_nodup hn hn').2 fun p => by rw [← lk_mem_iff, ← lk_mem_iff, h p]
  have := hp.length_eq
  simpa using this
theorem overL_same {L L' : List (Pf × Int)} (h : ∀ p, lkL L p = lkL L' p) (x : Int) (n : Nat) : overL L x n = overL L' x n := by
  unfold overL
  congr 1
  funext i
  unfold hit
  rw [h]
theorem longest_same {L L' : List (Pf × Int)} (h : ∀ p, lkL L p = lkL L' p) (x : Int) : longest L x = longest L' x := by
  unfold longest
  rw [overL_same h]
  split
  · rfl
  · rw [h]
/-- What was put, and was not there, and is dropped, leaves no trace. -/
theorem trace {L : List (Pf × Int)} {q : Pf} (v : Int) (hn : ((putL L q v).map Prod.fst).Nodup) (h : lkL L q = none) : ∀ p, lkL (delL (putL L q v) q) p = lkL L p := fun p => by
  rw [lk_del hn, lk_put]
  by_cases e : p = q
  · rw [if_pos e, e, h]
  · rw [if_neg e, if_neg e]
theorem rows_at {L : List (Pf × Int)} {l : List Pf} (hp : l.Perm (L.map Prod.fst)) {x : Row} (hx : x ∈ rowsOf L (sortP l)) : lkL L x.1 = some x.2 := by
  unfold rowsOf at hx
  obtain ⟨p, hm, rfl⟩ := List.mem_map.1 hx
  have := lk_mem_iff.2 (hp.mem_iff.1 (sortP_mem hm))
  obtain ⟨v, hv⟩ := Option.isSome_iff_exists.1 this
  simp [hv]
end Go.Proofs.Ytaplkfnolimdmaa.Table
namespace Go.Proofs.Ytaplkfnolimdmaa.Table
open Go.RowKit Go.Proofs.Ytaplkfnolimdmaa.PC Go.Proofs.YtaplkfnolimdmaaW.PrintWords Go.Proofs.YtaplkfnolimdmaaW.PrintLast Go.Proofs.YtaplkfnolimdmaaW.PrintMore Go.Proofs.YtaplkfnolimdmaaW.Bits Go.Proofs.YtaplkfnolimdmaaW.MapRaw
attribute [local go_sem] Oper.semAt_some
set_option linter.unusedVariables false
set_option linter.unusedSimpArgs false

set_option maxRecDepth 100000 in
set_option maxHeartbeats 2000000 in
theorem gone1_pre (F : Fence) (n : Nat) (h7 : F.fn 95) (hro : F.round = none) (hn : 1 ≤ n) (l Bs n₀ : Nat) (A : Option Addr) (c : Nat) (rows : List Row) (hlen : rows.length ≤ 1000000) (J Jx : List Row → World → Prop) (W : World) (hn₀ : n₀ ≤ W.heap.size) (hJ : AbidesFrom W.heap.size J)
    (hY : ∀ pre x W1, J pre W1 → pre ++ [x] <+: rows → YieldAt F (n - 1) Try.prog l (encRow x) W1 fun e W' =>
      (e = .returned (.bool true) ∧ J (pre ++ [x]) W' ∧ Below n₀ W1 W') ∨ (e = .returned (.bool false) ∧ Jx (pre ++ [x]) W'))
    (hBs : W.cell? ⟨Bs, 0, none⟩ = some (.slice A rows.length c)) (hC : RowsAt n₀ W A rows) (h0 : J [] W) :
    CallsIn F n Try.prog 95 #[.func (.yield l) #[] #[], .pointer (some ⟨Bs, 0, none⟩)] W fun e W' => (∃ v, e = .returned v) ∧
      ((∃ ys, ys = rows ∧ J ys W') ∨ (∃ pre, pre <+: rows ∧ Jx pre W')) := by
  have hu26 := Try.underlying26
  have hu144 := Try.underlying144
  have HC := Aside0.mk hC
  have HN := Aside0.mk hn₀
  have HJ := Aside0.mk hJ
  have HL := Aside0.mk hlen
  clear hC hn₀ hJ
  refine callsIn_of_wp Try.func95 rfl h7 ?_ hro
  simp only [Try.ntmps95, List.size_toArray, List.length_cons, List.length_nil, Nat.reduceAdd, Nat.reduceSub, Array.replicate_succ, Array.replicate_zero, List.push_toArray, List.append_toArray, List.nil_append, List.cons_append]
  gi_wp2
  gi_loopw [7] (fun i wr => ∃ k : Nat, k ≤ rows.length ∧ i = .int .i64 k ∧ Aside0 (J (rows.take k) wr) ∧ Aside0 (Below n₀ W wr))
    (fun i _ => rows.length - (intOf i).toNat)
  case atStart => exact ⟨0, Nat.zero_le _, rfl, ⟨h0⟩, ⟨Below.refl _ _⟩⟩
  case round =>
    obtain ⟨k, hk, rfl, hJs, hnx⟩ := hrel
    by_cases hlt : k < rows.length
    · obtain ⟨ad, rfl, hb, d0, d1, d2⟩ := (HC.out.below hnx.out) k hlt
      have e1 : (rows.getD k r0) = rows[k] := by rw [List.getD_eq_getElem?_getD, List.getElem?_eq_getElem hlt]; rfl
      have htk : rows.take (k + 1) = rows.take k ++ [rows.getD k r0] := by rw [List.take_succ_eq_append_getElem hlt, e1]
      have HTK := Aside0.mk htk
      clear e1 htk
      obtain ⟨x, hx⟩ : ∃ x, rows.getD k r0 = x := ⟨_, rfl⟩
      rw [hx] at d0 d1 d2 HTK
      clear hx
      have hbx := blk_new wr (.cells #[.int .u32 x.1.1, .int .i64 x.1.2, .int .i64 x.2] 144)
      obtain ⟨fn, tmps, assign, body, hy, hR⟩ := hY (rows.take k) x (wr.alloc (.cells #[.int .u32 x.1.1, .int .i64 x.1.2, .int .i64 x.2] 144)) (HJ.out _ _ _ none hJs.out (World.grownBy_alloc _ _ none) (fun r e => by cases e)) (by rw [← HTK.out]; exact List.take_prefix _ _)
      dsimp only [encRow] at hy
      have HR := Aside0.mk hR
      have hq1 : (0 : Int) ≤ (k : Int) := by omega
      have hq2 : (k : Int) < (rows.length : Int) := by omega
      clear hY hR hb
      gi_wp2
      refine HR.out.mono ?_
      rintro e W3 (⟨rfl, hJ3, hk3⟩ | ⟨rfl, hJx3⟩)
      · have HJ3 := Aside0.mk hJ3
        have HK3 := Aside0.mk hk3
        clear hJ3 hk3
        gi_wp2
        go_roundw
        case rel => exact ⟨k + 1, by omega, (by first | (simp; done) | go_num), ⟨by rw [HTK.out]; exact HJ3.out⟩, ⟨(hnx.out.alloc (Nat.le_trans HN.out hnx.out.size) _).trans HK3.out⟩⟩
        case measure => simp [intOf]; omega
      · have HJ3 := Aside0.mk hJx3
        clear hJx3
        gi_wp2
        refine bodyPost_ret (results_none rfl _ _ _) rfl ?_
        exact ⟨⟨_, rfl⟩, .inr ⟨_, by rw [← HTK.out]; exact List.take_prefix _ _, HJ3.out⟩⟩
    · obtain rfl : k = rows.length := by omega
      gi_wp2
      go_end0
      exact ⟨⟨_, rfl⟩, .inl ⟨_, rfl, by have := hJs.out; rw [List.take_length] at this; exact this⟩⟩
/-- One of the rows. -/
abbrev Sub (rows : List Row) := { x : Row // x ∈ rows }
theorem gone1_subs (F : Fence) (n : Nat) (h7 : F.fn 95) (hro : F.round = none) (hn : 1 ≤ n) (Bs n₀ : Nat) (A : Option Addr) (c : Nat) (rows : List Row) (hlen : rows.length ≤ 1000000) (w : World) (hBs : Bs < w.heap.size) (hn₀ : n₀ ≤ w.heap.size)
    (hc : w.cell? ⟨Bs, 0, none⟩ = some (.slice A rows.length c)) (hI : RowsAt n₀ w A rows) :
    SeqStopsK F n Try.prog 95 #[.pointer (some ⟨Bs, 0, none⟩)] (fun x : Sub rows => encRow x.1) (Below n₀) (fun ys => ys.map (·.1) = rows) (fun pre => pre.map (·.1) <+: rows) rows.length w := fun l J Jx W hW hJ hJx hY h0 => by
  refine (gone1_pre F n h7 hro hn l Bs n₀ A c rows hlen (fun pre W => ∃ p : List (Sub rows), p.map (·.1) = pre ∧ J p W) (fun pre W => ∃ p : List (Sub rows), p.map (·.1) = pre ∧ Jx p W) W (Nat.le_trans hn₀ hW.size)
    (fun s A B row hs hg hr => by obtain ⟨p, e, hp⟩ := hs; exact ⟨p, e, hJ _ _ _ _ hp hg hr⟩) ?_ ((hW.cell (p := ⟨Bs, 0, none⟩) hBs).trans hc) (hI.below (hW.mono hn₀)) ⟨[], rfl, h0⟩).mono ?_
  · rintro pre x W1 ⟨p, rfl, hp⟩ hpre
    have hx : x ∈ rows := hpre.subset (by simp)
    have hlt : p.length < rows.length := by have := hpre.length_le; simp at this; omega
    obtain ⟨fn, tmps, assign, body, hy, hR⟩ := hY p ⟨x, hx⟩ W1 hp hlt
    refine ⟨fn, tmps, assign, body, hy, hR.mono ?_⟩
    rintro e W' (⟨rfl, h1, h2⟩ | ⟨rfl, h1⟩)
    · exact .inl ⟨rfl, ⟨p ++ [⟨x, hx⟩], by simp, h1⟩, h2⟩
    · exact .inr ⟨rfl, ⟨p ++ [⟨x, hx⟩], by simp, h1⟩⟩
  · rintro e W' ⟨he, ⟨ys, rfl, p, e1, hp⟩ | ⟨pre, h1, p, rfl, hp⟩⟩
    · exact ⟨he, .inl ⟨p, e1, hp⟩⟩
    · exact ⟨he, .inr ⟨p, h1, hp⟩⟩
/-- The same, out of a value that is such an iterator. -/
theorem IterAt.subs {n₀ : Nat} {w : World} {f : Value} {rows : List Row} (h : IterAt n₀ w f rows) (hlen : rows.length ≤ 1000000) : ∃ g, f = .func (.func 95) #[] #[.pointer (some ⟨g, 0, none⟩)] ∧
    SeqStopsK Fence.wide 2 Try.prog 95 #[.pointer (some ⟨g, 0, none⟩)] (fun x : Sub rows => encRow x.1) (Below w.heap.size) (fun ys => ys.map (·.1) = rows) (fun pre => pre.map (·.1) <+: rows) rows.length w := by
  obtain ⟨g, A, c, e, hg, hx, hr⟩ := h
  exact ⟨g, e, gone1_subs Fence.wide 2 trivial rfl (by omega) g w.heap.size A c rows hlen w (Array.getElem?_eq_some_iff.1 hx).1 (Nat.le_refl _) (by rw [blk_cell hx]; rfl) (RowsAt.of_C (Kd.R_reads' hr).2.2)⟩
/-- The frame of a round: both loop variables handed over, the first one boxed. -/
def frameOf (t : Array Value) (p1 p2 b1 v2 : Nat) (x : Row) (Bx : Nat) : Array Value :=
  (((t.setIfInBounds p1 (.agg #[.int .u32 x.1.1, .int .i64 x.1.2])).setIfInBounds p2 (.int .i64 x.2)).setIfInBounds b1 (.pointer (some ⟨Bx, 0, none⟩))).setIfInBounds v2 (.int .i64 x.2)
theorem keeps_of_below {B : Nat} {W W' : World} (h : Below W.heap.size W W') : KeepsFrom B W W' := ⟨h.size, fun k o _ hk _ => (h.block k (Array.getElem?_eq_some_iff.1 hk).1).trans hk⟩
/-- A range over such an iterator whose body only reads and makes: it never leaves, and nothing that lay when it began turns. -/
theorem range_read {g : Operand} {p1 p2 b1 v2 : Nat} {assign body : Code} {Q : Exit → Act → World → Prop} {a : Act} {w : World} {n₀ : Nat} {f : Value} {rows : List Row} (hg : a.eval g = f) (hIt : IterAt n₀ w f rows) (hlen : rows.length ≤ 1000000)
    (hassign : ∀ (l : Nat) (x : Row) (W : World) (Bx : Nat) (K : Act → World → Prop), W.heap.size = Bx → K { tmps := frameOf a.tmps p1 p2 b1 v2 x Bx, defers := [] } (W.alloc (.cells #[.int .u32 x.1.1, .int .i64 x.1.2] 26)) →
      assign.wpIn (Fence.wide.inRound l) 1 Try.prog (Exit.then K (fun _ _ _ => False)) { tmps := (a.tmps.setIfInBounds p1 (.agg #[.int .u32 x.1.1, .int .i64 x.1.2])).setIfInBounds p2 (.int .i64 x.2), defers := [] } W)
    (hbody : ∀ (l : Nat) (x : Row) (Bx : Nat) (W : World), x ∈ rows → Below w.heap.size w W → W.heap[Bx]? = some (.cells #[.int .u32 x.1.1, .int .i64 x.1.2] 26 (0, 0)) →
      body.wpIn (Fence.wide.inRound l) 1 Try.prog (fun e _ W' => e = .normal ∧ Below W.heap.size W W') { tmps := frameOf a.tmps p1 p2 b1 v2 x Bx, defers := [] } W)
    (hdone : ∀ (D : Nat) (W : World), w.heap.size ≤ D → W.heap[D]? = some (.deferred (some [])) → Below w.heap.size w W → Q .normal { a with defers := { target := .collected D, args := #[] } :: a.defers } W) :
    (Code.rangeFunc g #[p1, p2] assign body).wp Try.prog Q a w := by
  obtain ⟨gf, ef, hseq⟩ := hIt.subs hlen
  subst ef
  refine wpIn_wide.1 (wpIn_rangeFunc_ownH (F := Fence.wide) (n := 3) rfl (by omega) hg trivial (enters_of Try.func95 (by kernel_rfl) rfl) hseq belowK_t (belowK_b (Nat.le_refl _)) (Below.refl _ _) (fun _ => rfl)
    (fun _ W => Below w.heap.size w W) (fun _ _ _ => False) (ownFrom_below (Nat.le_refl _) (Nat.le_refl _)) (fun _ _ _ _ _ hs _ _ => hs) (Below.refl _ _)
    (fun x a' W => ∃ Bx, w.heap.size ≤ Bx ∧ W.heap[Bx]? = some (.cells #[.int .u32 x.1.1.1, .int .i64 x.1.1.2] 26 (0, 0)) ∧ a' = { tmps := frameOf a.tmps p1 p2 b1 v2 x.1 Bx, defers := [] }) ?hAx ?assign ?body ?done (fun _ _ _ _ _ _ h => h.elim))
  case assign =>
    intro l pre x W K hI hK
    have e : (#[p1, p2].zip (encRow x.1)).foldl (fun (t : Array Value) (p, v) => t.setIfInBounds p v) a.tmps = (a.tmps.setIfInBounds p1 (.agg #[.int .u32 x.1.1.1, .int .i64 x.1.1.2])).setIfInBounds p2 (.int .i64 x.1.2) := by simp [encRow]
    rw [e]
    refine hassign l x.1 W W.heap.size K rfl ?_
    exact hK _ _ ((KeepsOthers.alloc _ _).from _) ((Below.refl _ W).alloc hI.size _) (hI.alloc hI.size _) ⟨W.heap.size, hI.size, blk_new W _, rfl⟩
  case hAx =>
    rintro x a' s W W' row ⟨Bx, h1, h2, h3⟩ hg hrow
    exact ⟨Bx, h1, (hg.block Bx (Array.getElem?_eq_some_iff.1 h2).1 (fun e => by obtain ⟨_, o, ho, hc⟩ := hrow Bx e.symm; rw [h2] at ho; cases ho; cases hc)).trans h2, h3⟩
  case body =>
    rintro l pre x a' W hl ⟨r, hr⟩ hI ⟨Bx, hBx, bX, rfl⟩ hlt
    refine wpIn_mono (hbody l x.1 Bx W x.2 hI bX) ?_
    rintro e a3 W3 ⟨rfl, hb⟩
    exact ⟨keeps_of_below hb, hb.mono hI.size, hI.trans (hb.mono hI.size)⟩
  case done =>
    rintro D xs W hD hxs hI hK
    exact hdone D W hD hK hI
end Go.Proofs.Ytaplkfnolimdmaa.Table
namespace Go.Proofs.Ytaplkfnolimdmaa.Table
open Go.RowKit Go.Proofs.Ytaplkfnolimdmaa.PC Go.Proofs.YtaplkfnolimdmaaW.PrintWords Go.Proofs.YtaplkfnolimdmaaW.PrintLast Go.Proofs.YtaplkfnolimdmaaW.PrintMore Go.Proofs.YtaplkfnolimdmaaW.Bits Go.Proofs.YtaplkfnolimdmaaW.MapRaw
attribute [local go_sem] Oper.semAt_some
set_option linter.unusedVariables false
set_option linter.unusedSimpArgs false

theorem But.cell {S : Nat → Prop} {W W' : World} (h : But S W W') {p : Addr} (hp : p.block < W.heap.size) (hs : ¬ S p.block) : W'.cell? p = W.cell? p := World.cell?_of_block (w := W) (h.block p.block hp hs)
theorem But.alloc {S : Nat → Prop} {a b : World} (h : But S a b) (o : Obj) : But S a (b.alloc o) := h.trans (But.of_below ((Below.refl _ b).alloc (Nat.le_refl _) o))
/-- The rows' cells lie in a block that S lets alone. -/
def RowsIn (S : Nat → Prop) (n₁ : Nat) (W : World) (A : Option Addr) (rows : List Row) : Prop :=
  ∀ j, j < rows.length → ∃ ad : Addr, A = some ad ∧ (ad.block < n₁ ∧ ¬ S ad.block) ∧ W.cell? (ad.add (j * 3)) = some (.int .u32 (rows.getD j r0).1.1) ∧ W.cell? ⟨(ad.add (j * 3)).block, (ad.add (j * 3)).off + 1, none⟩ = some (.int .i64 (rows.getD j r0).1.2) ∧ W.cell? ⟨(ad.add (j * 3)).block, (ad.add (j * 3)).off + 2, none⟩ = some (.int .i64 (rows.getD j r0).2)
theorem RowsIn.but {S : Nat → Prop} {n₁ : Nat} {W W' : World} {A : Option Addr} {rows : List Row} (h : RowsIn S n₁ W A rows) (hn : n₁ ≤ W.heap.size) (hb : But S W W') : RowsIn S n₁ W' A rows := fun j hj => by
  obtain ⟨ad, e, ⟨hl, hs⟩, h0, h1, h2⟩ := h j hj
  have hl' : (ad.add (j * 3)).block < W.heap.size := by rw [add_block]; omega
  have hs' : ¬ S (ad.add (j * 3)).block := by rw [add_block]; exact hs
  exact ⟨ad, e, ⟨hl, hs⟩, (hb.cell (p := ad.add (j * 3)) hl' hs').trans h0, (hb.cell (p := ⟨(ad.add (j * 3)).block, (ad.add (j * 3)).off + 1, none⟩) hl' hs').trans h1, (hb.cell (p := ⟨(ad.add (j * 3)).block, (ad.add (j * 3)).off + 2, none⟩) hl' hs').trans h2⟩

set_option maxRecDepth 100000 in
set_option maxHeartbeats 2000000 in
theorem gone1_but (F : Fence) (n : Nat) (h7 : F.fn 95) (hro : F.round = none) (hn : 1 ≤ n) (l Bs n₁ : Nat) (S : Nat → Prop) (A : Option Addr) (c : Nat) (rows : List Row) (hlen : rows.length ≤ 1000000) (J Jx : List Row → World → Prop) (W : World) (hn₁ : n₁ ≤ W.heap.size) (hJ : AbidesFrom W.heap.size J)
    (hY : ∀ pre x W1, J pre W1 → pre ++ [x] <+: rows → YieldAt F (n - 1) Try.prog l (encRow x) W1 fun e W' =>
      (e = .returned (.bool true) ∧ J (pre ++ [x]) W' ∧ But S W1 W') ∨ (e = .returned (.bool false) ∧ Jx (pre ++ [x]) W'))
    (hBs : W.cell? ⟨Bs, 0, none⟩ = some (.slice A rows.length c)) (hC : RowsIn S n₁ W A rows) (h0 : J [] W) :
    CallsIn F n Try.prog 95 #[.func (.yield l) #[] #[], .pointer (some ⟨Bs, 0, none⟩)] W fun e W' => (∃ v, e = .returned v) ∧
      ((∃ ys, ys = rows ∧ J ys W') ∨ (∃ pre, pre <+: rows ∧ Jx pre W')) := by
  have hu26 := Try.underlying26
  have hu144 := Try.underlying144
  have HC := Aside0.mk hC
  have HN := Aside0.mk hn₁
  have HJ := Aside0.mk hJ
  have HL := Aside0.mk hlen
  clear hC hn₁ hJ
  refine callsIn_of_wp Try.func95 rfl h7 ?_ hro
  simp only [Try.ntmps95, List.size_toArray, List.length_cons, List.length_nil, Nat.reduceAdd, Nat.reduceSub, Array.replicate_succ, Array.replicate_zero, List.push_toArray, List.append_toArray, List.nil_append, List.cons_append]
  gi_wp2
  gi_loopw [7] (fun i wr => ∃ k : Nat, k ≤ rows.length ∧ i = .int .i64 k ∧ Aside0 (J (rows.take k) wr) ∧ Aside0 (But S W wr))
    (fun i _ => rows.length - (intOf i).toNat)
  case atStart => exact ⟨0, Nat.zero_le _, rfl, ⟨h0⟩, ⟨But.refl _ _⟩⟩
  case round =>
    obtain ⟨k, hk, rfl, hJs, hnx⟩ := hrel
    by_cases hlt : k < rows.length
    · obtain ⟨ad, rfl, hb, d0, d1, d2⟩ := (HC.out.but HN.out hnx.out) k hlt
      have e1 : (rows.getD k r0) = rows[k] := by rw [List.getD_eq_getElem?_getD, List.getElem?_eq_getElem hlt]; rfl
      have htk : rows.take (k + 1) = rows.take k ++ [rows.getD k r0] := by rw [List.take_succ_eq_append_getElem hlt, e1]
      have HTK := Aside0.mk htk
      clear e1 htk
      obtain ⟨x, hx⟩ : ∃ x, rows.getD k r0 = x := ⟨_, rfl⟩
      rw [hx] at d0 d1 d2 HTK
      clear hx
      have hbx := blk_new wr (.cells #[.int .u32 x.1.1, .int .i64 x.1.2, .int .i64 x.2] 144)
      obtain ⟨fn, tmps, assign, body, hy, hR⟩ := hY (rows.take k) x (wr.alloc (.cells #[.int .u32 x.1.1, .int .i64 x.1.2, .int .i64 x.2] 144)) (HJ.out _ _ _ none hJs.out (World.grownBy_alloc _ _ none) (fun r e => by cases e)) (by rw [← HTK.out]; exact List.take_prefix _ _)
      dsimp only [encRow] at hy
      have HR := Aside0.mk hR
      have hq1 : (0 : Int) ≤ (k : Int) := by omega
      have hq2 : (k : Int) < (rows.length : Int) := by omega
      clear hY hR hb
      gi_wp2
      refine HR.out.mono ?_
      rintro e W3 (⟨rfl, hJ3, hk3⟩ | ⟨rfl, hJx3⟩)
      · have HJ3 := Aside0.mk hJ3
        have HK3 := Aside0.mk hk3
        clear hJ3 hk3
        gi_wp2
        go_roundw
        case rel => exact ⟨k + 1, by omega, (by first | (simp; done) | go_num), ⟨by rw [HTK.out]; exact HJ3.out⟩, ⟨(hnx.out.alloc _).trans HK3.out⟩⟩
        case measure => simp [intOf]; omega
      · have HJ3 := Aside0.mk hJx3
        clear hJx3
        gi_wp2
        refine bodyPost_ret (results_none rfl _ _ _) rfl ?_
        exact ⟨⟨_, rfl⟩, .inr ⟨_, by rw [← HTK.out]; exact List.take_prefix _ _, HJ3.out⟩⟩
    · obtain rfl : k = rows.length := by omega
      gi_wp2
      go_end0
      exact ⟨⟨_, rfl⟩, .inl ⟨_, rfl, by have := hJs.out; rw [List.take_length] at this; exact this⟩⟩

theorem gone1_subsB (F : Fence) (n : Nat) (h7 : F.fn 95) (hro : F.round = none) (hn : 1 ≤ n) (Bs : Nat) (S : Nat → Prop) (A : Option Addr) (c : Nat) (rows : List Row) (hlen : rows.length ≤ 1000000) (w : World) (hBs : Bs < w.heap.size)
    (hc : w.cell? ⟨Bs, 0, none⟩ = some (.slice A rows.length c)) (hI : RowsIn S w.heap.size w A rows) :
    SeqStopsK F n Try.prog 95 #[.pointer (some ⟨Bs, 0, none⟩)] (fun x : Sub rows => encRow x.1) (But S) (fun ys => ys.map (·.1) = rows) (fun pre => pre.map (·.1) <+: rows) rows.length w := fun l J Jx W hW hJ hJx hY h0 => by
  refine (gone1_but F n h7 hro hn l Bs w.heap.size S A c rows hlen (fun pre W => ∃ p : List (Sub rows), p.map (·.1) = pre ∧ J p W) (fun pre W => ∃ p : List (Sub rows), p.map (·.1) = pre ∧ Jx p W) W hW.size
    (fun s A B row hs hg hr => by obtain ⟨p, e, hp⟩ := hs; exact ⟨p, e, hJ _ _ _ _ hp hg hr⟩) ?_ ((hW.cell (p := ⟨Bs, 0, none⟩) hBs).trans hc) (hI.but (Nat.le_refl _) (But.of_below hW)) ⟨[], rfl, h0⟩).mono ?_
  · rintro pre x W1 ⟨p, rfl, hp⟩ hpre
    have hx : x ∈ rows := hpre.subset (by simp)
    have hlt : p.length < rows.length := by have := hpre.length_le; simp at this; omega
    obtain ⟨fn, tmps, assign, body, hy, hR⟩ := hY p ⟨x, hx⟩ W1 hp hlt
    refine ⟨fn, tmps, assign, body, hy, hR.mono ?_⟩
    rintro e W' (⟨rfl, h1, h2⟩ | ⟨rfl, h1⟩)
    · exact .inl ⟨rfl, ⟨p ++ [⟨x, hx⟩], by simp, h1⟩, h2⟩
    · exact .inr ⟨rfl, ⟨p ++ [⟨x, hx⟩], by simp, h1⟩⟩
  · rintro e W' ⟨he, ⟨ys, rfl, p, e1, hp⟩ | ⟨pre, h1, p, rfl, hp⟩⟩
    · exact ⟨he, .inl ⟨p, e1, hp⟩⟩
    · exact ⟨he, .inr ⟨p, h1, hp⟩⟩
/-- The same, out of a value that is such an iterator; S: blocks ahead of the iterator's memory, and those from w's end on. -/
theorem IterAt.subsB {n₀ : Nat} {w : World} {f : Value} {rows : List Row} (h : IterAt n₀ w f rows) (hlen : rows.length ≤ 1000000) (S : Nat → Prop) (hS : ∀ k, S k → k < n₀ ∨ w.heap.size ≤ k) : ∃ g, f = .func (.func 95) #[] #[.pointer (some ⟨g, 0, none⟩)] ∧
    SeqStopsK Fence.wide 2 Try.prog 95 #[.pointer (some ⟨g, 0, none⟩)] (fun x : Sub rows => encRow x.1) (But S) (fun ys => ys.map (·.1) = rows) (fun pre => pre.map (·.1) <+: rows) rows.length w := by
  obtain ⟨g, A, c, e, hg, hx, hr⟩ := h
  refine ⟨g, e, gone1_subsB Fence.wide 2 trivial rfl (by omega) g S A c rows hlen w (Array.getElem?_eq_some_iff.1 hx).1 (by rw [blk_cell hx]; rfl) ?_⟩
  intro j hj
  obtain ⟨ad, e1, hl, h0, h1, h2⟩ := RowsAt.of_C (Kd.R_reads' hr).2.2 j hj
  subst e1
  have hn : n₀ ≤ ad.block := ((Kd.R_bound hr).1 ad.block rfl).2.1
  exact ⟨ad, rfl, ⟨hl, fun hs => by have := hS _ hs; omega⟩, h0, h1, h2⟩
theorem keeps_of_but {B : Nat} {S : Nat → Prop} {W W' : World} (h : But S W W') (hS : ∀ k, S k → k < B) : KeepsFrom B W W' := ⟨h.size, fun k o hB hk _ => (h.block k (Array.getElem?_eq_some_iff.1 hk).1 (fun hs => by have := hS k hs; omega)).trans hk⟩
/-- A range over such an iterator: the body writes the blocks S, which lie ahead of the iterator's memory, and may leave early. -/
theorem range_gen {g : Operand} {p1 p2 : Nat} {assign body : Code} {Q : Exit → Act → World → Prop} {a : Act} {w : World} {n₀ : Nat} {f : Value} {rows : List Row} (S : Nat → Prop) (hS : ∀ k, S k → k < n₀) (hn₀ : n₀ ≤ w.heap.size) (hg : a.eval g = f) (hIt : IterAt n₀ w f rows) (hlen : rows.length ≤ 1000000)
    (I : List (Sub rows) → World → Prop) (Ix : Code → List (Sub rows) → World → Prop) (hI : OwnFrom w.heap.size I) (hIx : ∀ c, OwnFrom w.heap.size (Ix c)) (h0 : I [] w) (hIs : ∀ pre W, I pre W → w.heap.size ≤ W.heap.size) (hIb : ∀ pre W W', I pre W → Below W.heap.size W W' → I pre W')
    (Ax : Row → Act → World → Prop) (hAx : ∀ x a', OwnFrom w.heap.size (fun (_ : Unit) W => Ax x a' W))
    (hassign : ∀ (l : Nat) (x : Row) (W : World) (K : Act → World → Prop), w.heap.size ≤ W.heap.size → (∀ a' W', Below W.heap.size W W' → Ax x a' W' → K a' W') →
      assign.wpIn (Fence.wide.inRound l) 1 Try.prog (Exit.then K (fun _ _ _ => False)) { tmps := (a.tmps.setIfInBounds p1 (.agg #[.int .u32 x.1.1, .int .i64 x.1.2])).setIfInBounds p2 (.int .i64 x.2), defers := [] } W)
    (hbody : ∀ (l : Nat) (pre : List (Sub rows)) (x : Sub rows) (a' : Act) (W : World), I pre W → Ax x.1 a' W → pre.length < rows.length →
      body.wpIn (Fence.wide.inRound l) 1 Try.prog (fun e _ W' => But S W W' ∧ ((e = .normal ∧ I (pre ++ [x]) W') ∨ (e = .ret ∧ Ix .ret (pre ++ [x]) W') ∨ (∃ id, e = .exit id ∧ Ix (.exit id) (pre ++ [x]) W'))) a' W)
    (hdone : ∀ (D : Nat) (xs : List (Sub rows)) (W : World), w.heap.size ≤ D → xs.map (·.1) = rows → I xs W → W.heap[D]? = some (.deferred (some [])) → Q .normal { a with defers := { target := .collected D, args := #[] } :: a.defers } W)
    (hstop : ∀ (D : Nat) (c : Code) (pre : List (Sub rows)) (W : World), w.heap.size ≤ D → pre.map (·.1) <+: rows → Ix c pre W → W.heap[D]? = some (.deferred (some [])) → c.wp Try.prog Q { a with defers := { target := .collected D, args := #[] } :: a.defers } W) :
    (Code.rangeFunc g #[p1, p2] assign body).wp Try.prog Q a w := by
  obtain ⟨gf, ef, hseq⟩ := hIt.subsB hlen (fun k => S k ∨ w.heap.size ≤ k) (fun k hk => by rcases hk with hk | hk; exact .inl (hS k hk); exact .inr hk)
  subst ef
  refine wpIn_wide.1 (wpIn_rangeFunc_ownH (F := Fence.wide) (n := 3) rfl (by omega) hg trivial (enters_of Try.func95 (by kernel_rfl) rfl) hseq (fun h k => But.trans h k) ?hKb (Below.refl _ _) (fun _ => rfl)
    I Ix hI hIx h0 (fun x a' W => Ax x.1 a' W) (fun x a' => hAx x.1 a') ?assign ?body hdone (fun D c pre W h1 h2 h3 h4 => wpIn_wide.2 (hstop D c pre W h1 h2 h3 h4)))
  case hKb =>
    intro W l o o' hl ho _ _
    exact ⟨rfl, rfl, rfl, by simp [World.putObj], fun k hk hne => World.putObj_heap_other (fun e => hne (.inr (by omega)))⟩
  case assign =>
    intro l pre x W K hIp hK
    have e : (#[p1, p2].zip (encRow x.1)).foldl (fun (t : Array Value) (p, v) => t.setIfInBounds p v) a.tmps = (a.tmps.setIfInBounds p1 (.agg #[.int .u32 x.1.1.1, .int .i64 x.1.1.2])).setIfInBounds p2 (.int .i64 x.1.2) := by simp [encRow]
    rw [e]
    refine hassign l x.1 W K (hIs _ _ hIp) (fun a' W' hb hax => hK a' W' (keeps_of_below hb) (But.of_below hb) (hIb _ _ _ hIp hb) hax)
  case body =>
    rintro l pre x a' W hl ⟨r, hr⟩ hIp hax hlt
    refine wpIn_mono (hbody l pre x a' W hIp hax hlt) ?_
    rintro e a3 W3 ⟨hb, ⟨rfl, h1⟩ | ⟨rfl, h1⟩ | ⟨id, rfl, h1⟩⟩
    · exact ⟨keeps_of_but hb (fun k hk => by have := hS k hk; omega), hb.mono (fun k hk => .inl hk), h1⟩
    · exact ⟨keeps_of_but hb (fun k hk => by have := hS k hk; omega), h1⟩
    · exact ⟨keeps_of_but hb (fun k hk => by have := hS k hk; omega), h1⟩
/-- The frame and the box of a round of 'for p, v := range ..' (v2: the second variable's slot; p2 itself, if it has none). -/
def BoxAx (t : Array Value) (n : Nat) (p1 p2 b1 v2 : Nat) (x : Row) (a' : Act) (W : World) : Prop :=
  ∃ Bx, n ≤ Bx ∧ W.heap[Bx]? = some (.cells #[.int .u32 x.1.1, .int .i64 x.1.2] 26 (0, 0)) ∧ a' = { tmps := frameOf t p1 p2 b1 v2 x Bx, defers := [] }
theorem boxAx_own (t : Array Value) (n p1 p2 b1 v2 : Nat) (x : Row) (a' : Act) : OwnFrom n (fun (_ : Unit) W => BoxAx t n p1 p2 b1 v2 x a' W) := by
  rintro s W W' row ⟨Bx, h1, h2, h3⟩ hg hrow
  exact ⟨Bx, h1, (hg.block Bx (Array.getElem?_eq_some_iff.1 h2).1 (fun e => by obtain ⟨_, o, ho, hc⟩ := hrow Bx e.symm; rw [h2] at ho; cases ho; cases hc)).trans h2, h3⟩
/-- What a round of such a loop leaves. -/
def BodyPost {α : Type} (S : Nat → Prop) (I : List α → World → Prop) (Ix : Code → List α → World → Prop) (xs : List α) (W : World) (e : Exit) (W' : World) : Prop :=
  But S W W' ∧ ((e = .normal ∧ I xs W') ∨ (e = .ret ∧ Ix .ret xs W') ∨ (∃ id, e = .exit id ∧ Ix (.exit id) xs W'))
theorem BodyPost.normal {α : Type} {S : Nat → Prop} {I : List α → World → Prop} {Ix : Code → List α → World → Prop} {xs : List α} {W W' : World} (hb : But S W W') (h : I xs W') : BodyPost S I Ix xs W .normal W' := ⟨hb, .inl ⟨rfl, h⟩⟩
theorem BodyPost.ret {α : Type} {S : Nat → Prop} {I : List α → World → Prop} {Ix : Code → List α → World → Prop} {xs : List α} {W W' : World} (hb : But S W W') (h : Ix .ret xs W') : BodyPost S I Ix xs W .ret W' := ⟨hb, .inr (.inl ⟨rfl, h⟩)⟩
theorem BodyPost.exit {α : Type} {S : Nat → Prop} {I : List α → World → Prop} {Ix : Code → List α → World → Prop} {xs : List α} {W W' : World} {id : Nat} (hb : But S W W') (h : Ix (.exit id) xs W') : BodyPost S I Ix xs W (.exit id) W' := ⟨hb, .inr (.inr ⟨id, rfl, h⟩)⟩
/-- The same, for 'for p, v := range ..'. -/
theorem range_box {g : Operand} {p1 p2 b1 v2 : Nat} {assign body : Code} {Q : Exit → Act → World → Prop} {a : Act} {w : World} {n₀ : Nat} {f : Value} {rows : List Row} (S : Nat → Prop) (hS : ∀ k, S k → k < n₀) (hn₀ : n₀ ≤ w.heap.size) (hg : a.eval g = f) (hIt : IterAt n₀ w f rows) (hlen : rows.length ≤ 1000000)
    (I : List (Sub rows) → World → Prop) (Ix : Code → List (Sub rows) → World → Prop) (hI : OwnFrom w.heap.size I) (hIx : ∀ c, OwnFrom w.heap.size (Ix c)) (h0 : I [] w) (hIs : ∀ pre W, I pre W → w.heap.size ≤ W.heap.size) (hIb : ∀ pre W W', I pre W → Below W.heap.size W W' → I pre W')
    (hassign : ∀ (l : Nat) (x : Row) (W : World) (Bx : Nat) (K : Act → World → Prop), W.heap.size = Bx → K { tmps := frameOf a.tmps p1 p2 b1 v2 x Bx, defers := [] } (W.alloc (.cells #[.int .u32 x.1.1, .int .i64 x.1.2] 26)) →
      assign.wpIn (Fence.wide.inRound l) 1 Try.prog (Exit.then K (fun _ _ _ => False)) { tmps := (a.tmps.setIfInBounds p1 (.agg #[.int .u32 x.1.1, .int .i64 x.1.2])).setIfInBounds p2 (.int .i64 x.2), defers := [] } W)
    (hbody : ∀ (l : Nat) (pre : List (Sub rows)) (x : Row) (hx : x ∈ rows) (Bx : Nat) (W : World), I pre W → w.heap.size ≤ Bx → W.heap[Bx]? = some (.cells #[.int .u32 x.1.1, .int .i64 x.1.2] 26 (0, 0)) → pre.length < rows.length →
      body.wpIn (Fence.wide.inRound l) 1 Try.prog (fun e _ W' => BodyPost S I Ix (pre ++ [⟨x, hx⟩]) W e W') { tmps := frameOf a.tmps p1 p2 b1 v2 x Bx, defers := [] } W)
    (hdone : ∀ (D : Nat) (xs : List (Sub rows)) (W : World), w.heap.size ≤ D → xs.map (·.1) = rows → I xs W → W.heap[D]? = some (.deferred (some [])) → Q .normal { a with defers := { target := .collected D, args := #[] } :: a.defers } W)
    (hstop : ∀ (D : Nat) (c : Code) (pre : List (Sub rows)) (W : World), w.heap.size ≤ D → pre.map (·.1) <+: rows → Ix c pre W → W.heap[D]? = some (.deferred (some [])) → c.wp Try.prog Q { a with defers := { target := .collected D, args := #[] } :: a.defers } W) :
    (Code.rangeFunc g #[p1, p2] assign body).wp Try.prog Q a w := by
  refine range_gen S hS hn₀ hg hIt hlen I Ix hI hIx h0 hIs hIb (BoxAx a.tmps w.heap.size p1 p2 b1 v2) (fun x a' => boxAx_own _ _ _ _ _ _ x a') ?_ ?_ hdone hstop
  · intro l x W K hW hK
    refine hassign l x W W.heap.size K rfl (hK _ _ ((Below.refl _ W).alloc (Nat.le_refl _) _) ⟨W.heap.size, hW, blk_new W _, rfl⟩)
  · rintro l pre x a' W hIp ⟨Bx, h1, h2, rfl⟩ hlt
    exact hbody l pre x.1 x.2 Bx W hIp h1 h2 hlt
/-- The same, for 'for range ..'. -/
theorem range_none {g : Operand} {p1 p2 : Nat} {body : Code} {Q : Exit → Act → World → Prop} {a : Act} {w : World} {n₀ : Nat} {f : Value} {rows : List Row} (S : Nat → Prop) (hS : ∀ k, S k → k < n₀) (hn₀ : n₀ ≤ w.heap.size) (hg : a.eval g = f) (hIt : IterAt n₀ w f rows) (hlen : rows.length ≤ 1000000)
    (I : List (Sub rows) → World → Prop) (Ix : Code → List (Sub rows) → World → Prop) (hI : OwnFrom w.heap.size I) (hIx : ∀ c, OwnFrom w.heap.size (Ix c)) (h0 : I [] w) (hIs : ∀ pre W, I pre W → w.heap.size ≤ W.heap.size) (hIb : ∀ pre W W', I pre W → Below W.heap.size W W' → I pre W')
    (hbody : ∀ (l : Nat) (pre : List (Sub rows)) (x : Row) (hx : x ∈ rows) (W : World), I pre W → pre.length < rows.length →
      body.wpIn (Fence.wide.inRound l) 1 Try.prog (fun e _ W' => BodyPost S I Ix (pre ++ [⟨x, hx⟩]) W e W') { tmps := (a.tmps.setIfInBounds p1 (.agg #[.int .u32 x.1.1, .int .i64 x.1.2])).setIfInBounds p2 (.int .i64 x.2), defers := [] } W)
    (hdone : ∀ (D : Nat) (xs : List (Sub rows)) (W : World), w.heap.size ≤ D → xs.map (·.1) = rows → I xs W → W.heap[D]? = some (.deferred (some [])) → Q .normal { a with defers := { target := .collected D, args := #[] } :: a.defers } W)
    (hstop : ∀ (D : Nat) (c : Code) (pre : List (Sub rows)) (W : World), w.heap.size ≤ D → pre.map (·.1) <+: rows → Ix c pre W → W.heap[D]? = some (.deferred (some [])) → c.wp Try.prog Q { a with defers := { target := .collected D, args := #[] } :: a.defers } W) :
    (Code.rangeFunc g #[p1, p2] .skip body).wp Try.prog Q a w := by
  refine range_gen S hS hn₀ hg hIt hlen I Ix hI hIx h0 hIs hIb (fun x a' _ => a' = { tmps := (a.tmps.setIfInBounds p1 (.agg #[.int .u32 x.1.1, .int .i64 x.1.2])).setIfInBounds p2 (.int .i64 x.2), defers := [] }) (fun x a' => fun _ _ _ _ h _ _ => h) ?_ ?_ hdone hstop
  · intro l x W K hW hK
    exact wpIn_skip (hK _ _ (Below.refl _ _) rfl)
  · rintro l pre x a' W hIp rfl hlt
    exact hbody l pre x.1 x.2 W hIp hlt
end Go.Proofs.Ytaplkfnolimdmaa.Table
