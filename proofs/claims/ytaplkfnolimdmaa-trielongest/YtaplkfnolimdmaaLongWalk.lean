/- TrieLongest: the law's own function answers true. -/
import Derived.Test.YtaplkfnolimdmaaT3
import Derived.BigQuiet
import Derived.Deep.DeepCutAuto
import Derived.Deep.CutBlock
namespace Go.Proofs.Ytaplkfnolimdmaa.Table
open Go.RowKit Go.Proofs.Ytaplkfnolimdmaa.PC Go.Proofs.YtaplkfnolimdmaaW.PrintWords Go.Proofs.YtaplkfnolimdmaaW.PrintLast Go.Proofs.YtaplkfnolimdmaaW.PrintMore Go.Proofs.YtaplkfnolimdmaaW.Bits Go.Proofs.YtaplkfnolimdmaaW.MapRaw
attribute [local go_sem] Oper.semAt_some
attribute [local go_sem] max2_int min2_int max_two min_two max_three min_three max_four min_four
set_option linter.unusedVariables false
set_option linter.unusedSimpArgs false

/-- What a world keeps through the law's walk: the table, and the variables' boxes. -/
structure TL (w0 : World) (q : Pf) (x : Int) (p : Pf) (g7 g8 g9 bt bm : Nat) (L : List (Pf × Int)) (W : World) : Prop where
  tt : TabIs W bt bm L
  bq : W.heap[w0.heap.size]? = some (.cells #[.int .u32 q.1, .int .i64 q.2] 26 (0, 0))
  br : W.heap[w0.heap.size + 1]? = some (.cells #[.bool false] 4 (0, 0))
  b7 : W.heap[g7]? = some (.cells #[.pointer (some ⟨bt, 0, none⟩)] 38 (0, 0))
  b8 : W.heap[g8]? = some (.cells #[.int .u32 x] 24 (0, 0))
  b9 : W.heap[g9]? = some (.cells #[.int .u32 p.1, .int .i64 p.2] 26 (0, 0))
  below : Below w0.heap.size w0 W
  ne : w0.heap.size + 1 < bt ∧ w0.heap.size + 1 < bm ∧ w0.heap.size + 1 < g7 ∧ w0.heap.size + 1 < g8 ∧ w0.heap.size + 1 < g9
variable {w0 : World} {q : Pf} {x : Int} {p : Pf} {g7 g8 g9 bt bm : Nat} {L : List (Pf × Int)} {W W' : World}
theorem TL.to (h : TL w0 q x p g7 g8 g9 bt bm L W) (hb : Below W.heap.size W W') : TL w0 q x p g7 g8 g9 bt bm L W' :=
  ⟨h.tt.below hb, blk_below h.bq hb, blk_below h.br hb, blk_below h.b7 hb, blk_below h.b8 hb, blk_below h.b9 hb, h.below.trans (hb.mono h.below.size), h.ne⟩
theorem TL.cells (h : TL w0 q x p g7 g8 g9 bt bm L W) : W.cell? ⟨g7, 0, none⟩ = some (.pointer (some ⟨bt, 0, none⟩)) ∧ W.cell? ⟨g8, 0, none⟩ = some (.int .u32 x) ∧ W.cell? ⟨g9, 0, none⟩ = some (.int .u32 p.1) ∧ W.cell? ⟨g9, 1, none⟩ = some (.int .i64 p.2) ∧
    W.cell? ⟨w0.heap.size, 0, none⟩ = some (.int .u32 q.1) ∧ W.cell? ⟨w0.heap.size, 1, none⟩ = some (.int .i64 q.2) :=
  ⟨by rw [blk_cell h.b7]; rfl, by rw [blk_cell h.b8]; rfl, by rw [blk_cell h.b9]; rfl, by rw [blk_cell h.b9]; rfl, by rw [blk_cell h.bq]; rfl, by rw [blk_cell h.bq]; rfl⟩

theorem TL.keep {N : Nat} (h : TL w0 q x p g7 g8 g9 bt bm L W) (hN : bt < N ∧ bm < N ∧ g7 < N ∧ g8 < N ∧ g9 < N ∧ w0.heap.size + 1 < N) (hb : Below N W W') : TL w0 q x p g7 g8 g9 bt bm L W' :=
  ⟨h.tt.at (hb.block _ (by omega)) (hb.block _ (by omega)), (hb.block _ (by omega)).trans h.bq, (hb.block _ (by omega)).trans h.br, (hb.block _ (by omega)).trans h.b7, (hb.block _ (by omega)).trans h.b8, (hb.block _ (by omega)).trans h.b9, h.below.trans (hb.mono (by omega)), h.ne⟩
/-- The counters beside it, and the marks that loops have left. -/
structure TN (w0 : World) (q : Pf) (x : Int) (p : Pf) (g7 g8 g9 bt bm : Nat) (L : List (Pf × Int)) (gn gi gl N : Nat) (Ds : List Nat) (n i l : Int) (W : World) : Prop where
  tl : TL w0 q x p g7 g8 g9 bt bm L W
  bn : W.heap[gn]? = some (.cells #[.int .i64 n] 3 (0, 0))
  bi : W.heap[gi]? = some (.cells #[.int .i64 i] 3 (0, 0))
  bl : W.heap[gl]? = some (.cells #[.int .i64 l] 3 (0, 0))
  ord : bt < gn ∧ bm < gn ∧ g7 < gn ∧ g8 < gn ∧ g9 < gn ∧ w0.heap.size + 1 < gn ∧ gn < gi ∧ gi < gl ∧ gl < N
  ds : ∀ D ∈ Ds, gl < D ∧ D < N ∧ W.heap[D]? = some (.deferred (some []))
  nd : Ds.Nodup
  size : N ≤ W.heap.size
variable {gn gi gl N : Nat} {Ds : List Nat} {n i l : Int}
theorem TN.keep (h : TN w0 q x p g7 g8 g9 bt bm L gn gi gl N Ds n i l W) (hb : Below N W W') : TN w0 q x p g7 g8 g9 bt bm L gn gi gl N Ds n i l W' := by
  have ho := h.ord
  exact ⟨h.tl.keep (N := N) (by omega) hb, (hb.block _ (by omega)).trans h.bn, (hb.block _ (by omega)).trans h.bi, (hb.block _ (by omega)).trans h.bl, ho, fun D hD => ⟨(h.ds D hD).1, (h.ds D hD).2.1, (hb.block _ (h.ds D hD).2.1).trans (h.ds D hD).2.2⟩, h.nd, Nat.le_trans h.size hb.size⟩
theorem TN.to (h : TN w0 q x p g7 g8 g9 bt bm L gn gi gl N Ds n i l W) (hb : Below W.heap.size W W') : TN w0 q x p g7 g8 g9 bt bm L gn gi gl N Ds n i l W' := h.keep (hb.mono h.size)
theorem TN.raise {M : Nat} (h : TN w0 q x p g7 g8 g9 bt bm L gn gi gl N Ds n i l W) (hM : N ≤ M) (hs : M ≤ W.heap.size) : TN w0 q x p g7 g8 g9 bt bm L gn gi gl M Ds n i l W :=
  ⟨h.tl, h.bn, h.bi, h.bl, by have := h.ord; omega, fun D hD => ⟨(h.ds D hD).1, Nat.lt_of_lt_of_le (h.ds D hD).2.1 hM, (h.ds D hD).2.2⟩, h.nd, hs⟩
theorem TN.mark {D : Nat} (h : TN w0 q x p g7 g8 g9 bt bm L gn gi gl N Ds n i l W) (hD : N ≤ D) (hd : W.heap[D]? = some (.deferred (some []))) : TN w0 q x p g7 g8 g9 bt bm L gn gi gl (D + 1) (D :: Ds) n i l W :=
  have hlt := (Array.getElem?_eq_some_iff.1 hd).1
  ⟨h.tl, h.bn, h.bi, h.bl, by have := h.ord; omega, fun D' hD' => by
    rcases List.mem_cons.1 hD' with rfl | h'
    · exact ⟨by have := h.ord; omega, by omega, hd⟩
    · have := h.ds D' h'
      exact ⟨this.1, by omega, this.2.2⟩, List.nodup_cons.2 ⟨fun h' => by have := (h.ds D h').2.1; omega, h.nd⟩, by omega⟩
theorem TN.own {β : Type} {B : Nat} (hB : N ≤ B) (fn fi fl : β → Int) : OwnFrom B (fun s W => TN w0 q x p g7 g8 g9 bt bm L gn gi gl N Ds (fn s) (fi s) (fl s) W) :=
  fun s W W' row hs hg hr => hs.keep ((Below.refl N W).grown hg hs.size (fun k e => Nat.le_trans hB (hr k e).1))
theorem TN.setN (h : TN w0 q x p g7 g8 g9 bt bm L gn gi gl N Ds n i l W) (u : Int) : TN w0 q x p g7 g8 g9 bt bm L gn gi gl N Ds u i l (W.setCell ⟨gn, 0, none⟩ (.int .i64 u)) := by
  have ho := h.ord
  exact ⟨h.tl.keep (N := gn) (by omega) ((Below.refl gn W).setCell (p := ⟨gn, 0, none⟩) (Nat.le_refl _) _), blk_put h.bn 0 _ rfl, (Below.heap_setCell _ _ _ _ (by show gi ≠ gn; omega)).trans h.bi, (Below.heap_setCell _ _ _ _ (by show gl ≠ gn; omega)).trans h.bl, ho,
    fun D hD => ⟨(h.ds D hD).1, (h.ds D hD).2.1, (Below.heap_setCell _ _ _ _ (by show D ≠ gn; have := (h.ds D hD).1; omega)).trans (h.ds D hD).2.2⟩, h.nd, by simpa [World.setCell] using h.size⟩
theorem TN.setI (h : TN w0 q x p g7 g8 g9 bt bm L gn gi gl N Ds n i l W) (u : Int) : TN w0 q x p g7 g8 g9 bt bm L gn gi gl N Ds n u l (W.setCell ⟨gi, 0, none⟩ (.int .i64 u)) := by
  have ho := h.ord
  exact ⟨h.tl.keep (N := gi) (by omega) ((Below.refl gi W).setCell (p := ⟨gi, 0, none⟩) (Nat.le_refl _) _), (Below.heap_setCell _ _ _ _ (by show gn ≠ gi; omega)).trans h.bn, blk_put h.bi 0 _ rfl, (Below.heap_setCell _ _ _ _ (by show gl ≠ gi; omega)).trans h.bl, ho,
    fun D hD => ⟨(h.ds D hD).1, (h.ds D hD).2.1, (Below.heap_setCell _ _ _ _ (by show D ≠ gi; have := (h.ds D hD).1; omega)).trans (h.ds D hD).2.2⟩, h.nd, by simpa [World.setCell] using h.size⟩
theorem TN.setL (h : TN w0 q x p g7 g8 g9 bt bm L gn gi gl N Ds n i l W) (u : Int) : TN w0 q x p g7 g8 g9 bt bm L gn gi gl N Ds n i u (W.setCell ⟨gl, 0, none⟩ (.int .i64 u)) := by
  have ho := h.ord
  exact ⟨h.tl.keep (N := gl) (by omega) ((Below.refl gl W).setCell (p := ⟨gl, 0, none⟩) (Nat.le_refl _) _), (Below.heap_setCell _ _ _ _ (by show gn ≠ gl; omega)).trans h.bn, (Below.heap_setCell _ _ _ _ (by show gi ≠ gl; omega)).trans h.bi, blk_put h.bl 0 _ rfl, ho,
    fun D hD => ⟨(h.ds D hD).1, (h.ds D hD).2.1, (Below.heap_setCell _ _ _ _ (by show D ≠ gl; have := (h.ds D hD).1; omega)).trans (h.ds D hD).2.2⟩, h.nd, by simpa [World.setCell] using h.size⟩
theorem TN.facts (h : TN w0 q x p g7 g8 g9 bt bm L gn gi gl N Ds n i l W) : W.cell? ⟨g7, 0, none⟩ = some (.pointer (some ⟨bt, 0, none⟩)) ∧ W.cell? ⟨g8, 0, none⟩ = some (.int .u32 x) ∧
    W.cell? ⟨w0.heap.size, 0, none⟩ = some (.int .u32 q.1) ∧ W.cell? ⟨w0.heap.size, 1, none⟩ = some (.int .i64 q.2) ∧ W.cell? ⟨gn, 0, none⟩ = some (.int .i64 n) ∧ W.cell? ⟨gi, 0, none⟩ = some (.int .i64 i) ∧ W.cell? ⟨gl, 0, none⟩ = some (.int .i64 l) ∧
    W.frozen? ⟨gn, 0, none⟩ = false ∧ W.frozen? ⟨gi, 0, none⟩ = false ∧ W.frozen? ⟨gl, 0, none⟩ = false ∧ W.cell? ⟨g9, 1, none⟩ = some (.int .i64 p.2) :=
  ⟨h.tl.cells.1, h.tl.cells.2.1, h.tl.cells.2.2.2.2.1, h.tl.cells.2.2.2.2.2, by rw [blk_cell h.bn]; rfl, by rw [blk_cell h.bi]; rfl, by rw [blk_cell h.bl]; rfl, blk_frozen h.bn 0, blk_frozen h.bi 0, blk_frozen h.bl 0, h.tl.cells.2.2.2.1⟩
theorem TN.start (h : TL w0 q x p g7 g8 g9 bt bm L W) (hN : g7 < W.heap.size ∧ g8 < W.heap.size ∧ g9 < W.heap.size) : TN w0 q x p g7 g8 g9 bt bm L W.heap.size (W.heap.size + 1) (W.heap.size + 1 + 1) (W.heap.size + 1 + 1 + 1) [] 0 0 (-1)
    (((W.alloc (.cells #[.int .i64 0] 3)).alloc (.cells #[.int .i64 0] 3)).alloc (.cells #[.int .i64 (-1)] 3)) := by
  have l1 := h.tt.lt
  have l2 := (Array.getElem?_eq_some_iff.1 h.br).1
  have b3 := (((Below.refl W.heap.size W).alloc (Nat.le_refl _) (.cells #[.int .i64 0] 3)).alloc (by simp) (.cells #[.int .i64 0] 3)).alloc (by simp; omega) (.cells #[.int .i64 (-1)] 3)
  refine ⟨h.to b3, blk_alloc (blk_alloc (blk_new W _) _) _, blk_alloc ?_ _, ?_, by omega, by simp, List.nodup_nil, by simp⟩
  · have := blk_new (W.alloc (.cells #[.int .i64 0] 3)) (.cells #[.int .i64 0] 3)
    rwa [World.size_alloc] at this
  · have := blk_new ((W.alloc (.cells #[.int .i64 0] 3)).alloc (.cells #[.int .i64 0] 3)) (.cells #[.int .i64 (-1)] 3)
    rwa [World.size_alloc, World.size_alloc] at this

set_option maxRecDepth 100000 in
set_option maxHeartbeats 20000000 in
theorem long_walk (A0 : Option Addr) (c0 : Nat) (l0 : List Pf) (x : Int) (q : Pf) (w : World) (hr0 : Kd.C kP w A0 l0.length l0) (hc0 : l0.length ≤ c0) (hw0 : ∀ p ∈ l0, wfP p) (hq : wfP q) (hx : 0 ≤ x ∧ x < 4294967296) :
    Calls Try.prog 5 #[.slice A0 l0.length c0, .int .u32 x, .agg #[.int .u32 q.1, .int .i64 q.2]] w fun e w' => e = .returned (.bool true) ∧ Below w.heap.size w w' := by
  have hu26 := Try.underlying26
  have HR0 := Aside0.mk hr0
  have HC0 := Aside0.mk hc0
  have HW0 := Aside0.mk hw0
  have HQ := Aside0.mk hq
  have HA := Aside0.mk hx
  clear hr0 hc0 hw0 hq hx
  have HB := Aside0.mk (((Below.refl w.heap.size w).alloc (Nat.le_refl _) (.cells #[.int .u32 q.1, .int .i64 q.2] 26)).alloc (by simp) (.cells #[.bool false] 4))
  have HX := Aside0.mk (show ((w.alloc (.cells #[.int .u32 q.1, .int .i64 q.2] 26)).alloc (.cells #[.bool false] 4)).heap[w.heap.size]? = some (.cells #[.int .u32 q.1, .int .i64 q.2] 26 (0, 0)) ∧
      ((w.alloc (.cells #[.int .u32 q.1, .int .i64 q.2] 26)).alloc (.cells #[.bool false] 4)).heap[w.heap.size + 1]? = some (.cells #[.bool false] 4 (0, 0)) from
    ⟨blk_alloc (blk_new w _) _, by have := blk_new (w.alloc (.cells #[.int .u32 q.1, .int .i64 q.2] 26)) (.cells #[.bool false] 4); rwa [World.size_alloc] at this⟩)
  obtain ⟨ji2, hji2⟩ : ∃ j_ : Int, (mn (l0.length : Int) 200) = j_ := ⟨_, rfl⟩
  have hjb : 0 ≤ ji2 ∧ ji2 ≤ 200 ∧ ji2 ≤ (l0.length : Int) := by rw [← hji2]; unfold mn; split <;> omega
  have hji2_ : (if 200 < (l0.length : Int) then 200 else (l0.length : Int)) = ji2 := hji2
  have c3b0 := eq_true hjb.1
  have c3b1 : decide (0 ≤ (ji2)) = true := decide_eq_true hjb.1
  have c4b0 := eq_true hjb.2.2
  have c4b1 : decide ((ji2) ≤ (l0.length : Int)) = true := decide_eq_true hjb.2.2
  obtain ⟨y, hy⟩ : ∃ y_ : List Pf, y_ = (l0.take ((ji2) : Int).toNat) := ⟨_, rfl⟩
  have hyl : y.length ≤ 200 := by rw [hy, List.length_take]; omega
  have hyw : ∀ p ∈ y, wfP p := fun p hp => HW0.out p (List.mem_of_mem_take (by rw [hy] at hp; exact hp))
  have q14 : ((ji2) : Int) ≤ ((l0.length : Int) : Int) := hjb.2.2
  obtain ⟨i014, hi014, _, hsz14, _⟩ := info_parts infoP
  have hcut14 := cut_to (P := Try.prog) 22 26 .i64 Try.underlying22 hi014 A0 l0.length c0 (ji2) hjb.1 q14 HC0.out
  have hr14 := Kd.C_take (m := ((ji2) : Int).toNat) HR0.out (by omega)
  have hy14 : y.length = ((ji2) : Int).toNat := (by rw [hy, List.length_take]; omega)
  rw [← hy] at hr14
  rw [← hy14] at hcut14
  have HR := Aside0.mk hr14
  clear hr14 hi014 hsz14 hy14 hjb
  replace q14 := eq_true q14
  clear hy
  have FX := Aside0.mk (show y.length ≤ 200 ∧ (∀ p ∈ y, wfP p) from ⟨hyl, hyw⟩)
  clear hyl hyw
  obtain ⟨p, v, is, hlong, hlw⟩ := longest_law HA.out FX.out.2
  have HLW := Aside0.mk hlw
  obtain ⟨L, hL⟩ : ∃ L, laidN y y.length = L := ⟨_, rfl⟩
  have HLL := Aside0.mk hL
  rw [hL] at hlong
  have HLG := Aside0.mk (fun W bt bm h => by have := longest_calls x HA.out W bt bm L h; rw [hlong] at this; simp only [eP] at this; exact this)
  have HLD := Aside0.mk (fun W (hW : Below w.heap.size w W) => by have := laid_calls A0 c0 y W (Kd.C_below HR.out hW) FX.out.2 FX.out.1; rw [hL] at this; exact this)
  clear hlw hL hlong
  refine calls_of_wp_marks Try.func5 rfl ?_
  simp only [Try.ntmps5, List.size_toArray, List.length_cons, List.length_nil, Nat.reduceAdd, Nat.reduceSub, Array.replicate_succ, Array.replicate_zero, List.push_toArray, List.append_toArray, List.nil_append, List.cons_append]
  go_wp2_with (first
    | (go_at_call 15; refine (awake_calls _).mono ?_; rintro e w1 ⟨rfl, hb⟩; have n0_ := Aside0.mk (HB.out.trans (hb.mono HB.out.size)); have n1_ := Aside0.mk (show _ ∧ _ from ⟨blk_below HX.out.1 hb, blk_below HX.out.2 hb⟩); clear HB HX hb; have HB := n0_; have HX := n1_; clear n0_ n1_)
    | (go_at_call 20; refine (HLD.out _ HB.out).mono ?_; rintro e w2 ⟨bt, bm, rfl, hT, h1, h2, hb⟩; have TT := Aside0.mk hT; have NT := Aside0.mk (show w.heap.size + 1 < bt ∧ w.heap.size + 1 < bm ∧ w.heap.size + 1 < w2.heap.size from by have h3 := (Array.getElem?_eq_some_iff.1 HX.out.2).1; have h4 := hb.size; exact ⟨by omega, by omega, by omega⟩); have n0_ := Aside0.mk (HB.out.trans (hb.mono HB.out.size)); have n1_ := Aside0.mk (show _ ∧ _ from ⟨blk_below HX.out.1 hb, blk_below HX.out.2 hb⟩); clear HB HX hT h1 h2 hb; have HB := n0_; have HX := n1_; clear n0_ n1_)
    | (go_at_call 21; refine (HLG.out _ bt bm (TT.out.below (((Below.refl _ _).alloc (Nat.le_refl _) _).alloc (by simp) _))).mono ?_; rintro e w3 ⟨rfl, hb⟩; have HB3 := Aside0.mk hb; clear hb))
  have HG := Aside0.mk (show TL w q x p w2.heap.size (w2.heap.size + 1) w3.heap.size bt bm L (w3.alloc (Obj.cells #[Value.int .u32 p.1, Value.int .i64 p.2] 26)) from by
    have b1 := (Below.refl w2.heap.size w2).alloc (Nat.le_refl _) (Obj.cells #[Value.pointer (some ⟨bt, 0, none⟩)] 38)
    have b2 := b1.alloc (by simp) (Obj.cells #[Value.int .u32 x] 24)
    have b3 := b2.trans (HB3.out.mono (by simp; omega))
    have b4 := b3.alloc (by have := HB3.out.size; simp at this; omega) (Obj.cells #[Value.int .u32 p.1, Value.int .i64 p.2] 26)
    have n1 := NT.out
    have n2 := HB3.out.size
    simp at n2
    refine ⟨TT.out.below b4, blk_below HX.out.1 b4, blk_below HX.out.2 b4, ?_, ?_, blk_new w3 _, HB.out.trans (b4.mono HB.out.size), by omega⟩
    · exact blk_alloc (blk_below (blk_alloc (blk_new w2 _) _) HB3.out) _
    · have h8 := blk_new (w2.alloc (Obj.cells #[Value.pointer (some ⟨bt, 0, none⟩)] 38)) (Obj.cells #[Value.int .u32 x] 24)
      rw [World.size_alloc] at h8
      exact blk_alloc (blk_below h8 HB3.out) _)
  obtain ⟨g7, hg7⟩ : ∃ g, w2.heap.size = g := ⟨_, rfl⟩
  obtain ⟨g9, hg9⟩ : ∃ g, w3.heap.size = g := ⟨_, rfl⟩
  rw [hg7, hg9] at HG
  simp only [hg7, hg9]
  generalize (w3.alloc (Obj.cells #[Value.int .u32 p.1, Value.int .i64 p.2] 26)) = W5 at HG ⊢
  clear TT NT HB3 HB HX HLG HLD hg7 hg9 HR0 HC0 HW0 c3b0 c3b1 c4b0 c4b1 q14 hcut14 hji2_ hji2
  have HCL := Aside0.mk (fun W (h : TL w q x p g7 (g7 + 1) g9 bt bm L W) => h.cells)
  go_cut [63] from 39 to 62 (fun s wx => s = .bool false ∧ Aside0 (TL w q x p g7 (g7 + 1) g9 bt bm L wx))
  case first =>
    cases is with
    | true =>
      obtain ⟨i, hvi, hil, hyi⟩ := (HLW.out.1 rfl).2.2
      subst hvi
      have HIN := Aside0.mk (fun W => by have := refIn_calls HA.out (HLW.out.1 rfl).2.1 W; rw [(HLW.out.1 rfl).1] at this; exact this)
      obtain ⟨ad, ea, _, _⟩ := at_P HR.out (i : Int) (by omega) (by omega)
      subst ea
      have HCE := Aside0.mk (fun W (h : TL w q x p g7 (g7 + 1) g9 bt bm L W) => (show W.cell? (ad.add (i * 2)) = some (.int .u32 p.1) ∧ W.cell? ⟨(ad.add (i * 2)).block, (ad.add (i * 2)).off + 1, none⟩ = some (.int .i64 p.2) from by
        obtain ⟨ad2, e2, d0, d1⟩ := at_P (Kd.C_below HR.out h.below) (i : Int) (by omega) (by omega)
        cases e2
        have e1 : rdP y (i : Int) = p := hyi
        rw [e1] at d0 d1
        exact ⟨d0, d1⟩))
      have hq1 : (0 : Int) ≤ (i : Int) := by omega
      have hq2 : (i : Int) < (y.length : Int) := by omega
      have e1 : decide ((i : Int) < 0) = false := decide_eq_false (by omega)
      have e2 : decide ((i : Int) ≥ (y.length : Int)) = false := decide_eq_false (by omega)
      have e3 : decide ((y.length : Int) ≤ (i : Int)) = false := decide_eq_false (by omega)
      have e4 : decide (y.length ≤ i) = false := decide_eq_false (by omega)
      have hne : ∀ W, (binOp BinOp.neq 26 (.agg #[.int .u32 p.1, .int .i64 p.2]) (.agg #[.int .u32 p.1, .int .i64 p.2])).run Try.prog W = .ok (.bool false) W := fun W => by have := neq_P p p W; simpa using this
      clear hil hyi
      refine q_region (fun W => TL w q x p g7 (g7 + 1) g9 bt bm L W) (by kernel_rfl) (by kernel_rfl) (HG.out.to (Below.refl _ _).drew) ?_
      repeat (first
        | go_big_quiet_skip
        | (go_big_quiet_want; first
          | (go_big_quiet_op; first
            | go_big_quiet_on
            | (apply Exists.intro; refine ⟨?_, ?_⟩; (· (intros; with_reducible rfl)); go_big_quiet_on)
            | (apply Exists.intro; refine ⟨?_, ?_⟩; (· (intro W hW; (refine (HIN.out W).mono ?_; rintro e w6 ⟨rfl, hb⟩; exact ⟨rfl, hW.to hb⟩))); go_big_quiet_on))
          | (refine q_op (v := ?_) ?_ ?_; rotate_left 1; (· (intro W hW; obtain ⟨t1, t2, t3, t4, t5, t6⟩ := HCL.out W hW; obtain ⟨t7, t8⟩ := HCE.out W hW; go_simp; (try with_reducible rfl))); (try simp only [Act.put, List.setIfInBounds_toArray, List.set_cons_zero, List.set_cons_succ]); go_big_quiet_on)
          | (refine q_call (v := ?_) (f := ?_) (args := ?_) ?_ ?_ ?_; rotate_left 3; (· (intro W hW; go_simp; (try with_reducible exact ⟨rfl, rfl⟩))); (· (intro W hW; (refine (HIN.out W).mono ?_; rintro e w6 ⟨rfl, hb⟩; exact ⟨rfl, hW.to hb⟩))); (try simp only [Act.put, List.setIfInBounds_toArray, List.set_cons_zero, List.set_cons_succ]); go_big_quiet_on)))
      refine wpQuiet_nil ?_
      intro w7 hW7
      have HG7 := Aside0.mk hW7
      clear hW7
      go_wp2
      go_meet
      exact ⟨rfl, HG7⟩
    | false =>
      refine q_region (fun W => TL w q x p g7 (g7 + 1) g9 bt bm L W) (by kernel_rfl) (by kernel_rfl) (HG.out.to (Below.refl _ _).drew) ?_
      repeat (first
        | go_big_quiet_skip
        | (go_big_quiet_want; first
          | (go_big_quiet_op; first
            | go_big_quiet_on
            | (apply Exists.intro; refine ⟨?_, ?_⟩; (· (intros; with_reducible rfl)); go_big_quiet_on)
            | (apply Exists.intro; refine ⟨?_, ?_⟩; (· (intro W hW; fail)); go_big_quiet_on))
          | (refine q_op (v := ?_) ?_ ?_; rotate_left 1; (· (intro W hW; obtain ⟨t1, t2, t3, t4, t5, t6⟩ := HCL.out W hW; go_simp; (try with_reducible rfl))); (try simp only [Act.put, List.setIfInBounds_toArray, List.set_cons_zero, List.set_cons_succ]); go_big_quiet_on)
          | (refine q_call (v := ?_) (f := ?_) (args := ?_) ?_ ?_ ?_; rotate_left 3; (· (intro W hW; go_simp; (try with_reducible exact ⟨rfl, rfl⟩))); (· (intro W hW; fail)); (try simp only [Act.put, List.setIfInBounds_toArray, List.set_cons_zero, List.set_cons_succ]); go_big_quiet_on)))
      refine wpQuiet_nil ?_
      intro w7 hW7
      have HG7 := Aside0.mk hW7
      clear hW7
      go_wp2
      go_meet
      exact ⟨rfl, HG7⟩
  case rest =>
    clear HG
    obtain ⟨rfl, HG⟩ := hcut
    go_upto_block 0 with fail
    go_cut [12] from 64 to 89 (fun s wx => Aside0 (TL w q x p g7 (g7 + 1) g9 bt bm L wx))
    case first =>
      have HG7 := HG
      clear HG
      go_wp2
      cases is with
      | true =>
        go_loopw [12] (fun i wr => ∃ k : Nat, k ≤ y.length ∧ i = .int .i64 k ∧ Aside0 (TL w q x p g7 (g7 + 1) g9 bt bm L wr)) (fun i _ => y.length - (intOf i).toNat)
        case atStart => exact ⟨0, Nat.zero_le _, rfl, HG7⟩
        case round =>
          clear HG7
          obtain ⟨k, hk, rfl, HG⟩ := hrel
          by_cases hlt : k < y.length
          · have cib : decide ((k : Int) < (y.length : Int)) = true := decide_eq_true (by omega)
            have cib2 : decide (k < y.length) = true := decide_eq_true hlt
            obtain ⟨ad, ea, _, _⟩ := at_P HR.out (k : Int) (by omega) (by omega)
            cases ea
            have e1 : rdP y (k : Int) = y[k] := by unfold rdP; rw [List.getD_eq_getElem?_getD, Int.toNat_natCast, List.getElem?_eq_getElem hlt]; rfl
            have e2 : y.getD k (0, 0) = y[k] := by rw [List.getD_eq_getElem?_getD, List.getElem?_eq_getElem hlt]; rfl
            have HP := Aside0.mk (FX.out.2 _ (List.getElem_mem hlt))
            have hli := HLW.out.2.1 k hlt
            rw [e2] at hli
            obtain ⟨r, hr⟩ : ∃ r, y[k] = r := ⟨_, rfl⟩
            rw [hr] at e1 HP hli
            have HCE := Aside0.mk (fun W (h : TL w q x p g7 (g7 + 1) g9 bt bm L W) => (show W.cell? (ad.add (k * 2)) = some (.int .u32 r.1) ∧ W.cell? ⟨(ad.add (k * 2)).block, (ad.add (k * 2)).off + 1, none⟩ = some (.int .i64 r.2) from by
              obtain ⟨ad2, e2, d0, d1⟩ := at_P (Kd.C_below HR.out h.below) (k : Int) (by omega) (by omega)
              cases e2
              rw [e1] at d0 d1
              exact ⟨d0, d1⟩))
            have HLI := Aside0.mk hli
            clear e1 e2 hr hli
            have hq1 : (0 : Int) ≤ (k : Int) := by omega
            have hq2 : (k : Int) < (y.length : Int) := by omega
            have hyl := FX.out.1
            by_cases hg : gX x r = true
            · have HIN := Aside0.mk (fun W => by have := refIn_calls HA.out HP.out W; rw [hg] at this; exact this)
              have e5 : decide (r.2 > p.2) = false := decide_eq_false (by have := (HLI.out hg).2; omega)
              have e6 : decide (p.2 < r.2) = false := decide_eq_false (by have := (HLI.out hg).2; omega)
              clear hg
              go_wp2
              refine q_region (fun W => TL w q x p g7 (g7 + 1) g9 bt bm L W) (by kernel_rfl) (by kernel_rfl) (HG.out.to (Below.refl _ _).drew) ?_
              repeat (first
                | go_big_quiet_skip
                | (go_big_quiet_want; first
                  | (go_big_quiet_op; first
                    | go_big_quiet_on
                    | (apply Exists.intro; refine ⟨?_, ?_⟩; (· (intros; with_reducible rfl)); go_big_quiet_on)
                    | (apply Exists.intro; refine ⟨?_, ?_⟩; (· (intro W hW; (refine (HIN.out W).mono ?_; rintro e w6 ⟨rfl, hb⟩; exact ⟨rfl, hW.to hb⟩))); go_big_quiet_on))
                  | (refine q_op (v := ?_) ?_ ?_; rotate_left 1; (· (intro W hW; obtain ⟨t1, t2, t3, t4, t5, t6⟩ := HCL.out W hW; obtain ⟨t7, t8⟩ := HCE.out W hW; go_simp; (try with_reducible rfl))); (try simp only [Act.put, List.setIfInBounds_toArray, List.set_cons_zero, List.set_cons_succ]); go_big_quiet_on)
                  | (refine q_call (v := ?_) (f := ?_) (args := ?_) ?_ ?_ ?_; rotate_left 3; (· (intro W hW; go_simp; (try with_reducible exact ⟨rfl, rfl⟩))); (· (intro W hW; (refine (HIN.out W).mono ?_; rintro e w6 ⟨rfl, hb⟩; exact ⟨rfl, hW.to hb⟩))); (try simp only [Act.put, List.setIfInBounds_toArray, List.set_cons_zero, List.set_cons_succ]); go_big_quiet_on)))
              refine wpQuiet_nil ?_
              intro w8 hW8
              have HG8 := Aside0.mk hW8
              clear hW8 HG HCE HIN
              go_wp2
              go_roundw
              case rel => exact ⟨k + 1, by omega, (by first | (simp; done) | go_num), HG8⟩
              case measure => simp [intOf]; omega
            · have HIN := Aside0.mk (fun W => by have := refIn_calls HA.out HP.out W; rw [show gX x r = false by simpa using hg] at this; exact this)
              clear hg
              go_wp2
              refine q_region (fun W => TL w q x p g7 (g7 + 1) g9 bt bm L W) (by kernel_rfl) (by kernel_rfl) (HG.out.to (Below.refl _ _).drew) ?_
              repeat (first
                | go_big_quiet_skip
                | (go_big_quiet_want; first
                  | (go_big_quiet_op; first
                    | go_big_quiet_on
                    | (apply Exists.intro; refine ⟨?_, ?_⟩; (· (intros; with_reducible rfl)); go_big_quiet_on)
                    | (apply Exists.intro; refine ⟨?_, ?_⟩; (· (intro W hW; (refine (HIN.out W).mono ?_; rintro e w6 ⟨rfl, hb⟩; exact ⟨rfl, hW.to hb⟩))); go_big_quiet_on))
                  | (refine q_op (v := ?_) ?_ ?_; rotate_left 1; (· (intro W hW; obtain ⟨t1, t2, t3, t4, t5, t6⟩ := HCL.out W hW; obtain ⟨t7, t8⟩ := HCE.out W hW; go_simp; (try with_reducible rfl))); (try simp only [Act.put, List.setIfInBounds_toArray, List.set_cons_zero, List.set_cons_succ]); go_big_quiet_on)
                  | (refine q_call (v := ?_) (f := ?_) (args := ?_) ?_ ?_ ?_; rotate_left 3; (· (intro W hW; go_simp; (try with_reducible exact ⟨rfl, rfl⟩))); (· (intro W hW; (refine (HIN.out W).mono ?_; rintro e w6 ⟨rfl, hb⟩; exact ⟨rfl, hW.to hb⟩))); (try simp only [Act.put, List.setIfInBounds_toArray, List.set_cons_zero, List.set_cons_succ]); go_big_quiet_on)))
              refine wpQuiet_nil ?_
              intro w8 hW8
              have HG8 := Aside0.mk hW8
              clear hW8 HG HCE HIN
              go_wp2
              go_roundw
              case rel => exact ⟨k + 1, by omega, (by first | (simp; done) | go_num), HG8⟩
              case measure => simp [intOf]; omega
          · obtain rfl : k = y.length := by omega
            have cib : decide ((y.length : Int) < (y.length : Int)) = false := decide_eq_false (by omega)
            have cib2 : decide (y.length < y.length) = false := decide_eq_false (by omega)
            go_wp2
            go_meet
            exact HG
      | false =>
        go_loopw [12] (fun i wr => ∃ k : Nat, k ≤ y.length ∧ i = .int .i64 k ∧ Aside0 (TL w q x p g7 (g7 + 1) g9 bt bm L wr)) (fun i _ => y.length - (intOf i).toNat)
        case atStart => exact ⟨0, Nat.zero_le _, rfl, HG7⟩
        case round =>
          clear HG7
          obtain ⟨k, hk, rfl, HG⟩ := hrel
          by_cases hlt : k < y.length
          · have cib : decide ((k : Int) < (y.length : Int)) = true := decide_eq_true (by omega)
            have cib2 : decide (k < y.length) = true := decide_eq_true hlt
            obtain ⟨ad, ea, _, _⟩ := at_P HR.out (k : Int) (by omega) (by omega)
            cases ea
            have e1 : rdP y (k : Int) = y[k] := by unfold rdP; rw [List.getD_eq_getElem?_getD, Int.toNat_natCast, List.getElem?_eq_getElem hlt]; rfl
            have e2 : y.getD k (0, 0) = y[k] := by rw [List.getD_eq_getElem?_getD, List.getElem?_eq_getElem hlt]; rfl
            have HP := Aside0.mk (FX.out.2 _ (List.getElem_mem hlt))
            have hli := HLW.out.2.1 k hlt
            rw [e2] at hli
            obtain ⟨r, hr⟩ : ∃ r, y[k] = r := ⟨_, rfl⟩
            rw [hr] at e1 HP hli
            have HCE := Aside0.mk (fun W (h : TL w q x p g7 (g7 + 1) g9 bt bm L W) => (show W.cell? (ad.add (k * 2)) = some (.int .u32 r.1) ∧ W.cell? ⟨(ad.add (k * 2)).block, (ad.add (k * 2)).off + 1, none⟩ = some (.int .i64 r.2) from by
              obtain ⟨ad2, e2, d0, d1⟩ := at_P (Kd.C_below HR.out h.below) (k : Int) (by omega) (by omega)
              cases e2
              rw [e1] at d0 d1
              exact ⟨d0, d1⟩))
            have HLI := Aside0.mk hli
            clear e1 e2 hr hli
            have hq1 : (0 : Int) ≤ (k : Int) := by omega
            have hq2 : (k : Int) < (y.length : Int) := by omega
            have hyl := FX.out.1
            by_cases hg : gX x r = true
            · have HIN := Aside0.mk (fun W => by have := refIn_calls HA.out HP.out W; rw [hg] at this; exact this)
              exact absurd (HLI.out hg).1 (by decide)
            · have HIN := Aside0.mk (fun W => by have := refIn_calls HA.out HP.out W; rw [show gX x r = false by simpa using hg] at this; exact this)
              clear hg
              go_wp2
              refine q_region (fun W => TL w q x p g7 (g7 + 1) g9 bt bm L W) (by kernel_rfl) (by kernel_rfl) (HG.out.to (Below.refl _ _).drew) ?_
              repeat (first
                | go_big_quiet_skip
                | (go_big_quiet_want; first
                  | (go_big_quiet_op; first
                    | go_big_quiet_on
                    | (apply Exists.intro; refine ⟨?_, ?_⟩; (· (intros; with_reducible rfl)); go_big_quiet_on)
                    | (apply Exists.intro; refine ⟨?_, ?_⟩; (· (intro W hW; (refine (HIN.out W).mono ?_; rintro e w6 ⟨rfl, hb⟩; exact ⟨rfl, hW.to hb⟩))); go_big_quiet_on))
                  | (refine q_op (v := ?_) ?_ ?_; rotate_left 1; (· (intro W hW; obtain ⟨t1, t2, t3, t4, t5, t6⟩ := HCL.out W hW; obtain ⟨t7, t8⟩ := HCE.out W hW; go_simp; (try with_reducible rfl))); (try simp only [Act.put, List.setIfInBounds_toArray, List.set_cons_zero, List.set_cons_succ]); go_big_quiet_on)
                  | (refine q_call (v := ?_) (f := ?_) (args := ?_) ?_ ?_ ?_; rotate_left 3; (· (intro W hW; go_simp; (try with_reducible exact ⟨rfl, rfl⟩))); (· (intro W hW; (refine (HIN.out W).mono ?_; rintro e w6 ⟨rfl, hb⟩; exact ⟨rfl, hW.to hb⟩))); (try simp only [Act.put, List.setIfInBounds_toArray, List.set_cons_zero, List.set_cons_succ]); go_big_quiet_on)))
              refine wpQuiet_nil ?_
              intro w8 hW8
              have HG8 := Aside0.mk hW8
              clear hW8 HG HCE HIN
              go_wp2
              go_roundw
              case rel => exact ⟨k + 1, by omega, (by first | (simp; done) | go_num), HG8⟩
              case measure => simp [intOf]; omega
          · obtain rfl : k = y.length := by omega
            have cib : decide ((y.length : Int) < (y.length : Int)) = false := decide_eq_false (by omega)
            have cib2 : decide (y.length < y.length) = false := decide_eq_false (by omega)
            go_wp2
            go_meet
            exact HG
    case rest =>
      clear HG
      have HG := hcut
      clear hcut
      have htn := TN.start HG.out (by have h1 := (Array.getElem?_eq_some_iff.1 HG.out.b7).1; have h2 := (Array.getElem?_eq_some_iff.1 HG.out.b8).1; have h3 := (Array.getElem?_eq_some_iff.1 HG.out.b9).1; exact ⟨h1, h2, h3⟩)
      have HLN := Aside0.mk (show L.length ≤ 200 from by have h1 := laidN_len y y.length; rw [HLL.out] at h1; have := FX.out.1; omega)
      obtain ⟨gn, hgn⟩ : ∃ g, wc.heap.size = g := ⟨_, rfl⟩
      rw [hgn] at htn
      have HTN := Aside0.mk htn
      have HS0 := Aside0.mk htn.size
      have g7c := htn.tl.cells.1
      clear HG htn HR
      go_wp2_with (first
        | (go_at_call 22; refine (All_calls _ bt bm L HTN.out.tl.tt (by have := HLN.out; omega)).mono ?_; rintro e w20 ⟨f, lp, rfl, hp, hit, hb⟩; have HG2 := Aside0.mk (HTN.out.to hb); have HPM := Aside0.mk hp; have HIT := Aside0.mk hit; have HB20 := Aside0.mk hb.size; clear hp hit hb HTN))
      clear hgn g7c
      have hrl : (rowsOf L (sortP lp)).length ≤ 1000000 := by
        have h1 := (sortP_perm lp).length_eq
        have h2 := HPM.out.length_eq
        have h3 := HLN.out
        unfold rowsOf
        rw [List.length_map] at h2 ⊢
        omega
      have HRW := Aside0.mk (show ∀ r ∈ rowsOf L (sortP lp), lkL L r.1 = some r.2 ∧ wfP r.1 from fun r hr => by
        have h1 := rows_at HPM.out hr
        exact ⟨h1, HG2.out.tl.tt.wf r.1 (lk_mem_iff.1 (by rw [h1]; rfl))⟩)
      have HRL := Aside0.mk hrl
      clear hrl
      refine range_box (b1 := 16) (v2 := 17) (fun k => k = gn ∨ k = gn + 1 ∨ k = gn + 1 + 1 ∨ k = w.heap.size + 1) (fun k hk => by have h1 := HS0.out; have h2 := HG2.out.ord; omega) HB20.out rfl HIT.out HRL.out
        (fun pre W => TN w q x p g7 (g7 + 1) g9 bt bm L gn (gn + 1) (gn + 1 + 1) (gn + 1 + 1 + 1) [] (cB (gX x) pre) (cB (gIn q) pre) (-1) W ∧ w20.heap.size ≤ W.heap.size) (fun _ _ _ => False)
        ((TN.own (Nat.le_trans HS0.out HB20.out) _ _ (fun _ => -1)).and (fun s W W' row hs hg hr => Nat.le_trans hs hg.size)) (fun _ _ _ _ _ h _ _ => h.elim) ⟨HG2.out, Nat.le_refl _⟩ (fun pre W h => h.2) (fun pre W W' h hb => ⟨h.1.to hb, Nat.le_trans h.2 hb.size⟩) ?_ ?_ ?_ (fun _ _ _ _ _ _ h _ => h.elim)
      · intro l x W Bx K hBx hK
        simp only [frameOf, List.setIfInBounds_toArray, List.set_cons_zero, List.set_cons_succ] at hK ⊢
        gi_wp2
        (try simp only [hBx])
        exact hK
      · intro l pre r hrm Bx W hI hBx hbx hlt
        obtain ⟨hT, hsz⟩ := hI
        obtain ⟨hat, hwf⟩ := HRW.out r hrm
        have hcx := cB_bound (gX x) pre
        have hci := cB_bound (gIn q) pre
        have hsx := cB_snoc (gX x) pre ⟨r, hrm⟩
        have hsi := cB_snoc (gIn q) pre ⟨r, hrm⟩
        have hpl : (pre.length : Int) ≤ 1000000 := by have := HRL.out; omega
        obtain ⟨n, hn⟩ : ∃ n, cB (gX x) pre = n := ⟨_, rfl⟩
        obtain ⟨i, hi⟩ : ∃ i, cB (gIn q) pre = i := ⟨_, rfl⟩
        rw [hn] at hT hcx hsx
        rw [hi] at hT hci hsi
        have HSN := Aside0.mk (show _ ∧ _ from ⟨hsx, hsi⟩)
        have hn0 : 0 ≤ n := hcx.1
        have hn1 : n ≤ 1000000 := by omega
        have hi0 : 0 ≤ i := hci.1
        have hi1 : i ≤ 1000000 := by omega
        have HSZ := Aside0.mk hsz
        have HT := Aside0.mk hT
        have HAT := Aside0.mk (show Calls Try.prog 23 #[.pointer (some ⟨bt, 0, none⟩), .agg #[.int .u32 r.1.1, .int .i64 r.1.2]] W fun e w' => e = .returned (.tuple #[.int .i64 r.2, .bool true]) ∧ Below W.heap.size W w' from by
          have := at_calls r.1 hwf W bt bm L hT.tl.tt
          rw [hat] at this
          exact this)
        have x0 : W.cell? ⟨Bx, 0, none⟩ = some (.int .u32 r.1.1) := by rw [blk_cell hbx]; rfl
        have x1 : W.cell? ⟨Bx, 1, none⟩ = some (.int .i64 r.1.2) := by rw [blk_cell hbx]; rfl
        obtain ⟨f1, f2, f3, f4, f5, f6, _, f8, f9, _, _⟩ := hT.facts
        have HX := Aside0.mk (show W.heap[Bx]? = some (.cells #[.int .u32 r.1.1, .int .i64 r.1.2] 26 (0, 0)) ∧ gn + 1 + 1 < Bx from ⟨hbx, by have := hT.ord; have := HS0.out; have := HB20.out; omega⟩)
        have HIN := Aside0.mk (fun W => refIn_calls (x := x) HA.out hwf W)
        have HWI := Aside0.mk (fun W => refWithin_calls (p := r.1) (q := q) hwf HQ.out W)
        clear hsx hsi hn hi hcx hci hpl hT hsz hat hwf hbx hBx
        simp only [frameOf, List.setIfInBounds_toArray, List.set_cons_zero, List.set_cons_succ]
        cases hgx : gX x r.1 with
        | true =>
          cases hgi : gIn q r.1 with
          | true =>
            rw [hgx, hgi] at HSN
            rw [hgx] at HIN
            rw [hgi] at HWI
            clear hgx hgi
            gi_wp2_with (first
              | (refine ⟨trivial, ?_⟩; gi_at_call 23; refine (CallsIn.inRound l (callsIn_wide.2 HAT.out)).mono ?_; rintro e W2 ⟨rfl, hb⟩; have HT2 := Aside0.mk (HT.out.to hb); have HX2 := Aside0.mk (show _ ∧ _ from ⟨blk_below HX.out.1 hb, HX.out.2⟩); have HB2 := Aside0.mk hb; obtain ⟨a1, a2, a3, a4, a5, a6, _, a8, a9, _, _⟩ := HT2.out.facts; have y0 := (by rw [blk_cell HX2.out.1]; rfl : W2.cell? ⟨Bx, 0, none⟩ = some (.int .u32 r.1.1)); have y1 := (by rw [blk_cell HX2.out.1]; rfl : W2.cell? ⟨Bx, 1, none⟩ = some (.int .i64 r.1.2)); clear f1 f2 f3 f4 f5 f6 f8 f9 x0 x1 hb HAT)
              | (refine ⟨trivial, ?_⟩; gi_at_call 16; refine (CallsIn.inRound l (callsIn_wide.2 (HIN.out _))).mono ?_; rintro e W3 ⟨rfl, hb⟩; have HT3 := Aside0.mk (HT2.out.to hb); have HX3 := Aside0.mk (show _ ∧ _ from ⟨blk_below HX2.out.1 hb, HX2.out.2⟩); have HB3 := Aside0.mk hb; obtain ⟨b1, b2, b3, b4, b5, b6, _, b8, b9, _, _⟩ := HT3.out.facts; have z0 := (by rw [blk_cell HX3.out.1]; rfl : W3.cell? ⟨Bx, 0, none⟩ = some (.int .u32 r.1.1)); have z1 := (by rw [blk_cell HX3.out.1]; rfl : W3.cell? ⟨Bx, 1, none⟩ = some (.int .i64 r.1.2)); clear a1 a2 a3 a4 a5 a6 a8 a9 y0 y1 hb HIN; have hx3 := (Below.heap_setCell _ ⟨gn, 0, none⟩ (.int .i64 (n + 1)) Bx (by have := HX3.out.2; show Bx ≠ gn; omega)).trans HX3.out.1; obtain ⟨d1, d2, d3, d4, d5, d6, _, d8, d9, _, _⟩ := (HT3.out.setN (n + 1)).facts; have v0 := (by rw [blk_cell hx3]; rfl : (W3.setCell ⟨gn, 0, none⟩ (.int .i64 (n + 1))).cell? ⟨Bx, 0, none⟩ = some (.int .u32 r.1.1)); have v1 := (by rw [blk_cell hx3]; rfl : (W3.setCell ⟨gn, 0, none⟩ (.int .i64 (n + 1))).cell? ⟨Bx, 1, none⟩ = some (.int .i64 r.1.2)); clear hx3)
              | (refine ⟨trivial, ?_⟩; gi_at_call 19; refine (CallsIn.inRound l (callsIn_wide.2 (HWI.out _))).mono ?_; rintro e W4 ⟨rfl, hb⟩; have HT4 := Aside0.mk ((HT3.out.setN (n + 1)).to hb); have HB4 := Aside0.mk hb; obtain ⟨_, _, _, _, _, c6, _, _, c9, _, _⟩ := HT4.out.facts; clear b1 b2 b3 b4 b5 b6 b8 b9 z0 z1 d1 d2 d3 d4 d5 d6 d8 d9 v0 v1 hb HWI))
            have e1 : cB (gX x) (pre ++ [⟨r, hrm⟩]) = n + 1 := by rw [HSN.out.1]; simp
            have e2 : cB (gIn q) (pre ++ [⟨r, hrm⟩]) = i + 1 := by rw [HSN.out.2]; simp
            have hbt : But (fun k => k = gn ∨ k = gn + 1 ∨ k = gn + 1 + 1 ∨ k = w.heap.size + 1) W (W4.setCell ⟨gn + 1, 0, none⟩ (.int .i64 (i + 1))) := But.setCell ((But.setCell ((But.of_below HB2.out).trans (But.of_below HB3.out)) (p := ⟨gn, 0, none⟩) (.inl rfl) (.int .i64 (n + 1))).trans (But.of_below HB4.out)) (p := ⟨gn + 1, 0, none⟩) (.inr (.inl rfl)) (.int .i64 (i + 1))
            refine BodyPost.normal hbt ⟨?_, Nat.le_trans HSZ.out hbt.size⟩
            rw [e1, e2]
            exact HT4.out.setI (i + 1)
          | false =>
            rw [hgx, hgi] at HSN
            rw [hgx] at HIN
            rw [hgi] at HWI
            clear hgx hgi
            gi_wp2_with (first
              | (refine ⟨trivial, ?_⟩; gi_at_call 23; refine (CallsIn.inRound l (callsIn_wide.2 HAT.out)).mono ?_; rintro e W2 ⟨rfl, hb⟩; have HT2 := Aside0.mk (HT.out.to hb); have HX2 := Aside0.mk (show _ ∧ _ from ⟨blk_below HX.out.1 hb, HX.out.2⟩); have HB2 := Aside0.mk hb; obtain ⟨a1, a2, a3, a4, a5, a6, _, a8, a9, _, _⟩ := HT2.out.facts; have y0 := (by rw [blk_cell HX2.out.1]; rfl : W2.cell? ⟨Bx, 0, none⟩ = some (.int .u32 r.1.1)); have y1 := (by rw [blk_cell HX2.out.1]; rfl : W2.cell? ⟨Bx, 1, none⟩ = some (.int .i64 r.1.2)); clear f1 f2 f3 f4 f5 f6 f8 f9 x0 x1 hb HAT)
              | (refine ⟨trivial, ?_⟩; gi_at_call 16; refine (CallsIn.inRound l (callsIn_wide.2 (HIN.out _))).mono ?_; rintro e W3 ⟨rfl, hb⟩; have HT3 := Aside0.mk (HT2.out.to hb); have HX3 := Aside0.mk (show _ ∧ _ from ⟨blk_below HX2.out.1 hb, HX2.out.2⟩); have HB3 := Aside0.mk hb; obtain ⟨b1, b2, b3, b4, b5, b6, _, b8, b9, _, _⟩ := HT3.out.facts; have z0 := (by rw [blk_cell HX3.out.1]; rfl : W3.cell? ⟨Bx, 0, none⟩ = some (.int .u32 r.1.1)); have z1 := (by rw [blk_cell HX3.out.1]; rfl : W3.cell? ⟨Bx, 1, none⟩ = some (.int .i64 r.1.2)); clear a1 a2 a3 a4 a5 a6 a8 a9 y0 y1 hb HIN; have hx3 := (Below.heap_setCell _ ⟨gn, 0, none⟩ (.int .i64 (n + 1)) Bx (by have := HX3.out.2; show Bx ≠ gn; omega)).trans HX3.out.1; obtain ⟨d1, d2, d3, d4, d5, d6, _, d8, d9, _, _⟩ := (HT3.out.setN (n + 1)).facts; have v0 := (by rw [blk_cell hx3]; rfl : (W3.setCell ⟨gn, 0, none⟩ (.int .i64 (n + 1))).cell? ⟨Bx, 0, none⟩ = some (.int .u32 r.1.1)); have v1 := (by rw [blk_cell hx3]; rfl : (W3.setCell ⟨gn, 0, none⟩ (.int .i64 (n + 1))).cell? ⟨Bx, 1, none⟩ = some (.int .i64 r.1.2)); clear hx3)
              | (refine ⟨trivial, ?_⟩; gi_at_call 19; refine (CallsIn.inRound l (callsIn_wide.2 (HWI.out _))).mono ?_; rintro e W4 ⟨rfl, hb⟩; have HT4 := Aside0.mk ((HT3.out.setN (n + 1)).to hb); have HB4 := Aside0.mk hb; obtain ⟨_, _, _, _, _, c6, _, _, c9, _, _⟩ := HT4.out.facts; clear b1 b2 b3 b4 b5 b6 b8 b9 z0 z1 d1 d2 d3 d4 d5 d6 d8 d9 v0 v1 hb HWI))
            have e1 : cB (gX x) (pre ++ [⟨r, hrm⟩]) = n + 1 := by rw [HSN.out.1]; simp
            have e2 : cB (gIn q) (pre ++ [⟨r, hrm⟩]) = i := by rw [HSN.out.2]; simp
            have hbt : But (fun k => k = gn ∨ k = gn + 1 ∨ k = gn + 1 + 1 ∨ k = w.heap.size + 1) W W4 := ((But.setCell ((But.of_below HB2.out).trans (But.of_below HB3.out)) (p := ⟨gn, 0, none⟩) (.inl rfl) (.int .i64 (n + 1))).trans (But.of_below HB4.out))
            refine BodyPost.normal hbt ⟨?_, Nat.le_trans HSZ.out hbt.size⟩
            rw [e1, e2]
            exact HT4.out
        | false =>
          cases hgi : gIn q r.1 with
          | true =>
            rw [hgx, hgi] at HSN
            rw [hgx] at HIN
            rw [hgi] at HWI
            clear hgx hgi
            gi_wp2_with (first
              | (refine ⟨trivial, ?_⟩; gi_at_call 23; refine (CallsIn.inRound l (callsIn_wide.2 HAT.out)).mono ?_; rintro e W2 ⟨rfl, hb⟩; have HT2 := Aside0.mk (HT.out.to hb); have HX2 := Aside0.mk (show _ ∧ _ from ⟨blk_below HX.out.1 hb, HX.out.2⟩); have HB2 := Aside0.mk hb; obtain ⟨a1, a2, a3, a4, a5, a6, _, a8, a9, _, _⟩ := HT2.out.facts; have y0 := (by rw [blk_cell HX2.out.1]; rfl : W2.cell? ⟨Bx, 0, none⟩ = some (.int .u32 r.1.1)); have y1 := (by rw [blk_cell HX2.out.1]; rfl : W2.cell? ⟨Bx, 1, none⟩ = some (.int .i64 r.1.2)); clear f1 f2 f3 f4 f5 f6 f8 f9 x0 x1 hb HAT)
              | (refine ⟨trivial, ?_⟩; gi_at_call 16; refine (CallsIn.inRound l (callsIn_wide.2 (HIN.out _))).mono ?_; rintro e W3 ⟨rfl, hb⟩; have HT3 := Aside0.mk (HT2.out.to hb); have HX3 := Aside0.mk (show _ ∧ _ from ⟨blk_below HX2.out.1 hb, HX2.out.2⟩); have HB3 := Aside0.mk hb; obtain ⟨b1, b2, b3, b4, b5, b6, _, b8, b9, _, _⟩ := HT3.out.facts; have z0 := (by rw [blk_cell HX3.out.1]; rfl : W3.cell? ⟨Bx, 0, none⟩ = some (.int .u32 r.1.1)); have z1 := (by rw [blk_cell HX3.out.1]; rfl : W3.cell? ⟨Bx, 1, none⟩ = some (.int .i64 r.1.2)); clear a1 a2 a3 a4 a5 a6 a8 a9 y0 y1 hb HIN)
              | (refine ⟨trivial, ?_⟩; gi_at_call 19; refine (CallsIn.inRound l (callsIn_wide.2 (HWI.out _))).mono ?_; rintro e W4 ⟨rfl, hb⟩; have HT4 := Aside0.mk (HT3.out.to hb); have HB4 := Aside0.mk hb; obtain ⟨_, _, _, _, _, c6, _, _, c9, _, _⟩ := HT4.out.facts; clear b1 b2 b3 b4 b5 b6 b8 b9 z0 z1 hb HWI))
            have e1 : cB (gX x) (pre ++ [⟨r, hrm⟩]) = n := by rw [HSN.out.1]; simp
            have e2 : cB (gIn q) (pre ++ [⟨r, hrm⟩]) = i + 1 := by rw [HSN.out.2]; simp
            have hbt : But (fun k => k = gn ∨ k = gn + 1 ∨ k = gn + 1 + 1 ∨ k = w.heap.size + 1) W (W4.setCell ⟨gn + 1, 0, none⟩ (.int .i64 (i + 1))) := But.setCell ((((But.of_below HB2.out).trans (But.of_below HB3.out))).trans (But.of_below HB4.out)) (p := ⟨gn + 1, 0, none⟩) (.inr (.inl rfl)) (.int .i64 (i + 1))
            refine BodyPost.normal hbt ⟨?_, Nat.le_trans HSZ.out hbt.size⟩
            rw [e1, e2]
            exact HT4.out.setI (i + 1)
          | false =>
            rw [hgx, hgi] at HSN
            rw [hgx] at HIN
            rw [hgi] at HWI
            clear hgx hgi
            gi_wp2_with (first
              | (refine ⟨trivial, ?_⟩; gi_at_call 23; refine (CallsIn.inRound l (callsIn_wide.2 HAT.out)).mono ?_; rintro e W2 ⟨rfl, hb⟩; have HT2 := Aside0.mk (HT.out.to hb); have HX2 := Aside0.mk (show _ ∧ _ from ⟨blk_below HX.out.1 hb, HX.out.2⟩); have HB2 := Aside0.mk hb; obtain ⟨a1, a2, a3, a4, a5, a6, _, a8, a9, _, _⟩ := HT2.out.facts; have y0 := (by rw [blk_cell HX2.out.1]; rfl : W2.cell? ⟨Bx, 0, none⟩ = some (.int .u32 r.1.1)); have y1 := (by rw [blk_cell HX2.out.1]; rfl : W2.cell? ⟨Bx, 1, none⟩ = some (.int .i64 r.1.2)); clear f1 f2 f3 f4 f5 f6 f8 f9 x0 x1 hb HAT)
              | (refine ⟨trivial, ?_⟩; gi_at_call 16; refine (CallsIn.inRound l (callsIn_wide.2 (HIN.out _))).mono ?_; rintro e W3 ⟨rfl, hb⟩; have HT3 := Aside0.mk (HT2.out.to hb); have HX3 := Aside0.mk (show _ ∧ _ from ⟨blk_below HX2.out.1 hb, HX2.out.2⟩); have HB3 := Aside0.mk hb; obtain ⟨b1, b2, b3, b4, b5, b6, _, b8, b9, _, _⟩ := HT3.out.facts; have z0 := (by rw [blk_cell HX3.out.1]; rfl : W3.cell? ⟨Bx, 0, none⟩ = some (.int .u32 r.1.1)); have z1 := (by rw [blk_cell HX3.out.1]; rfl : W3.cell? ⟨Bx, 1, none⟩ = some (.int .i64 r.1.2)); clear a1 a2 a3 a4 a5 a6 a8 a9 y0 y1 hb HIN)
              | (refine ⟨trivial, ?_⟩; gi_at_call 19; refine (CallsIn.inRound l (callsIn_wide.2 (HWI.out _))).mono ?_; rintro e W4 ⟨rfl, hb⟩; have HT4 := Aside0.mk (HT3.out.to hb); have HB4 := Aside0.mk hb; obtain ⟨_, _, _, _, _, c6, _, _, c9, _, _⟩ := HT4.out.facts; clear b1 b2 b3 b4 b5 b6 b8 b9 z0 z1 hb HWI))
            have e1 : cB (gX x) (pre ++ [⟨r, hrm⟩]) = n := by rw [HSN.out.1]; simp
            have e2 : cB (gIn q) (pre ++ [⟨r, hrm⟩]) = i := by rw [HSN.out.2]; simp
            have hbt : But (fun k => k = gn ∨ k = gn + 1 ∨ k = gn + 1 + 1 ∨ k = w.heap.size + 1) W W4 := ((((But.of_below HB2.out).trans (But.of_below HB3.out))).trans (But.of_below HB4.out))
            refine BodyPost.normal hbt ⟨?_, Nat.le_trans HSZ.out hbt.size⟩
            rw [e1, e2]
            exact HT4.out
      · intro D xs W hD hxs hI hK
        have HT := Aside0.mk (hI.1.mark (Nat.le_trans (Nat.le_trans HS0.out HB20.out) hD) hK)
        have HC1 := Aside0.mk (show cB (gX x) xs = ((overL L x 33).length : Int) ∧ cB (gIn q) xs = (((rowsOf L (sortP lp)).filter (fun r => gIn q r.1)).length : Int) from by
          refine ⟨?_, cB_all _ hxs⟩
          rw [cB_all _ hxs, countX HA.out (fun p v h => by rw [← HLL.out] at h; obtain ⟨_, _, _, _, h4⟩ := laidN_some y _ p v h; exact h4) (HG2.out.tl.tt.map.nodup keyP) HG2.out.tl.tt.wf HPM.out])
        obtain ⟨n1, hn1⟩ : ∃ n, cB (gX x) xs = n := ⟨_, rfl⟩
        obtain ⟨i1, hi1⟩ : ∃ i, cB (gIn q) xs = i := ⟨_, rfl⟩
        rw [hn1, hi1] at HC1
        rw [hn1, hi1] at HT
        clear hn1 hi1 hxs hI hK HIT HRW HRL
        obtain ⟨f1, f2, f3, f4, f5, f6, f7, f8, f9, f10, f11⟩ := HT.out.facts
        have HD1 := Aside0.mk (show gn + 1 + 1 + 1 ≤ D from Nat.le_trans (Nat.le_trans HS0.out HB20.out) hD)
        clear HG2 HS0 HB20 hD
        have HS1 := Aside0.mk HT.out.size
        go_wp2_with (first
          | (go_at_call 24; refine (Over_calls x HA.out _ bt bm L HT.out.tl.tt).mono ?_; rintro e w21 ⟨f', rfl, hit, hb⟩; have HG3 := Aside0.mk (HT.out.to hb); have HIT := Aside0.mk hit; have HB21 := Aside0.mk hb.size; clear hit hb HT f1 f2 f3 f4 f5 f6 f7 f8 f9 f10 f11))
        have hrl : (rowsOf L (overL L x 33)).length ≤ 1000000 := by
          have h1 := overL_len L x 33
          unfold rowsOf
          rw [List.length_map]
          omega
        have HRW := Aside0.mk (show ∀ r ∈ rowsOf L (overL L x 33), gX x r.1 = true ∧ wfP r.1 ∧ 0 ≤ r.1.2 ∧ r.1.2 ≤ 32 from fun r hr => by
          unfold rowsOf at hr
          obtain ⟨p', hp', rfl⟩ := List.mem_map.1 hr
          have h1 := overL_in HA.out (fun p v h => by rw [← HLL.out] at h; obtain ⟨_, _, _, _, h4⟩ := laidN_some y _ p v h; exact h4) hp'
          exact ⟨h1, (overL_wf HA.out hp').1, chk_bits (gX_chk h1)⟩)
        have HRL := Aside0.mk hrl
        clear hrl
        refine range_box (b1 := 20) (v2 := 121) (fun k => k = gn ∨ k = gn + 1 ∨ k = gn + 1 + 1 ∨ k = w.heap.size + 1) (fun k hk => by have h1 := HS1.out; have h2 := HG3.out.ord; have h3 := HD1.out; omega) HB21.out rfl HIT.out HRL.out
          (fun pre W => TN w q x p g7 (g7 + 1) g9 bt bm L gn (gn + 1) (gn + 1 + 1) (D + 1) [D] (n1 - (pre.length : Int)) i1 (lastB (psOf pre)) W ∧ w21.heap.size ≤ W.heap.size ∧ (pre.length : Int) ≤ 1000000) (fun _ pre _ => ¬ (psOf pre).Sublist (overL L x 33))
          ((TN.own (Nat.le_trans HS1.out HB21.out) _ (fun _ => i1) _).and (fun s W W' row hs hg hr => ⟨Nat.le_trans hs.1 hg.size, hs.2⟩)) (fun _ _ _ _ _ h _ _ => h) ⟨by simpa [lastB, psOf] using HG3.out, Nat.le_refl _, by simp⟩ (fun pre W h => h.2.1) (fun pre W W' h hb => ⟨h.1.to hb, Nat.le_trans h.2.1 hb.size, h.2.2⟩) ?_ ?_ ?_ (fun _ _ _ _ _ h1 h2 _ => absurd (psOf_pre h1) h2)
        · intro l x W Bx K hBx hK
          simp only [frameOf, List.setIfInBounds_toArray, List.set_cons_zero, List.set_cons_succ] at hK ⊢
          gi_wp2
          (try simp only [hBx])
          exact hK
        · intro l pre r hrm Bx W hI hBx hbx hlt
          obtain ⟨hT, hsz, hpl⟩ := hI
          obtain ⟨hgx, hwf, hb0, hb1⟩ := HRW.out r hrm
          have HLT := Aside0.mk (show pre.length < (rowsOf L (overL L x 33)).length from hlt)
          have HPRE := Aside0.mk (show (psOf (pre ++ [(⟨r, hrm⟩ : Sub (rowsOf L (overL L x 33)))])).Sublist (overL L x 33) → lastB (psOf pre) < r.1.2 from fun hpre => by
            have h2 := (overL_sorted L x 33).sublist hpre
            rw [psOf_snoc] at h2
            exact lastB_lt h2 hb0)
          have HLB := Aside0.mk (show lastB (psOf (pre ++ [(⟨r, hrm⟩ : Sub (rowsOf L (overL L x 33)))])) = r.1.2 from by rw [psOf_snoc]; exact lastB_snoc _ _)
          obtain ⟨lb, hlb⟩ : ∃ lb, lastB (psOf pre) = lb := ⟨_, rfl⟩
          obtain ⟨n, hn⟩ : ∃ n, n1 - (pre.length : Int) = n := ⟨_, rfl⟩
          rw [hlb] at HPRE hT
          rw [hn] at hT
          have HN := Aside0.mk hn
          have hn0 : -1000000 ≤ n ∧ n ≤ 1000000 := by
            have h1 := overL_len L x 33
            have h2 := HC1.out.1
            omega
          have hn2 := hn0.1
          have hn3 := hn0.2
          have HSZ := Aside0.mk (show _ ∧ _ from ⟨hsz, hpl⟩)
          have HT := Aside0.mk hT
          have x0 : W.cell? ⟨Bx, 0, none⟩ = some (.int .u32 r.1.1) := by rw [blk_cell hbx]; rfl
          have x1 : W.cell? ⟨Bx, 1, none⟩ = some (.int .i64 r.1.2) := by rw [blk_cell hbx]; rfl
          obtain ⟨f1, f2, f3, f4, f5, f6, f7, f8, f9, f10, _⟩ := hT.facts
          have HX := Aside0.mk (show W.heap[Bx]? = some (.cells #[.int .u32 r.1.1, .int .i64 r.1.2] 26 (0, 0)) ∧ gn + 1 + 1 < Bx from ⟨hbx, by have := hT.ord; have := HS1.out; have := HB21.out; omega⟩)
          have HIN := Aside0.mk (fun W => by have := refIn_calls (x := x) HA.out hwf W; rw [hgx] at this; exact this)
          clear hlb hn hn0 hgx hwf hT hsz hbx hBx hlt hb0 hb1 hpl
          simp only [frameOf, List.setIfInBounds_toArray, List.set_cons_zero, List.set_cons_succ]
          by_cases hle : r.1.2 ≤ lb
          · have hle1 : decide (r.1.2 ≤ lb) = true := decide_eq_true hle
            have HNP := Aside0.mk (show ¬ (psOf (pre ++ [(⟨r, hrm⟩ : Sub (rowsOf L (overL L x 33)))])).Sublist (overL L x 33) from fun h => by have := HPRE.out h; omega)
            clear hle HPRE
            gi_wp2_with (first
              | (refine ⟨trivial, ?_⟩; gi_at_call 16; refine (CallsIn.inRound l (callsIn_wide.2 (HIN.out _))).mono ?_; rintro e W3 ⟨rfl, hb⟩; have HT3 := Aside0.mk (HT.out.to hb); have HX3 := Aside0.mk (show _ ∧ _ from ⟨blk_below HX.out.1 hb, HX.out.2⟩); have HB3 := Aside0.mk hb; obtain ⟨b1, b2, b3, b4, b5, b6, b7, b8, b9, b10, _⟩ := HT3.out.facts; have br7 := blk_frozen HT3.out.tl.br 0; have br6 := blk_cell HT3.out.tl.br 0; have z0 := (by rw [blk_cell HX3.out.1]; rfl : W3.cell? ⟨Bx, 0, none⟩ = some (.int .u32 r.1.1)); have z1 := (by rw [blk_cell HX3.out.1]; rfl : W3.cell? ⟨Bx, 1, none⟩ = some (.int .i64 r.1.2)); clear f1 f2 f3 f4 f5 f6 f7 f8 f9 f10 x0 x1 hb HIN))
            exact BodyPost.ret (But.setCell (p := ⟨w.heap.size + 1, 0, none⟩) (But.of_below HB3.out) (.inr (.inr (.inr rfl))) _) HNP.out
          · have hle1 : decide (r.1.2 ≤ lb) = false := decide_eq_false hle
            clear hle HPRE
            gi_wp2_with (first
              | (refine ⟨trivial, ?_⟩; gi_at_call 16; refine (CallsIn.inRound l (callsIn_wide.2 (HIN.out _))).mono ?_; rintro e W3 ⟨rfl, hb⟩; have HT3 := Aside0.mk (HT.out.to hb); have HX3 := Aside0.mk (show _ ∧ _ from ⟨blk_below HX.out.1 hb, HX.out.2⟩); have HB3 := Aside0.mk hb; obtain ⟨b1, b2, b3, b4, b5, b6, b7, b8, b9, b10, _⟩ := HT3.out.facts; obtain ⟨_, _, _, _, d5, d6, d7, d8, d9, d10, _⟩ := (HT3.out.setL r.1.2).facts; have z0 := (by rw [blk_cell HX3.out.1]; rfl : W3.cell? ⟨Bx, 0, none⟩ = some (.int .u32 r.1.1)); have z1 := (by rw [blk_cell HX3.out.1]; rfl : W3.cell? ⟨Bx, 1, none⟩ = some (.int .i64 r.1.2)); clear f1 f2 f3 f4 f5 f6 f7 f8 f9 f10 x0 x1 hb HIN))
            have hbt : But (fun k => k = gn ∨ k = gn + 1 ∨ k = gn + 1 + 1 ∨ k = w.heap.size + 1) W ((W3.setCell ⟨gn + 1 + 1, 0, none⟩ (.int .i64 r.1.2)).setCell ⟨gn, 0, none⟩ (.int .i64 (n - 1))) := But.setCell (p := ⟨gn, 0, none⟩) (But.setCell (p := ⟨gn + 1 + 1, 0, none⟩) (But.of_below HB3.out) (.inr (.inr (.inl rfl))) _) (.inl rfl) _
            refine BodyPost.normal hbt ⟨?_, Nat.le_trans HSZ.out.1 hbt.size, ?_⟩
            · rw [HLB.out, show n1 - ((pre ++ [(⟨r, hrm⟩ : Sub (rowsOf L (overL L x 33)))]).length : Int) = n - 1 from by rw [← HN.out]; simp; omega]
              exact (HT3.out.setL r.1.2).setN (n - 1)
            · have h1 := HLT.out
              have h2 := HRL.out
              simp
              omega
        · intro D2 xs W hD hxs hI hK
          have hlen : xs.length = (overL L x 33).length := (all_len hxs).trans (rowsOf_length _ _)
          have hlb : lastB (psOf xs) = (if is = true then p.2 else -1) := by
            have h2 := HLW.out.2.2.1
            rw [HLL.out] at h2
            rw [psOf_all hxs, h2]
          have ht := hI.1.mark (Nat.le_trans (Nat.le_trans HS1.out HB21.out) hD) hK
          rw [hlb, show n1 - (xs.length : Int) = 0 from by rw [hlen, HC1.out.1]; omega] at ht
          obtain ⟨lb, hlb2⟩ : ∃ lb, (if is = true then p.2 else -1) = lb := ⟨_, rfl⟩
          rw [hlb2] at ht
          have HLB := Aside0.mk hlb2
          have HT := Aside0.mk ht
          have HCI := Aside0.mk HC1.out.2
          have HD2 := Aside0.mk (show D + 1 ≤ D2 from Nat.le_trans (Nat.le_trans HS1.out HB21.out) hD)
          clear hlen hlb hlb2 ht hxs hI hK HIT HRW HRL HC1 HG3 HS1 HB21 hD
          obtain ⟨f1, f2, f3, f4, f5, f6, f7, f8, f9, f10, f11⟩ := HT.out.facts
          have HS2 := Aside0.mk HT.out.size
          go_wp2_with (first
            | (go_at_call 25; refine (Within_calls q HQ.out _ bt bm L HT.out.tl.tt (by have := HLN.out; omega)).mono ?_; rintro e w22 ⟨f', lq, rfl, hp, hit, hb⟩; have HG4 := Aside0.mk (HT.out.to hb); have HPQ := Aside0.mk hp; have HIT := Aside0.mk hit; have HB22 := Aside0.mk hb.size; clear hp hit hb HT f1 f2 f3 f4 f5 f6 f7 f8 f9 f10 f11))
          have hrl : (rowsOf L (sortP lq)).length ≤ 1000000 := by
            have h1 := (sortP_perm lq).length_eq
            have h2 := HPQ.out.length_eq
            have h3 := List.length_filter_le (gIn q) (L.map Prod.fst)
            have h4 := HLN.out
            rw [rowsOf_length]
            rw [List.length_map] at h3
            omega
          have HRW := Aside0.mk (show ∀ r ∈ rowsOf L (sortP lq), gIn q r.1 = true ∧ wfP r.1 from fun r hr => by
            unfold rowsOf at hr
            obtain ⟨p', hp', rfl⟩ := List.mem_map.1 hr
            have h1 := List.mem_filter.1 (HPQ.out.mem_iff.1 (sortP_mem hp'))
            exact ⟨h1.2, HG4.out.tl.tt.wf _ h1.1⟩)
          have HRL := Aside0.mk hrl
          clear hrl
          refine range_box (b1 := 21) (v2 := 140) (fun k => k = gn ∨ k = gn + 1 ∨ k = gn + 1 + 1 ∨ k = w.heap.size + 1) (fun k hk => by have h1 := HS2.out; have h2 := HG4.out.ord; have h3 := HD2.out; have h4 := HD1.out; omega) HB22.out rfl HIT.out HRL.out
            (fun pre W => TN w q x p g7 (g7 + 1) g9 bt bm L gn (gn + 1) (gn + 1 + 1) (D2 + 1) [D2, D] 0 (i1 - (pre.length : Int)) lb W ∧ w22.heap.size ≤ W.heap.size ∧ (pre.length : Int) ≤ 1000000) (fun _ _ _ => False)
            ((TN.own (Nat.le_trans HS2.out HB22.out) (fun _ => 0) _ (fun _ => lb)).and (fun s W W' row hs hg hr => ⟨Nat.le_trans hs.1 hg.size, hs.2⟩)) (fun _ _ _ _ _ h _ _ => h.elim) ⟨by simpa using HG4.out, Nat.le_refl _, by simp⟩ (fun pre W h => h.2.1) (fun pre W W' h hb => ⟨h.1.to hb, Nat.le_trans h.2.1 hb.size, h.2.2⟩) ?_ ?_ ?_ (fun _ _ _ _ _ _ h _ => h.elim)
          · intro l x W Bx K hBx hK
            simp only [frameOf, List.setIfInBounds_toArray, List.set_cons_zero, List.set_cons_succ] at hK ⊢
            gi_wp2
            (try simp only [hBx])
            exact hK
          · intro l pre r hrm Bx W hI hBx hbx hlt
            obtain ⟨hT, hsz, hpl⟩ := hI
            obtain ⟨hgi, hwf⟩ := HRW.out r hrm
            have HLT := Aside0.mk (show pre.length < (rowsOf L (sortP lq)).length from hlt)
            obtain ⟨i, hi⟩ : ∃ i, i1 - (pre.length : Int) = i := ⟨_, rfl⟩
            rw [hi] at hT
            have HN := Aside0.mk hi
            have hi0 : -1000000 ≤ i ∧ i ≤ 1000000 := by
              have h2 := HCI.out
              have h3 := List.length_filter_le (fun r : Row => gIn q r.1) (rowsOf L (sortP lp))
              have h4 := (sortP_perm lp).length_eq
              have h5 := HPM.out.length_eq
              have h6 := HLN.out
              rw [rowsOf_length] at h3
              rw [List.length_map] at h5
              omega
            have hi2 := hi0.1
            have hi3 := hi0.2
            have HSZ := Aside0.mk (show _ ∧ _ from ⟨hsz, hpl⟩)
            have HT := Aside0.mk hT
            have x0 : W.cell? ⟨Bx, 0, none⟩ = some (.int .u32 r.1.1) := by rw [blk_cell hbx]; rfl
            have x1 : W.cell? ⟨Bx, 1, none⟩ = some (.int .i64 r.1.2) := by rw [blk_cell hbx]; rfl
            obtain ⟨f1, f2, f3, f4, f5, f6, f7, f8, f9, f10, _⟩ := hT.facts
            have HWI := Aside0.mk (fun W => by have := refWithin_calls (p := r.1) (q := q) hwf HQ.out W; rw [hgi] at this; exact this)
            clear hi hi0 hgi hwf hT hsz hbx hBx hlt hpl
            simp only [frameOf, List.setIfInBounds_toArray, List.set_cons_zero, List.set_cons_succ]
            gi_wp2_with (first
              | (refine ⟨trivial, ?_⟩; gi_at_call 19; refine (CallsIn.inRound l (callsIn_wide.2 (HWI.out _))).mono ?_; rintro e W3 ⟨rfl, hb⟩; have HT3 := Aside0.mk (HT.out.to hb); have HB3 := Aside0.mk hb; obtain ⟨b1, b2, b3, b4, b5, b6, b7, b8, b9, b10, _⟩ := HT3.out.facts; clear f1 f2 f3 f4 f5 f6 f7 f8 f9 f10 x0 x1 hb HWI))
            have hbt : But (fun k => k = gn ∨ k = gn + 1 ∨ k = gn + 1 + 1 ∨ k = w.heap.size + 1) W (W3.setCell ⟨gn + 1, 0, none⟩ (.int .i64 (i - 1))) := But.setCell (p := ⟨gn + 1, 0, none⟩) (But.of_below HB3.out) (.inr (.inl rfl)) _
            refine BodyPost.normal hbt ⟨?_, Nat.le_trans HSZ.out.1 hbt.size, ?_⟩
            · rw [show i1 - ((pre ++ [(⟨r, hrm⟩ : Sub (rowsOf L (sortP lq)))]).length : Int) = i - 1 from by rw [← HN.out]; simp; omega]
              exact HT3.out.setI (i - 1)
            · have h1 := HLT.out
              have h2 := HRL.out
              simp
              omega
          · intro D3 xs W hD hxs hI hK
            have hlen : xs.length = (rowsOf L (sortP lq)).length := all_len hxs
            have ht := hI.1.mark (Nat.le_trans (Nat.le_trans HS2.out HB22.out) hD) hK
            rw [show i1 - (xs.length : Int) = 0 from by rw [hlen, HCI.out, countI HPM.out HPQ.out]; omega] at ht
            have HT := Aside0.mk ht
            clear hlen ht hxs hI hK HIT HRW HRL HG4 HS2 HB22 hD
            obtain ⟨f1, f2, f3, f4, f5, f6, f7, f8, f9, f10, f11⟩ := HT.out.facts
            have br6 := blk_cell HT.out.tl.br 0
            have br7 := blk_frozen HT.out.tl.br 0
            cases is with
            | true =>
              rw [show lb = p.2 from by rw [← HLB.out]; simp] at f7
              go_wp2
              refine leaves_taken [D3, D2, D] _ HT.out.nd (fun D' hD' => (Below.heap_setCell _ _ _ _ (by have h1 := (HT.out.ds D' hD').1; have h2 := HT.out.ord; show D' ≠ w.heap.size + 1; omega)).trans (HT.out.ds D' hD').2.2) ?_
              intro W' hb
              have hds : ∀ k, k ∈ [D3, D2, D] → gn + 1 + 1 < k := fun k hk => (HT.out.ds k hk).1
              have ho := HT.out.ord
              have hb2 := blk_put HT.out.tl.br 0 (.bool true) rfl
              have hsz := (Array.getElem?_eq_some_iff.1 hb2).1
              have hb3 := (hb.block _ hsz (fun h => by have := hds _ h; omega)).trans hb2
              have hc : W'.cell? ⟨w.heap.size + 1, 0, none⟩ = some (.bool true) := by rw [blk_cell hb3]; rfl
              refine ⟨.bool true, ?_, rfl, ?_⟩
              · simp [results, Try.f5, go_sem, hc]
              · exact (HT.out.tl.below.setCell (p := ⟨w.heap.size + 1, 0, none⟩) (by simp) _).trans (hb.below (by have := HT.out.tl.below.size; simp [World.setCell]; omega) (fun k hk => by have := hds k hk; omega))
            | false =>
              rw [show lb = -1 from by rw [← HLB.out]; simp] at f7
              go_wp2
              refine leaves_taken [D3, D2, D] _ HT.out.nd (fun D' hD' => (Below.heap_setCell _ _ _ _ (by have h1 := (HT.out.ds D' hD').1; have h2 := HT.out.ord; show D' ≠ w.heap.size + 1; omega)).trans (HT.out.ds D' hD').2.2) ?_
              intro W' hb
              have hds : ∀ k, k ∈ [D3, D2, D] → gn + 1 + 1 < k := fun k hk => (HT.out.ds k hk).1
              have ho := HT.out.ord
              have hb2 := blk_put HT.out.tl.br 0 (.bool true) rfl
              have hsz := (Array.getElem?_eq_some_iff.1 hb2).1
              have hb3 := (hb.block _ hsz (fun h => by have := hds _ h; omega)).trans hb2
              have hc : W'.cell? ⟨w.heap.size + 1, 0, none⟩ = some (.bool true) := by rw [blk_cell hb3]; rfl
              refine ⟨.bool true, ?_, rfl, ?_⟩
              · simp [results, Try.f5, go_sem, hc]
              · exact (HT.out.tl.below.setCell (p := ⟨w.heap.size + 1, 0, none⟩) (by simp) _).trans (hb.below (by have := HT.out.tl.below.size; simp [World.setCell]; omega) (fun k hk => by have := hds k hk; omega))
end Go.Proofs.Ytaplkfnolimdmaa.Table
