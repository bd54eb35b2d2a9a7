/- What TrieCovered's own function does: awake answers true, and both loops find nothing wrong. -/
import Derived.Test.YtaplkfnolimdmaaCoveredPure
import Derived.Test.YtaplkfnolimdmaaTabAwake
import Derived.Deep.RegionHeld3
import Derived.BigQuiet
namespace Go.Proofs.Ytaplkfnolimdmaa.PC.Leaf
open Go.Proofs.YtaplkfnolimdmaaW.Bits Go.RowKit Go.Proofs.Ytaplkfnolimdmaa.PC Go.Proofs.YtaplkfnolimdmaaW.PrintWords Go.Proofs.YtaplkfnolimdmaaW.PrintLast Go.Proofs.YtaplkfnolimdmaaW.PrintMore Go.Proofs.Ytaplkfnolimdmaa.PC.Cov
attribute [local go_sem] max2_int min2_int max_two min_two max_three min_three max_four min_four
set_option linter.unusedVariables false
set_option linter.unusedSimpArgs false

/-! A region that draws its order, whose operations read and whose calls keep a class of worlds: one walk in the text's order. -/
section
variable {P : Program} {ops : Array Oper} {K : World → Prop} {R : Act → Prop} {a : Act} {o : Oper} {rest : List Oper}
theorem q_region {id : Nat} {T : Exit → Act → World → Prop} {w : World} {l : List Oper} (K : World → Prop) (hm : P.follows .mixedOrders = true) (hB : Region.lexB .any l.toArray = true) (hK : K { w with drawn := w.drawn + 1 })
    (h : wpQuiet P l.toArray K (fun a' => ∀ w', K w' → T .normal a' w') l a) : (Code.region id l.toArray true).wp P T a w := wp_region_quiet hm hB hK (by simpa using h)
theorem q_op {v : Value} {N : Act → Prop} (h : ∀ W, K W → (execOp a.eval o).run P W = .ok (.value v) W) (hr : N (a.put o.dst v)) : o.quiet P a K N :=
  ⟨v, fun W hW => by unfold Oper.quietAt; rw [h W hW]; exact ⟨rfl, rfl⟩, hr⟩
theorem q_call {v : Value} {N : Act → Prop} {f : FuncId} {args : Array Value} (h : ∀ W, K W → (execOp a.eval o).run P W = .ok (.enter f args) W) (hc : ∀ W, K W → Calls P f args W fun e w' => e = .returned v ∧ K w') (hr : N (a.put o.dst v)) : o.quiet P a K N :=
  ⟨v, fun W hW => by unfold Oper.quietAt; rw [h W hW]; exact ⟨rfl, hc W hW⟩, hr⟩
end

theorem take_good (x : Int) (y : List S26) (i : Nat) (hi : i < y.length) : (∃ p ∈ y.take (i + 1), good x p = true) ↔ (∃ p ∈ y.take i, good x p = true) ∨ good x (rd_T26 y i) = true := by
  have e : rd_T26 y i = y[i] := by unfold rd_T26; rw [List.getD_eq_getElem?_getD, Int.toNat_natCast, List.getElem?_eq_getElem hi]; rfl
  rw [List.take_succ_eq_append_getElem hi, e]
  constructor
  · rintro ⟨p, hp, hg⟩
    rcases List.mem_append.1 hp with h | h
    · exact .inl ⟨p, h, hg⟩
    · obtain rfl : p = y[i] := by simpa using h
      exact .inr hg
  · rintro (⟨p, hp, hg⟩ | hg)
    · exact ⟨p, List.mem_append_left _ hp, hg⟩
    · exact ⟨y[i], List.mem_append_right _ (List.mem_singleton.2 rfl), hg⟩
theorem take_count (x : Int) (y : List S26) (i : Nat) (hi : i < y.length) : ((y.take (i + 1)).filter (good x)).length = ((y.take i).filter (good x)).length + (if good x (rd_T26 y i) = true then 1 else 0) := by
  have e : rd_T26 y i = y[i] := by unfold rd_T26; rw [List.getD_eq_getElem?_getD, Int.toNat_natCast, List.getElem?_eq_getElem hi]; rfl
  rw [List.take_succ_eq_append_getElem hi, e, List.filter_append, List.length_append]
  by_cases h : good x y[i] = true <;> simp [h]
theorem rd_mem (y : List S26) (i : Nat) (hi : i < y.length) : rd_T26 y i ∈ y := by
  have e : rd_T26 y i = y[i] := by unfold rd_T26; rw [List.getD_eq_getElem?_getD, Int.toNat_natCast, List.getElem?_eq_getElem hi]; rfl
  rw [e]; exact List.getElem_mem hi
theorem rd_lt {y : List S26} (hs : y.Pairwise lt) {i j : Nat} (hij : i < j) (hj : j < y.length) : lt (rd_T26 y i) (rd_T26 y j) := by
  have e1 : rd_T26 y i = y[i]'(by omega) := by unfold rd_T26; rw [List.getD_eq_getElem?_getD, Int.toNat_natCast, List.getElem?_eq_getElem (by omega)]; rfl
  have e2 : rd_T26 y j = y[j] := by unfold rd_T26; rw [List.getD_eq_getElem?_getD, Int.toNat_natCast, List.getElem?_eq_getElem hj]; rfl
  rw [e1, e2]
  exact List.pairwise_iff_getElem.1 hs i j _ _ hij

/-- The list's row, and that nothing elder was touched. -/
structure HeldC (w0 : World) (N : Nat) (w : World) (ad : Addr) (cc : Nat) (C : List S26) : Prop where
  row : Kd.R k26 26 w w0.heap.size (fun k => k < N) (.slice (some ad) C.length cc) C
  below : Below w0.heap.size w0 w
  size : N ≤ w.heap.size
  base : w0.heap.size ≤ N
theorem HeldC.cells {w0 : World} {N : Nat} {w : World} {ad : Addr} {cc : Nat} {C : List S26} (h : HeldC w0 N w ad cc C) {i : Nat} (hi : i < C.length) : w.cell? (ad.add (i * 2)) = some (.int .u32 (rd_T26 C i).f0) ∧ w.cell? ⟨(ad.add (i * 2)).block, (ad.add (i * 2)).off + 1, none⟩ = some (.int .i64 (rd_T26 C i).f1) := by
  obtain ⟨ad', e, d0, d1⟩ := at_T26 (Kd.R_reads' h.row).2.2 (i : Int) (by omega) (by omega)
  cases e
  exact ⟨by simpa using d0, by simpa using d1⟩
theorem HeldC.to {w0 : World} {N : Nat} {w w' : World} {ad : Addr} {cc : Nat} {C : List S26} (h : HeldC w0 N w ad cc C) (hb : Below N w w') : HeldC w0 N w' ad cc C :=
  ⟨Kd.R_move h.row (fun k hk => hb.block k hk), h.below.trans (hb.mono h.base), Nat.le_trans h.size hb.size, h.base⟩
theorem HeldC.start {w0 w : World} {ad : Addr} {cc : Nat} {C : List S26} (h : Kd.R k26 26 w w0.heap.size (fun _ => True) (.slice (some ad) C.length cc) C) (hb : Below w0.heap.size w0 w) : HeldC w0 w.heap.size w ad cc C :=
  ⟨Kd.R_mono (Kd.R_bound h) (fun k hk => hk.2.2.1), hb, Nat.le_refl _, hb.size⟩
section
variable {A B D E : Prop} {w0 : World} {N : Nat} {W W' : World} {ad : Addr} {cc : Nat} {C : List S26}
/-- Two of one list, one ahead of the other. -/
def Pair (C : List S26) (p q : S26) : Prop := Canon C ∧ p ∈ C ∧ q ∈ C ∧ p ≠ q
theorem within_calls2 {C : List S26} {p q a b : S26} (h : Aside0 (Pair C p q)) (w : World) (hab : (a = p ∧ b = q) ∨ (a = q ∧ b = p) := by first | exact .inl ⟨rfl, rfl⟩ | exact .inr ⟨rfl, rfl⟩) : Calls Try.prog 19 #[.agg #[.int .u32 a.f0, .int .i64 a.f1], .agg #[.int .u32 b.f0, .int .i64 b.f1]] w fun e w' => e = .returned (.bool false) ∧ Below w.heap.size w w' := by
  obtain ⟨h1, h2, h3, h4⟩ := h.out
  rcases hab with ⟨rfl, rfl⟩ | ⟨rfl, rfl⟩
  · exact within_calls h1 h2 h3 h4 w
  · exact within_calls h1 h3 h2 (fun e => h4 e.symm) w
theorem keepA (h : A ∧ B ∧ D ∧ E ∧ Aside0 (HeldC w0 N W ad cc C)) (hb : Below W.heap.size W W') : HeldC w0 N W' ad cc C := h.2.2.2.2.out.to (hb.mono h.2.2.2.2.out.size)
theorem keepB (h : A ∧ B ∧ D ∧ E ∧ Aside0 (HeldC w0 N W ad cc C)) (hb : Below N W W') : HeldC w0 N W' ad cc C := h.2.2.2.2.out.to hb
theorem keepS {o o' : Obj} (h : A ∧ B ∧ D ∧ E ∧ Aside0 (HeldC w0 N (W.alloc o) ad cc C)) (hN : N ≤ W.heap.size) : HeldC w0 N (W.alloc o') ad cc C :=
  h.2.2.2.2.out.to ⟨rfl, rfl, rfl, by simp, fun k hk => (Below.heap_alloc W o' k (by omega)).trans (Below.heap_alloc W o k (by omega)).symm⟩
end
theorem below_set2 {N g : Nat} {W : World} (hg : N ≤ g) (u v : Value) : Below N W ((W.setCell ⟨g, 0, none⟩ u).setCell ⟨g, 1, none⟩ v) := ((Below.refl N W).setCell (p := ⟨g, 0, none⟩) hg u).setCell (p := ⟨g, 1, none⟩) hg v
theorem pickS {A B D E : Prop} {w0 : World} {N : Nat} {W : World} {ad : Addr} {cc : Nat} {C : List S26} (h : A ∧ B ∧ D ∧ E ∧ Aside0 (HeldC w0 N W ad cc C)) : HeldC w0 N W ad cc C := h.2.2.2.2.out
/-- The same, with the common prefix's own block. -/
structure HeldD (w0 : World) (N : Nat) (w : World) (ad : Addr) (cc : Nat) (C : List S26) (g : Nat) (r0 r1 : Int) : Prop where
  held : HeldC w0 N w ad cc C
  box : w.heap[g]? = some (.cells #[.int .u32 r0, .int .i64 r1] 26 (0, 0))
theorem HeldD.to {w0 : World} {N : Nat} {w w' : World} {ad : Addr} {cc : Nat} {C : List S26} {g : Nat} {r0 r1 : Int} (h : HeldD w0 N w ad cc C g r0 r1) (hb : Below w.heap.size w w') : HeldD w0 N w' ad cc C g r0 r1 := ⟨h.held.to (hb.mono h.held.size), blk_below h.box hb⟩
theorem keepD {A B D E F : Prop} {w0 : World} {N : Nat} {W W' : World} {ad : Addr} {cc : Nat} {C : List S26} {g : Nat} {r0 r1 : Int} (h : A ∧ B ∧ D ∧ E ∧ F ∧ Aside0 (HeldD w0 N W ad cc C g r0 r1)) (hb : Below W.heap.size W W') : HeldD w0 N W' ad cc C g r0 r1 := h.2.2.2.2.2.out.to hb
theorem pickD {A B D E F : Prop} {w0 : World} {N : Nat} {W : World} {ad : Addr} {cc : Nat} {C : List S26} {g : Nat} {r0 r1 : Int} (h : A ∧ B ∧ D ∧ E ∧ F ∧ Aside0 (HeldD w0 N W ad cc C g r0 r1)) : HeldD w0 N W ad cc C g r0 r1 := h.2.2.2.2.2.out
theorem box_cell {W W' : World} {x0 x1 : Value} (hb : Below (W.alloc (.cells #[x0, x1] 26)).drew.heap.size (W.alloc (.cells #[x0, x1] 26)).drew W') : W'.heap[W.heap.size]? = some (.cells #[x0, x1] 26 (0, 0)) := blk_below (blk_drew (blk_new W _)) hb

set_option maxHeartbeats 8000000 in
set_option maxRecDepth 100000 in
theorem covered_walk (A0 : Option Addr) (c0 : Nat) (l0 : List (S26)) (a : Int) (w : World) (hr0 : Kd.C k26 w A0 l0.length l0) (hc0 : l0.length ≤ c0) (hu0 : ∀ p ∈ l0, U p.f0) (ha : U a) :
    Calls Try.prog 4 #[.slice A0 l0.length c0, .int .u32 a] w fun e w' => e = .returned (.bool true) ∧ Below w.heap.size w w' := by
  have hu26 := Try.underlying26
  have HR0 := Aside0.mk hr0
  have HC0 := Aside0.mk hc0
  clear hr0 hc0
  have HB := Aside0.mk (Below.refl w.heap.size w)
  obtain ⟨ji2, hji2⟩ : ∃ j_ : Int, (mn (l0.length : Int) 100) = j_ := ⟨_, rfl⟩
  have hjb : 0 ≤ ji2 ∧ ji2 ≤ 100 ∧ ji2 ≤ (l0.length : Int) := by rw [← hji2]; unfold mn; split <;> omega
  have hji2_ : (if 100 < (l0.length : Int) then 100 else (l0.length : Int)) = ji2 := hji2
  have c3b0 := eq_true hjb.1
  have c3b1 : decide (0 ≤ (ji2)) = true := decide_eq_true hjb.1
  have c4b0 := eq_true hjb.2.2
  have c4b1 : decide ((ji2) ≤ (l0.length : Int)) = true := decide_eq_true hjb.2.2
  obtain ⟨y, hy⟩ : ∃ y_ : List (S26), y_ = (l0.take ((ji2) : Int).toNat) := ⟨_, rfl⟩
  have hyl : y.length ≤ 100 := by rw [hy, List.length_take]; omega
  have hyu : ∀ p ∈ y, U p.f0 := fun p hp => hu0 p (List.mem_of_mem_take (by rw [hy] at hp; exact hp))
  have q14 : ((ji2) : Int) ≤ ((l0.length : Int) : Int) := hjb.2.2
  obtain ⟨i014, hi014, _, hsz14, _⟩ := info_parts info26
  have hcut14 := cut_to (P := Try.prog) 22 26 .i64 Try.underlying22 hi014 A0 l0.length c0 (ji2) hjb.1 q14 HC0.out
  have hr14 := Kd.C_take (m := ((ji2) : Int).toNat) HR0.out (by omega)
  have hy14 : y.length = ((ji2) : Int).toNat := (by rw [hy, List.length_take]; omega)
  rw [← hy] at hr14
  rw [← hy14] at hcut14
  have HR := Aside0.mk hr14
  have HC := Aside0.mk (show y.length ≤ c0 by have := HC0.out; omega)
  clear hr14 hi014 hsz14 hy14 hjb
  replace q14 := eq_true q14
  have Ny := Aside0.mk hy
  clear hy
  obtain ⟨C, hcan, hcov, hClen, ⟨K, hK⟩⟩ := impl_cover (l := y) (by omega) hyu
  have A9 := Aside0.mk (hK K (Nat.le_refl _))
  clear hK
  have FX := Aside0.mk (show y.length ≤ 100 ∧ C.length ≤ 100 ∧ (∀ p ∈ y, U p.f0) ∧ Canon C ∧ (∀ x, cov C x ↔ ∃ p ∈ y, chk p.f0 p.f1 = 0 ∧ inP x p) from ⟨hyl, by omega, hyu, hcan, hcov⟩)
  clear hyl hyu hcan hcov hClen hu0
  have HA := Aside0.mk ha
  clear ha
  obtain ⟨M, hM⟩ : ∃ M : Nat, M = 100000 := ⟨_, rfl⟩
  have HM := Aside0.mk hM
  clear hM
  go_enter Try.func4, Try.ntmps4
  go_wp2_with (first
    | (go_at_call 15; refine (Go.Proofs.Ytaplkfnolimdmaa.Table.awake_calls _).mono ?_; rintro e w1 ⟨rfl, hb⟩; have HB1 := Aside0.mk hb; clear hb)
    | (go_at_call 13; refine (trie_Cover.calls K _ _ y C _ ?side1 ?side2 A9.out).mono ?_; (case side1 => exact Kd.C_below HR.out HB1.out); (case side2 => exact HC.out); rintro e w2 ⟨v24, rfl, ho, hb⟩; obtain ⟨Ac, cc, ec⟩ := Kd.R_slice ho; subst ec; have n0_ := Aside0.mk (Kd.R_lower ho HB1.out.size); have n1_ := Aside0.mk (HB1.out.trans (hb.mono HB1.out.size)); clear HB HB1 ho hb; have HO := n0_; have HB := n1_; clear n0_ n1_))
  clear c3b0 c3b1 c4b0 c4b1 q14 hcut14 hji2_ hji2 HR0 HC0 Ny A9
  go_loopg [6, 7] M (fun kq v6 v7 w' => ∃ (x k : Int), v6 = .int .u32 x ∧ v7 = .int .i64 k ∧ Aside0 (U x ∧ -1 ≤ k ∧ k ≤ (y.length : Int) ∧ 400 * ((y.length : Int) - k) + 20000 ≤ (kq : Int)) ∧ Aside0 (kq ≤ M) ∧ Aside0 (Kd.R k26 26 w' w.heap.size (fun _ => True) (.slice Ac C.length cc) C) ∧ Aside0 (Below w.heap.size w w'))
  case atStart => exact ⟨a, -1, rfl, rfl, ⟨by have := FX.out.1; have := HM.out; exact ⟨HA.out, by omega, by omega, by omega⟩⟩, ⟨Nat.le_refl _⟩, HO, HB⟩
  case round =>
    clear HO HB
    obtain ⟨x, k, rfl, rfl, HX, HK1, HO, HB⟩ := hrel
    cases gk with
    | zero => exact absurd HX.out (by omega)
    | succ k1 =>
      by_cases ck : k < (y.length : Int)
      · have ckb : decide (k < (y.length : Int)) = true := decide_eq_true ck
        have HKY := Aside0.mk ck
        by_cases c0 : 0 ≤ k
        · have c0b : decide (0 ≤ k) = true := decide_eq_true c0
          have hCk := Kd.C_below HR.out HB.out
          obtain ⟨adk, eak, dk0, dk1⟩ := at_T26 hCk k c0 ck
          subst eak
          clear hCk dk1
          obtain ⟨x2, hx2⟩ : ∃ x2, (rd_T26 y k).f0 = x2 := ⟨_, rfl⟩
          have hU : U (rd_T26 y k).f0 := FX.out.2.2.1 _ (by have e : k = (k.toNat : Int) := by omega
                                                            rw [e]; exact rd_mem y k.toNat (by omega))
          rw [hx2] at dk0 hU
          have n0_ := Aside0.mk (show U x2 ∧ -1 ≤ k ∧ k ≤ (y.length : Int) ∧ 400 * ((y.length : Int) - k) + 20000 ≤ ((k1 + 1 : Nat) : Int) from ⟨hU, HX.out.2.1, HX.out.2.2.1, HX.out.2.2.2⟩)
          have p28 := eq_true c0
          have q28 := eq_true ck
          clear HX hU hx2 c0 ck
          have HX := n0_
          clear n0_
          go_wp2
          go_loopg [8, 10] k1 (fun kq v8 v10 w' => ∃ (b : Bool) (i : Int), v8 = .bool b ∧ v10 = .int .i64 i ∧ Aside0 (0 ≤ i ∧ i ≤ (y.length : Int) ∧ 400 * ((y.length : Int) - k) + 19900 - i ≤ (kq : Int) ∧ (b = true ↔ ∃ p ∈ y.take i.toNat, good x2 p = true)) ∧ Aside0 (kq ≤ k1) ∧ Aside0 (Kd.R k26 26 w' w.heap.size (fun _ => True) (.slice Ac C.length cc) C) ∧ Aside0 (Below w.heap.size w w'))
          case atStart => exact ⟨false, 0, rfl, rfl, ⟨by have := HX.out; exact ⟨by omega, by omega, by omega, by simp⟩⟩, ⟨Nat.le_refl _⟩, (by first | exact HO | exact ⟨HO.out⟩), (by first | exact HB | exact ⟨HB.out⟩)⟩
          case round =>
            clear HO HB
            obtain ⟨b, i, rfl, rfl, HI, HK2, HO, HB⟩ := hrel
            cases gk with
            | zero => exact absurd HI.out (by have := HX.out; have := FX.out.1; omega)
            | succ k2 =>
              by_cases ci : i < (y.length : Int)
              · have cib : decide (i < (y.length : Int)) = true := decide_eq_true ci
                obtain ⟨n, hn⟩ : ∃ n : Nat, i = (n : Int) := ⟨i.toNat, by have := HI.out.1; omega⟩
                subst hn
                have hnl : n < y.length := by omega
                have HT := Aside0.mk (take_good x2 y n hnl)
                have HNL := Aside0.mk hnl
                have cib2 : decide (n < y.length) = true := decide_eq_true hnl
                have q1n := eq_true hnl
                clear ci hnl
                cases b with
                | true =>
                  go_wp2
                  go_roundg k2
                  case measure => have := HK1.out; have := HK2.out; omega
                  case rel => exact ⟨true, (n : Int) + 1, rfl, (by first | rfl | (simp; done) | (simp; have := HNL.out; have := FX.out.1; unfold wrap64; omega)), ⟨by have h := HI.out; have := HNL.out; exact ⟨by omega, by omega, by omega, by rw [show ((n : Int) + 1).toNat = n + 1 by omega, HT.out]; simp at h; simp [h.2.2]⟩⟩, ⟨by have := HK2.out; omega⟩, (by first | exact HO | exact ⟨HO.out⟩), (by first | exact HB | exact ⟨HB.out⟩)⟩
                | false =>
                  have hCy := Kd.C_below HR.out HB.out
                  obtain ⟨ad, ea, d0, d1⟩ := at_T26 hCy (n : Int) (by omega) (by have := HNL.out; omega)
                  cases ea
                  have hg0 : 0 ≤ (n : Int) := by omega
                  have HIN := Aside0.mk (fun W => in_calls (x := x2) (p := rd_T26 y n) HX.out.1 (FX.out.2.2.1 _ (rd_mem y n HNL.out)) W)
                  clear hCy
                  (try simp only [Int.toNat_natCast] at d0 d1)
                  obtain ⟨g, hg⟩ : ∃ g, good x2 (rd_T26 y n) = g := ⟨_, rfl⟩
                  rw [hg] at HIN
                  have HG := Aside0.mk hg
                  clear hg
                  go_wp2_with (first | (go_at_call 16; refine (HIN.out _).mono ?_; rintro e w3 ⟨rfl, hb⟩; have n0_ := Aside0.mk (Kd.R_below HO.out hb); have n1_ := Aside0.mk (HB.out.trans (hb.mono HB.out.size)); clear HO HB hb; have HO := n0_; have HB := n1_; clear n0_ n1_))
                  go_roundg k2
                  case measure => have := HK1.out; have := HK2.out; omega
                  case rel => exact ⟨g, (n : Int) + 1, (by first | rfl | (simp; done)), (by first | rfl | (simp; done) | (simp; have := HNL.out; have := FX.out.1; unfold wrap64; omega)), ⟨by have h := HI.out; have := HNL.out; exact ⟨by omega, by omega, by omega, by rw [show ((n : Int) + 1).toNat = n + 1 by omega, HT.out, HG.out]; have h2 := h.2.2.2; rw [show ((n : Int)).toNat = n by omega] at h2; rw [← h2]; simp⟩⟩, ⟨by have := HK2.out; omega⟩, HO, HB⟩
              · have cib : decide (i < (y.length : Int)) = false := decide_eq_false ci
                have hin : b = true ↔ ∃ p ∈ y, good x2 p = true := by have h := HI.out; rw [show i.toNat = y.length by omega, List.take_length] at h; exact h.2.2.2
                have HIN := Aside0.mk hin
                clear ci hin
                go_wp2
                go_loopg [9, 11] k2 (fun kq v9 v11 w' => ∃ (m i2 : Int), v9 = .int .i64 m ∧ v11 = .int .i64 i2 ∧ Aside0 (0 ≤ i2 ∧ i2 ≤ (C.length : Int) ∧ 400 * ((y.length : Int) - k) + 19790 - i2 ≤ (kq : Int) ∧ m = (((C.take i2.toNat).filter (good x2)).length : Int)) ∧ Aside0 (kq ≤ k2) ∧ Aside0 (Kd.R k26 26 w' w.heap.size (fun _ => True) (.slice Ac C.length cc) C) ∧ Aside0 (Below w.heap.size w w'))
                case atStart => exact ⟨0, 0, rfl, rfl, ⟨by have := HI.out; have := HX.out; have := FX.out.1; exact ⟨by omega, by omega, by omega, by simp⟩⟩, ⟨Nat.le_refl _⟩, (by first | exact HO | exact ⟨HO.out⟩), (by first | exact HB | exact ⟨HB.out⟩)⟩
                case round =>
                  clear HO HB cib
                  obtain ⟨m, i2, rfl, rfl, HJ, HK3, HO, HB⟩ := hrel
                  cases gk with
                  | zero => exact absurd HJ.out (by have := HX.out; have := FX.out.1; have := FX.out.2.1; omega)
                  | succ k3 =>
                    by_cases cj : i2 < (C.length : Int)
                    · have cjb : decide (i2 < (C.length : Int)) = true := decide_eq_true cj
                      obtain ⟨n, hn⟩ : ∃ n : Nat, i2 = (n : Int) := ⟨i2.toNat, by have := HJ.out.1; omega⟩
                      subst hn
                      have hnl : n < C.length := by omega
                      have HT := Aside0.mk (take_count x2 C n hnl)
                      have HNL := Aside0.mk hnl
                      have cjb2 : decide (n < C.length) = true := decide_eq_true hnl
                      have q2n := eq_true hnl
                      clear cj hnl
                      have hCy := (Kd.R_reads' HO.out).2.2
                      obtain ⟨ad, ea, d0, d1⟩ := at_T26 hCy (n : Int) (by omega) (by have := HNL.out; omega)
                      cases ea
                      have hg0 : 0 ≤ (n : Int) := by omega
                      have HIN2 := Aside0.mk (fun W => in_calls (x := x2) (p := rd_T26 C n) HX.out.1 (V_U (FX.out.2.2.2.1.valid _ (rd_mem C n HNL.out))) W)
                      clear hCy
                      (try simp only [Int.toNat_natCast] at d0 d1)
                      obtain ⟨g, hg⟩ : ∃ g, good x2 (rd_T26 C n) = g := ⟨_, rfl⟩
                      rw [hg] at HIN2
                      have HG := Aside0.mk hg
                      clear hg
                      cases g with
                      | true =>
                        go_wp2_with (first | (go_at_call 16; refine (HIN2.out _).mono ?_; rintro e w3 ⟨rfl, hb⟩; have n0_ := Aside0.mk (Kd.R_below HO.out hb); have n1_ := Aside0.mk (HB.out.trans (hb.mono HB.out.size)); clear HO HB hb; have HO := n0_; have HB := n1_; clear n0_ n1_))
                        go_roundg k3
                        case measure => have := HK1.out; have := HK2.out; have := HK3.out; omega
                        case rel => exact ⟨wrap64 (m + 1), (n : Int) + 1, (by first | rfl | (simp; done)), (by first | rfl | (simp; done) | (simp; have := HNL.out; have := FX.out.2.1; unfold wrap64; omega)), ⟨by have h := HJ.out; have := HNL.out; have h3 := HT.out; have := FX.out.2.1; rw [HG.out, if_pos rfl] at h3; have h4 := List.length_filter_le (good x2) (C.take n); rw [List.length_take] at h4; simp only [Int.toNat_natCast] at h; exact ⟨by omega, by omega, by omega, by rw [show ((n : Int) + 1).toNat = n + 1 by omega]; unfold wrap64; omega⟩⟩, ⟨by have := HK3.out; omega⟩, HO, HB⟩
                      | false =>
                        go_wp2_with (first | (go_at_call 16; refine (HIN2.out _).mono ?_; rintro e w3 ⟨rfl, hb⟩; have n0_ := Aside0.mk (Kd.R_below HO.out hb); have n1_ := Aside0.mk (HB.out.trans (hb.mono HB.out.size)); clear HO HB hb; have HO := n0_; have HB := n1_; clear n0_ n1_))
                        go_roundg k3
                        case measure => have := HK1.out; have := HK2.out; have := HK3.out; omega
                        case rel => exact ⟨m, (n : Int) + 1, (by first | rfl | (simp; done)), (by first | rfl | (simp; done) | (simp; have := HNL.out; have := FX.out.2.1; unfold wrap64; omega)), ⟨by have h := HJ.out; have := HNL.out; have h3 := HT.out; rw [HG.out, if_neg Bool.false_ne_true] at h3; simp only [Int.toNat_natCast] at h; exact ⟨by omega, by omega, by omega, by rw [show ((n : Int) + 1).toNat = n + 1 by omega]; omega⟩⟩, ⟨by have := HK3.out; omega⟩, HO, HB⟩
                    · have cjb : decide (i2 < (C.length : Int)) = false := decide_eq_false cj
                      have hm : m = if b = true then 1 else 0 := by
                        have h := HJ.out
                        have h2 := canon_count FX.out.2.2.2.1 (x := x2)
                        rw [show i2.toNat = C.length by omega, List.take_length] at h
                        rw [h.2.2.2, h2]
                        have hiff : (∃ p ∈ C, good x2 p = true) ↔ b = true := by
                          rw [HIN.out]
                          have hcv := FX.out.2.2.2.2 x2
                          constructor
                          · rintro ⟨p, hp, hg⟩
                            obtain ⟨q, hq, h1, h2⟩ := hcv.1 ⟨p, hp, (of_decide_eq_true hg).2⟩
                            exact ⟨q, hq, decide_eq_true ⟨h1, h2⟩⟩
                          · rintro ⟨p, hp, hg⟩
                            obtain ⟨q, hq, h1⟩ := hcv.2 ⟨p, hp, (of_decide_eq_true hg).1, (of_decide_eq_true hg).2⟩
                            exact ⟨q, hq, decide_eq_true ⟨chk_of_V (FX.out.2.2.2.1.valid q hq), h1⟩⟩
                        by_cases hb2 : b = true
                        · rw [if_pos (hiff.2 hb2), if_pos hb2]; rfl
                        · rw [if_neg (fun h => hb2 (hiff.1 h)), if_neg hb2]; rfl
                      clear cj
                      cases b with
                      | true =>
                        rw [if_pos rfl] at hm
                        subst hm
                        go_wp2
                        go_roundg k3
                        case measure => have := HK1.out; have := HK2.out; have := HK3.out; omega
                        case rel => exact ⟨x2, wrap64 (k + 1), rfl, (by first | rfl | (simp; done)), ⟨by have h := HX.out; have h2 := HJ.out; have := FX.out.1; have := FX.out.2.1; have := HKY.out; exact ⟨h.1, by unfold wrap64; omega, by unfold wrap64; omega, by unfold wrap64; omega⟩⟩, ⟨by have := HK1.out; have := HK2.out; have := HK3.out; omega⟩, (by first | exact HO | exact ⟨HO.out⟩), (by first | exact HB | exact ⟨HB.out⟩)⟩
                      | false =>
                        rw [if_neg Bool.false_ne_true] at hm
                        subst hm
                        go_wp2
                        go_roundg k3
                        case measure => have := HK1.out; have := HK2.out; have := HK3.out; omega
                        case rel => exact ⟨x2, wrap64 (k + 1), rfl, (by first | rfl | (simp; done)), ⟨by have h := HX.out; have h2 := HJ.out; have := FX.out.1; have := FX.out.2.1; have := HKY.out; exact ⟨h.1, by unfold wrap64; omega, by unfold wrap64; omega, by unfold wrap64; omega⟩⟩, ⟨by have := HK1.out; have := HK2.out; have := HK3.out; omega⟩, (by first | exact HO | exact ⟨HO.out⟩), (by first | exact HB | exact ⟨HB.out⟩)⟩
        · have c0b : decide (0 ≤ k) = false := decide_eq_false c0
          clear c0 ck
          go_wp2
          go_loopg [8, 10] k1 (fun kq v8 v10 w' => ∃ (b : Bool) (i : Int), v8 = .bool b ∧ v10 = .int .i64 i ∧ Aside0 (0 ≤ i ∧ i ≤ (y.length : Int) ∧ 400 * ((y.length : Int) - k) + 19900 - i ≤ (kq : Int) ∧ (b = true ↔ ∃ p ∈ y.take i.toNat, good x p = true)) ∧ Aside0 (kq ≤ k1) ∧ Aside0 (Kd.R k26 26 w' w.heap.size (fun _ => True) (.slice Ac C.length cc) C) ∧ Aside0 (Below w.heap.size w w'))
          case atStart => exact ⟨false, 0, rfl, rfl, ⟨by have := HX.out; exact ⟨by omega, by omega, by omega, by simp⟩⟩, ⟨Nat.le_refl _⟩, (by first | exact HO | exact ⟨HO.out⟩), (by first | exact HB | exact ⟨HB.out⟩)⟩
          case round =>
            clear HO HB
            obtain ⟨b, i, rfl, rfl, HI, HK2, HO, HB⟩ := hrel
            cases gk with
            | zero => exact absurd HI.out (by have := HX.out; have := FX.out.1; omega)
            | succ k2 =>
              by_cases ci : i < (y.length : Int)
              · have cib : decide (i < (y.length : Int)) = true := decide_eq_true ci
                obtain ⟨n, hn⟩ : ∃ n : Nat, i = (n : Int) := ⟨i.toNat, by have := HI.out.1; omega⟩
                subst hn
                have hnl : n < y.length := by omega
                have HT := Aside0.mk (take_good x y n hnl)
                have HNL := Aside0.mk hnl
                have cib2 : decide (n < y.length) = true := decide_eq_true hnl
                have q1n := eq_true hnl
                clear ci hnl
                cases b with
                | true =>
                  go_wp2
                  go_roundg k2
                  case measure => have := HK1.out; have := HK2.out; omega
                  case rel => exact ⟨true, (n : Int) + 1, rfl, (by first | rfl | (simp; done) | (simp; have := HNL.out; have := FX.out.1; unfold wrap64; omega)), ⟨by have h := HI.out; have := HNL.out; exact ⟨by omega, by omega, by omega, by rw [show ((n : Int) + 1).toNat = n + 1 by omega, HT.out]; simp at h; simp [h.2.2]⟩⟩, ⟨by have := HK2.out; omega⟩, (by first | exact HO | exact ⟨HO.out⟩), (by first | exact HB | exact ⟨HB.out⟩)⟩
                | false =>
                  have hCy := Kd.C_below HR.out HB.out
                  obtain ⟨ad, ea, d0, d1⟩ := at_T26 hCy (n : Int) (by omega) (by have := HNL.out; omega)
                  cases ea
                  have hg0 : 0 ≤ (n : Int) := by omega
                  have HIN := Aside0.mk (fun W => in_calls (x := x) (p := rd_T26 y n) HX.out.1 (FX.out.2.2.1 _ (rd_mem y n HNL.out)) W)
                  clear hCy
                  (try simp only [Int.toNat_natCast] at d0 d1)
                  obtain ⟨g, hg⟩ : ∃ g, good x (rd_T26 y n) = g := ⟨_, rfl⟩
                  rw [hg] at HIN
                  have HG := Aside0.mk hg
                  clear hg
                  go_wp2_with (first | (go_at_call 16; refine (HIN.out _).mono ?_; rintro e w3 ⟨rfl, hb⟩; have n0_ := Aside0.mk (Kd.R_below HO.out hb); have n1_ := Aside0.mk (HB.out.trans (hb.mono HB.out.size)); clear HO HB hb; have HO := n0_; have HB := n1_; clear n0_ n1_))
                  go_roundg k2
                  case measure => have := HK1.out; have := HK2.out; omega
                  case rel => exact ⟨g, (n : Int) + 1, (by first | rfl | (simp; done)), (by first | rfl | (simp; done) | (simp; have := HNL.out; have := FX.out.1; unfold wrap64; omega)), ⟨by have h := HI.out; have := HNL.out; exact ⟨by omega, by omega, by omega, by rw [show ((n : Int) + 1).toNat = n + 1 by omega, HT.out, HG.out]; have h2 := h.2.2.2; rw [show ((n : Int)).toNat = n by omega] at h2; rw [← h2]; simp⟩⟩, ⟨by have := HK2.out; omega⟩, HO, HB⟩
              · have cib : decide (i < (y.length : Int)) = false := decide_eq_false ci
                have hin : b = true ↔ ∃ p ∈ y, good x p = true := by have h := HI.out; rw [show i.toNat = y.length by omega, List.take_length] at h; exact h.2.2.2
                have HIN := Aside0.mk hin
                clear ci hin
                go_wp2
                go_loopg [9, 11] k2 (fun kq v9 v11 w' => ∃ (m i2 : Int), v9 = .int .i64 m ∧ v11 = .int .i64 i2 ∧ Aside0 (0 ≤ i2 ∧ i2 ≤ (C.length : Int) ∧ 400 * ((y.length : Int) - k) + 19790 - i2 ≤ (kq : Int) ∧ m = (((C.take i2.toNat).filter (good x)).length : Int)) ∧ Aside0 (kq ≤ k2) ∧ Aside0 (Kd.R k26 26 w' w.heap.size (fun _ => True) (.slice Ac C.length cc) C) ∧ Aside0 (Below w.heap.size w w'))
                case atStart => exact ⟨0, 0, rfl, rfl, ⟨by have := HI.out; have := HX.out; have := FX.out.1; exact ⟨by omega, by omega, by omega, by simp⟩⟩, ⟨Nat.le_refl _⟩, (by first | exact HO | exact ⟨HO.out⟩), (by first | exact HB | exact ⟨HB.out⟩)⟩
                case round =>
                  clear HO HB cib
                  obtain ⟨m, i2, rfl, rfl, HJ, HK3, HO, HB⟩ := hrel
                  cases gk with
                  | zero => exact absurd HJ.out (by have := HX.out; have := FX.out.1; have := FX.out.2.1; omega)
                  | succ k3 =>
                    by_cases cj : i2 < (C.length : Int)
                    · have cjb : decide (i2 < (C.length : Int)) = true := decide_eq_true cj
                      obtain ⟨n, hn⟩ : ∃ n : Nat, i2 = (n : Int) := ⟨i2.toNat, by have := HJ.out.1; omega⟩
                      subst hn
                      have hnl : n < C.length := by omega
                      have HT := Aside0.mk (take_count x C n hnl)
                      have HNL := Aside0.mk hnl
                      have cjb2 : decide (n < C.length) = true := decide_eq_true hnl
                      have q2n := eq_true hnl
                      clear cj hnl
                      have hCy := (Kd.R_reads' HO.out).2.2
                      obtain ⟨ad, ea, d0, d1⟩ := at_T26 hCy (n : Int) (by omega) (by have := HNL.out; omega)
                      cases ea
                      have hg0 : 0 ≤ (n : Int) := by omega
                      have HIN2 := Aside0.mk (fun W => in_calls (x := x) (p := rd_T26 C n) HX.out.1 (V_U (FX.out.2.2.2.1.valid _ (rd_mem C n HNL.out))) W)
                      clear hCy
                      (try simp only [Int.toNat_natCast] at d0 d1)
                      obtain ⟨g, hg⟩ : ∃ g, good x (rd_T26 C n) = g := ⟨_, rfl⟩
                      rw [hg] at HIN2
                      have HG := Aside0.mk hg
                      clear hg
                      cases g with
                      | true =>
                        go_wp2_with (first | (go_at_call 16; refine (HIN2.out _).mono ?_; rintro e w3 ⟨rfl, hb⟩; have n0_ := Aside0.mk (Kd.R_below HO.out hb); have n1_ := Aside0.mk (HB.out.trans (hb.mono HB.out.size)); clear HO HB hb; have HO := n0_; have HB := n1_; clear n0_ n1_))
                        go_roundg k3
                        case measure => have := HK1.out; have := HK2.out; have := HK3.out; omega
                        case rel => exact ⟨wrap64 (m + 1), (n : Int) + 1, (by first | rfl | (simp; done)), (by first | rfl | (simp; done) | (simp; have := HNL.out; have := FX.out.2.1; unfold wrap64; omega)), ⟨by have h := HJ.out; have := HNL.out; have h3 := HT.out; have := FX.out.2.1; rw [HG.out, if_pos rfl] at h3; have h4 := List.length_filter_le (good x) (C.take n); rw [List.length_take] at h4; simp only [Int.toNat_natCast] at h; exact ⟨by omega, by omega, by omega, by rw [show ((n : Int) + 1).toNat = n + 1 by omega]; unfold wrap64; omega⟩⟩, ⟨by have := HK3.out; omega⟩, HO, HB⟩
                      | false =>
                        go_wp2_with (first | (go_at_call 16; refine (HIN2.out _).mono ?_; rintro e w3 ⟨rfl, hb⟩; have n0_ := Aside0.mk (Kd.R_below HO.out hb); have n1_ := Aside0.mk (HB.out.trans (hb.mono HB.out.size)); clear HO HB hb; have HO := n0_; have HB := n1_; clear n0_ n1_))
                        go_roundg k3
                        case measure => have := HK1.out; have := HK2.out; have := HK3.out; omega
                        case rel => exact ⟨m, (n : Int) + 1, (by first | rfl | (simp; done)), (by first | rfl | (simp; done) | (simp; have := HNL.out; have := FX.out.2.1; unfold wrap64; omega)), ⟨by have h := HJ.out; have := HNL.out; have h3 := HT.out; rw [HG.out, if_neg Bool.false_ne_true] at h3; simp only [Int.toNat_natCast] at h; exact ⟨by omega, by omega, by omega, by rw [show ((n : Int) + 1).toNat = n + 1 by omega]; omega⟩⟩, ⟨by have := HK3.out; omega⟩, HO, HB⟩
                    · have cjb : decide (i2 < (C.length : Int)) = false := decide_eq_false cj
                      have hm : m = if b = true then 1 else 0 := by
                        have h := HJ.out
                        have h2 := canon_count FX.out.2.2.2.1 (x := x)
                        rw [show i2.toNat = C.length by omega, List.take_length] at h
                        rw [h.2.2.2, h2]
                        have hiff : (∃ p ∈ C, good x p = true) ↔ b = true := by
                          rw [HIN.out]
                          have hcv := FX.out.2.2.2.2 x
                          constructor
                          · rintro ⟨p, hp, hg⟩
                            obtain ⟨q, hq, h1, h2⟩ := hcv.1 ⟨p, hp, (of_decide_eq_true hg).2⟩
                            exact ⟨q, hq, decide_eq_true ⟨h1, h2⟩⟩
                          · rintro ⟨p, hp, hg⟩
                            obtain ⟨q, hq, h1⟩ := hcv.2 ⟨p, hp, (of_decide_eq_true hg).1, (of_decide_eq_true hg).2⟩
                            exact ⟨q, hq, decide_eq_true ⟨chk_of_V (FX.out.2.2.2.1.valid q hq), h1⟩⟩
                        by_cases hb2 : b = true
                        · rw [if_pos (hiff.2 hb2), if_pos hb2]; rfl
                        · rw [if_neg (fun h => hb2 (hiff.1 h)), if_neg hb2]; rfl
                      clear cj
                      cases b with
                      | true =>
                        rw [if_pos rfl] at hm
                        subst hm
                        go_wp2
                        go_roundg k3
                        case measure => have := HK1.out; have := HK2.out; have := HK3.out; omega
                        case rel => exact ⟨x, wrap64 (k + 1), rfl, (by first | rfl | (simp; done)), ⟨by have h := HX.out; have h2 := HJ.out; have := FX.out.1; have := FX.out.2.1; have := HKY.out; exact ⟨h.1, by unfold wrap64; omega, by unfold wrap64; omega, by unfold wrap64; omega⟩⟩, ⟨by have := HK1.out; have := HK2.out; have := HK3.out; omega⟩, (by first | exact HO | exact ⟨HO.out⟩), (by first | exact HB | exact ⟨HB.out⟩)⟩
                      | false =>
                        rw [if_neg Bool.false_ne_true] at hm
                        subst hm
                        go_wp2
                        go_roundg k3
                        case measure => have := HK1.out; have := HK2.out; have := HK3.out; omega
                        case rel => exact ⟨x, wrap64 (k + 1), rfl, (by first | rfl | (simp; done)), ⟨by have h := HX.out; have h2 := HJ.out; have := FX.out.1; have := FX.out.2.1; have := HKY.out; exact ⟨h.1, by unfold wrap64; omega, by unfold wrap64; omega, by unfold wrap64; omega⟩⟩, ⟨by have := HK1.out; have := HK2.out; have := HK3.out; omega⟩, (by first | exact HO | exact ⟨HO.out⟩), (by first | exact HB | exact ⟨HB.out⟩)⟩
      · have ckb : decide (k < (y.length : Int)) = false := decide_eq_false ck
        clear ck
        go_wp2
        go_loopg [12] k1 (fun kq v12 w' => ∃ (i : Int), v12 = .int .i64 i ∧ Aside0 (0 ≤ i ∧ i ≤ (C.length : Int) ∧ 150 * ((C.length : Int) - i) + 300 ≤ (kq : Int)) ∧ Aside0 (kq ≤ k1) ∧ Aside0 (Kd.R k26 26 w' w.heap.size (fun _ => True) (.slice Ac C.length cc) C) ∧ Aside0 (Below w.heap.size w w'))
        case atStart => exact ⟨0, rfl, ⟨by have := HX.out; have := FX.out.1; have := FX.out.2.1; omega⟩, ⟨Nat.le_refl _⟩, (by first | exact HO | exact ⟨HO.out⟩), (by first | exact HB | exact ⟨HB.out⟩)⟩
        case round =>
          clear HO HB ckb
          obtain ⟨i, rfl, HI, HK2, HO, HB⟩ := hrel
          cases gk with
          | zero => exact absurd HI.out (by omega)
          | succ k2 =>
            by_cases ci : i < (C.length : Int)
            · have cib : decide (i < (C.length : Int)) = true := decide_eq_true ci
              obtain ⟨n, hn⟩ : ∃ n : Nat, i = (n : Int) := ⟨i.toNat, by have := HI.out.1; omega⟩
              subst hn
              have hnl : n < C.length := by omega
              have cib2 : decide (n < C.length) = true := decide_eq_true hnl
              have HNL := Aside0.mk hnl
              clear ci hnl
              go_wp2
              clear cib cib2
              go_loopg [13] k2 (fun kq v13 w' => ∃ (j : Int), v13 = .int .i64 j ∧ Aside0 ((n : Int) + 1 ≤ j ∧ j ≤ (C.length : Int) ∧ 150 * ((C.length : Int) - n) + 298 - (j - n) ≤ (kq : Int)) ∧ Aside0 (kq ≤ k2) ∧ Aside0 (Kd.R k26 26 w' w.heap.size (fun _ => True) (.slice Ac C.length cc) C) ∧ Aside0 (Below w.heap.size w w'))
              case atStart => exact ⟨(n : Int) + 1, (by first | rfl | (simp; done) | (simp; have := HNL.out; have := FX.out.2.1; unfold wrap64; omega)), ⟨by have := HI.out; have := HNL.out; omega⟩, ⟨Nat.le_refl _⟩, (by first | exact HO | exact ⟨HO.out⟩), (by first | exact HB | exact ⟨HB.out⟩)⟩
              case round =>
                clear HO HB
                obtain ⟨j, rfl, HJ, HK3, HO, HB⟩ := hrel
                cases gk with
                | zero => exact absurd HJ.out (by have := HNL.out; have := FX.out.2.1; omega)
                | succ k3 =>
                  obtain ⟨m, hm⟩ : ∃ m : Nat, j = (m : Int) := ⟨j.toNat, by have := HJ.out.1; omega⟩
                  subst hm
                  by_cases cj : (m : Int) < (C.length : Int)
                  · have cjb : decide ((m : Int) < (C.length : Int)) = true := decide_eq_true cj
                    have hml : m < C.length := by omega
                    have cjb2 : decide (m < C.length) = true := decide_eq_true hml
                    have HML := Aside0.mk hml
                    have hnm : n < m := by have := HJ.out; omega
                    have q1 := eq_true hml
                    have q2 := eq_true HNL.out
                    clear cj hml
                    obtain ⟨p, hp⟩ : ∃ p, rd_T26 C n = p := ⟨_, rfl⟩
                    obtain ⟨q, hq⟩ : ∃ q, rd_T26 C m = q := ⟨_, rfl⟩
                    have hlt : lt p q := by rw [← hp, ← hq]; exact rd_lt FX.out.2.2.2.1.sorted hnm HML.out
                    have hpC : p ∈ C := by rw [← hp]; exact rd_mem C n HNL.out
                    have hqC : q ∈ C := by rw [← hq]; exact rd_mem C m HML.out
                    obtain ⟨r0, r1, hr1, hcm⟩ := common_calls FX.out.2.2.2.1 hpC hqC hlt
                    have HCM := Aside0.mk hcm
                    have HR1 := Aside0.mk hr1
                    have HCP := Aside0.mk (fun W => cmp_calls hlt W)
                    have hne : p ≠ q := fun e => lt_irrefl q (e ▸ hlt)
                    have HPQ : Aside0 (Pair C p q) := ⟨FX.out.2.2.2.1, hpC, hqC, hne⟩
                    have HW1 := Aside0.mk (fun W => within_calls FX.out.2.2.2.1 hpC hqC hne W)
                    have HW2 := Aside0.mk (fun W => within_calls FX.out.2.2.2.1 hqC hpC (fun e => hne e.symm) W)
                    obtain ⟨ad, ea, _⟩ := at_T26 (Kd.R_reads' HO.out).2.2 (n : Int) (by omega) (by have := HNL.out; omega)
                    cases ea
                    have HH := Aside0.mk (HeldC.start HO.out HB.out)
                    have HCE := Aside0.mk (fun W (h : HeldC w wr.heap.size W ad cc C) => (show W.cell? (ad.add (n * 2)) = some (.int .u32 p.f0) ∧ W.cell? ⟨(ad.add (n * 2)).block, (ad.add (n * 2)).off + 1, none⟩ = some (.int .i64 p.f1) ∧ W.cell? (ad.add (m * 2)) = some (.int .u32 q.f0) ∧ W.cell? ⟨(ad.add (m * 2)).block, (ad.add (m * 2)).off + 1, none⟩ = some (.int .i64 q.f1) ∧ Aside0 (HeldC w wr.heap.size W ad cc C) from by
                      have h1 := h.cells HNL.out
                      have h2 := h.cells HML.out
                      rw [hp] at h1; rw [hq] at h2
                      exact ⟨h1.1, h1.2, h2.1, h2.2, ⟨h⟩⟩))
                    have HVP := Aside0.mk (FX.out.2.2.2.1.valid p hpC)
                    clear hcm hr1 hlt hpC hqC hne hp hq hnm HO HB
                    go_wp2
                    go_region_held3 (fun W => W.cell? (ad.add (n * 2)) = some (.int .u32 p.f0) ∧ W.cell? ⟨(ad.add (n * 2)).block, (ad.add (n * 2)).off + 1, none⟩ = some (.int .i64 p.f1) ∧ W.cell? (ad.add (m * 2)) = some (.int .u32 q.f0) ∧ W.cell? ⟨(ad.add (m * 2)).block, (ad.add (m * 2)).off + 1, none⟩ = some (.int .i64 q.f1) ∧ Aside0 (HeldC w wr.heap.size W ad cc C))
                      (first | exact HCE.out _ (HH.out.to (Below.refl _ _).drew) | exact HCE.out _ (keepA (by assumption) hb) | exact HCE.out _ (keepA (by assumption) ((Below.refl _ _).alloc (Nat.le_refl _) _)) | exact HCE.out _ (keepS (by assumption) hb.size) | exact HCE.out _ (keepB (by assumption) (below_set2 (Nat.le_refl _) _ _)))
                      (first | (go_at_call 17; refine (HCM.out _).mono ?_; rintro e w3 ⟨rfl, hb⟩; (try (have hbx : w3.heap[wr.heap.size]? = some (.cells #[.int .u32 0, .int .i64 0] 26 (0, 0)) := box_cell hb; have hx0 : w3.cell? ⟨wr.heap.size, 0, none⟩ = some (.int .u32 0) := (by rw [blk_cell hbx]; rfl); have hx1 : w3.cell? ⟨wr.heap.size, 1, none⟩ = some (.int .i64 0) := (by rw [blk_cell hbx]; rfl); have fx0 := blk_frozen hbx 0; have fx1 := blk_frozen hbx 1; have HBX := Aside0.mk hbx; clear hbx))))
                    all_goals (first
                      | (have hH := pickS (by assumption : _ ∧ _ ∧ _ ∧ _ ∧ Aside0 (HeldC w wr.heap.size (w3.alloc (Obj.cells #[Value.int .u32 r0, Value.int .i64 r1] 26)) ad cc C))
                         have hbx := blk_new w3 (Obj.cells #[Value.int .u32 r0, Value.int .i64 r1] 26)
                         generalize w3.heap.size = g at hbx ⊢
                         generalize (w3.alloc (Obj.cells #[Value.int .u32 r0, Value.int .i64 r1] 26)) = w5 at hbx hH ⊢)
                      | (have hH := pickS (by assumption : _ ∧ _ ∧ _ ∧ _ ∧ Aside0 (HeldC w wr.heap.size ((w3.setCell ⟨wr.heap.size, 0, none⟩ (Value.int .u32 r0)).setCell ⟨wr.heap.size, 1, none⟩ (Value.int .i64 r1)) ad cc C))
                         have hbx := blk_put (blk_put HBX.out 0 (.int .u32 r0) rfl) 1 (.int .i64 r1) rfl
                         generalize ((w3.setCell ⟨wr.heap.size, 0, none⟩ (Value.int .u32 r0)).setCell ⟨wr.heap.size, 1, none⟩ (Value.int .i64 r1)) = w5 at hbx hH ⊢
                         obtain ⟨g, hg⟩ : ∃ g, wr.heap.size = g := ⟨_, rfl⟩
                         rw [hg] at hbx
                         simp only [hg])
                      | fail "no prelude")
                    all_goals (
                      have HD := Aside0.mk (show HeldD w wr.heap.size w5 ad cc C g r0 r1 from ⟨hH, hbx⟩)
                      have HCE2 := Aside0.mk (fun W (h : HeldD w wr.heap.size W ad cc C g r0 r1) => (show W.cell? (ad.add (n * 2)) = some (.int .u32 p.f0) ∧ W.cell? ⟨(ad.add (n * 2)).block, (ad.add (n * 2)).off + 1, none⟩ = some (.int .i64 p.f1) ∧ W.cell? (ad.add (m * 2)) = some (.int .u32 q.f0) ∧ W.cell? ⟨(ad.add (m * 2)).block, (ad.add (m * 2)).off + 1, none⟩ = some (.int .i64 q.f1) ∧ W.cell? ⟨g, 1, none⟩ = some (.int .i64 r1) ∧ Aside0 (HeldD w wr.heap.size W ad cc C g r0 r1) from by
                        have h1 := HCE.out W h.held
                        exact ⟨h1.1, h1.2.1, h1.2.2.1, h1.2.2.2.1, by rw [blk_cell h.box]; rfl, ⟨h⟩⟩))
                      clear hH hbx
                      by_cases heq : p.f1 = q.f1
                      · have e1 : (p.f1 == q.f1) = true := beq_iff_eq.2 heq
                        have hv := HVP.out
                        have e2 : wrap64 (p.f1 - 1) = p.f1 - 1 := w64 (by have := hv.1; omega) (by have := hv.2.1; omega)
                        have e3 : (r1 == wrap64 (p.f1 - 1)) = false := by rw [e2]; exact beq_eq_false_iff_ne.2 (HR1.out heq)
                        have e4 : (r1 == IntKind.i64.wrap (p.f1 - 1)) = false := by rw [i64_w]; exact e3
                        have e5 : (r1 == p.f1 - 1) = false := beq_eq_false_iff_ne.2 (HR1.out heq)
                        have e6 : decide (r1 = p.f1 - 1) = false := decide_eq_false (HR1.out heq)
                        have e7 : (r1 = p.f1 - 1) = False := eq_false (HR1.out heq)
                        have e8 : decide (p.f1 = q.f1) = true := decide_eq_true heq
                        have e9 : (p.f1 = q.f1) = True := eq_true heq
                        clear heq hv e2
                        go_wp2
                        refine q_region (fun W => HeldD w wr.heap.size W ad cc C g r0 r1) (by kernel_rfl) (by kernel_rfl) (HD.out.to (Below.refl _ _).drew) ?_
                        repeat (first
                          | go_big_quiet_skip
                          | (go_big_quiet_want; first
                            | (go_big_quiet_op; first
                              | go_big_quiet_on
                              | (apply Exists.intro; refine ⟨?_, ?_⟩; (· (intros; with_reducible rfl)); go_big_quiet_on)
                              | (apply Exists.intro; refine ⟨?_, ?_⟩; (· (intro W hW; first | (refine (HCP.out W).mono ?_; rintro e w6 ⟨rfl, hb⟩; exact ⟨rfl, hW.to hb⟩) | (refine (within_calls2 HPQ W).mono ?_; rintro e w6 ⟨rfl, hb⟩; exact ⟨rfl, hW.to hb⟩))); go_big_quiet_on))
                            | (refine q_op (v := ?_) ?_ ?_; rotate_left 1; (· (intro W hW; obtain ⟨t1, t2, t3, t4, t5, _⟩ := HCE2.out W hW; go_simp; (try with_reducible rfl))); (try simp only [Act.put, List.setIfInBounds_toArray, List.set_cons_zero, List.set_cons_succ]); go_big_quiet_on)
                            | (refine q_call (v := ?_) (f := ?_) (args := ?_) ?_ ?_ ?_; rotate_left 3; (· (intro W hW; go_simp; (try with_reducible exact ⟨rfl, rfl⟩))); (· (intro W hW; first | (refine (HCP.out W).mono ?_; rintro e w6 ⟨rfl, hb⟩; exact ⟨rfl, hW.to hb⟩) | (refine (within_calls2 HPQ W).mono ?_; rintro e w6 ⟨rfl, hb⟩; exact ⟨rfl, hW.to hb⟩))); (try simp only [Act.put, List.setIfInBounds_toArray, List.set_cons_zero, List.set_cons_succ]); go_big_quiet_on)))
                        refine wpQuiet_nil ?_
                        intro w7 hW7
                        have hE := hW7
                        clear hW7
                        have HO := Aside0.mk (Kd.R_mono hE.held.row (fun _ _ => trivial))
                        have HB := Aside0.mk hE.held.below
                        clear hE
                        go_wp2
                        go_roundg k3
                        case measure => have := HK1.out; have := HK2.out; have := HK3.out; omega
                        case rel => exact ⟨(m : Int) + 1, (by first | rfl | (simp; done) | (simp; have := HML.out; have := FX.out.2.1; unfold wrap64; omega)), ⟨by have := HJ.out; have := HML.out; omega⟩, ⟨by have := HK3.out; omega⟩, (by first | exact HO | exact ⟨HO.out⟩), (by first | exact HB | exact ⟨HB.out⟩)⟩
                      · have e1 : (p.f1 == q.f1) = false := beq_eq_false_iff_ne.2 heq
                        have e8 : decide (p.f1 = q.f1) = false := decide_eq_false heq
                        have e9 : (p.f1 = q.f1) = False := eq_false heq
                        clear heq
                        go_wp2
                        refine q_region (fun W => HeldD w wr.heap.size W ad cc C g r0 r1) (by kernel_rfl) (by kernel_rfl) (HD.out.to (Below.refl _ _).drew) ?_
                        repeat (first
                          | go_big_quiet_skip
                          | (go_big_quiet_want; first
                            | (go_big_quiet_op; first
                              | go_big_quiet_on
                              | (apply Exists.intro; refine ⟨?_, ?_⟩; (· (intros; with_reducible rfl)); go_big_quiet_on)
                              | (apply Exists.intro; refine ⟨?_, ?_⟩; (· (intro W hW; first | (refine (HCP.out W).mono ?_; rintro e w6 ⟨rfl, hb⟩; exact ⟨rfl, hW.to hb⟩) | (refine (within_calls2 HPQ W).mono ?_; rintro e w6 ⟨rfl, hb⟩; exact ⟨rfl, hW.to hb⟩))); go_big_quiet_on))
                            | (refine q_op (v := ?_) ?_ ?_; rotate_left 1; (· (intro W hW; obtain ⟨t1, t2, t3, t4, t5, _⟩ := HCE2.out W hW; go_simp; (try with_reducible rfl))); (try simp only [Act.put, List.setIfInBounds_toArray, List.set_cons_zero, List.set_cons_succ]); go_big_quiet_on)
                            | (refine q_call (v := ?_) (f := ?_) (args := ?_) ?_ ?_ ?_; rotate_left 3; (· (intro W hW; go_simp; (try with_reducible exact ⟨rfl, rfl⟩))); (· (intro W hW; first | (refine (HCP.out W).mono ?_; rintro e w6 ⟨rfl, hb⟩; exact ⟨rfl, hW.to hb⟩) | (refine (within_calls2 HPQ W).mono ?_; rintro e w6 ⟨rfl, hb⟩; exact ⟨rfl, hW.to hb⟩))); (try simp only [Act.put, List.setIfInBounds_toArray, List.set_cons_zero, List.set_cons_succ]); go_big_quiet_on)))
                        refine wpQuiet_nil ?_
                        intro w7 hW7
                        have hE := hW7
                        clear hW7
                        have HO := Aside0.mk (Kd.R_mono hE.held.row (fun _ _ => trivial))
                        have HB := Aside0.mk hE.held.below
                        clear hE
                        go_wp2
                        go_roundg k3
                        case measure => have := HK1.out; have := HK2.out; have := HK3.out; omega
                        case rel => exact ⟨(m : Int) + 1, (by first | rfl | (simp; done) | (simp; have := HML.out; have := FX.out.2.1; unfold wrap64; omega)), ⟨by have := HJ.out; have := HML.out; omega⟩, ⟨by have := HK3.out; omega⟩, (by first | exact HO | exact ⟨HO.out⟩), (by first | exact HB | exact ⟨HB.out⟩)⟩)
                  · have cjb : decide ((m : Int) < (C.length : Int)) = false := decide_eq_false cj
                    have cjb2 : decide (m < C.length) = false := decide_eq_false (by omega)
                    have HME := Aside0.mk cj
                    clear cj
                    go_wp2
                    go_roundg k3
                    case measure => have := HK1.out; have := HK2.out; have := HK3.out; omega
                    case rel => exact ⟨(n : Int) + 1, (by first | rfl | (simp; done) | (simp; have := HNL.out; have := FX.out.2.1; unfold wrap64; omega)), ⟨by have := HI.out; have := HJ.out; have := HNL.out; have := HME.out; have := FX.out.2.1; omega⟩, ⟨by have := HK2.out; have := HK3.out; omega⟩, (by first | exact HO | exact ⟨HO.out⟩), (by first | exact HB | exact ⟨HB.out⟩)⟩
            · have cib : decide (i < (C.length : Int)) = false := decide_eq_false ci
              clear ci
              go_wp2
              go_ret
              exact ⟨rfl, HB.out⟩
      end Go.Proofs.Ytaplkfnolimdmaa.PC.Leaf
