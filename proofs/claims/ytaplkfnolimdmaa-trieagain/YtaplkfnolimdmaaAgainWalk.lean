/- TrieAgain: the law's own function answers true. -/
import Derived.Test.YtaplkfnolimdmaaT2

import Derived.Test.YtaplkfnolimdmaaT3
import Derived.Deep.DeepCutAuto
namespace Go.Proofs.Ytaplkfnolimdmaa.Table
open Go.RowKit Go.Proofs.Ytaplkfnolimdmaa.PC Go.Proofs.YtaplkfnolimdmaaW.PrintWords Go.Proofs.YtaplkfnolimdmaaW.PrintLast Go.Proofs.YtaplkfnolimdmaaW.PrintMore Go.Proofs.YtaplkfnolimdmaaW.Bits Go.Proofs.YtaplkfnolimdmaaW.MapRaw
attribute [local go_sem] Oper.semAt_some
attribute [local go_sem] max2_int min2_int max_two min_two max_three min_three max_four min_four
set_option linter.unusedVariables false
set_option linter.unusedSimpArgs false

/-- What a world keeps through the law's walk: both tables, and the variables' boxes. -/
structure AG (w0 : World) (q : Pf) (a : Int) (gt bs ms bt mt : Nat) (Ls Lt : List (Pf × Int)) (W : World) : Prop where
  ts : TabIs W bs ms Ls
  tt : TabIs W bt mt Lt
  bq : W.heap[w0.heap.size]? = some (.cells #[.int .u32 q.1, .int .i64 q.2] 26 (0, 0))
  br : W.heap[w0.heap.size + 1]? = some (.cells #[.bool false] 4 (0, 0))
  bx : W.heap[gt]? = some (.cells #[.pointer (some ⟨bt, 0, none⟩)] 38 (0, 0))
  below : Below w0.heap.size w0 W
  ne : w0.heap.size + 1 < bs ∧ w0.heap.size + 1 < ms ∧ w0.heap.size + 1 < bt ∧ w0.heap.size + 1 < mt ∧ w0.heap.size + 1 < gt ∧ bs ≠ bt ∧ bs ≠ mt ∧ ms ≠ bt ∧ ms ≠ mt ∧ gt ≠ bs ∧ gt ≠ ms ∧ gt ≠ bt ∧ gt ≠ mt
variable {w0 : World} {q : Pf} {a : Int} {gt bs ms bt mt : Nat} {Ls Lt Ls' Lt' : List (Pf × Int)} {W W' : World}
theorem AG.to (h : AG w0 q a gt bs ms bt mt Ls Lt W) (hb : Below W.heap.size W W') : AG w0 q a gt bs ms bt mt Ls Lt W' :=
  ⟨h.ts.below hb, h.tt.below hb, blk_below h.bq hb, blk_below h.br hb, blk_below h.bx hb, h.below.trans (hb.mono h.below.size), h.ne⟩
theorem AG.puts (h : AG w0 q a gt bs ms bt mt Ls Lt W) (hT : TabIs W' bs ms Ls') (hb : But (fun k => k = bs ∨ k = ms) W W') : AG w0 q a gt bs ms bt mt Ls' Lt W' := by
  have hn := h.ne
  have e : ∀ k, k < W.heap.size → k ≠ bs → k ≠ ms → W'.heap[k]? = W.heap[k]? := fun k hk h1 h2 => hb.block k hk (fun hs => by rcases hs with hs | hs; exact h1 hs; exact h2 hs)
  have l1 := h.tt.lt
  have l2 := (Array.getElem?_eq_some_iff.1 h.bq).1
  have l3 := (Array.getElem?_eq_some_iff.1 h.br).1
  have l4 := (Array.getElem?_eq_some_iff.1 h.bx).1
  exact ⟨hT, h.tt.at (e _ l1.1 (by omega) (by omega)) (e _ l1.2 (by omega) (by omega)), (e _ l2 (by omega) (by omega)).trans h.bq, (e _ l3 (by omega) (by omega)).trans h.br, (e _ l4 (by omega) (by omega)).trans h.bx,
    h.below.trans (hb.below h.below.size (fun k hk => by rcases hk with rfl | rfl <;> omega)), hn⟩
theorem AG.putt (h : AG w0 q a gt bs ms bt mt Ls Lt W) (hT : TabIs W' bt mt Lt') (hb : But (fun k => k = bt ∨ k = mt) W W') : AG w0 q a gt bs ms bt mt Ls Lt' W' := by
  have hn := h.ne
  have e : ∀ k, k < W.heap.size → k ≠ bt → k ≠ mt → W'.heap[k]? = W.heap[k]? := fun k hk h1 h2 => hb.block k hk (fun hs => by rcases hs with hs | hs; exact h1 hs; exact h2 hs)
  have l1 := h.ts.lt
  have l2 := (Array.getElem?_eq_some_iff.1 h.bq).1
  have l3 := (Array.getElem?_eq_some_iff.1 h.br).1
  have l4 := (Array.getElem?_eq_some_iff.1 h.bx).1
  exact ⟨h.ts.at (e _ l1.1 (by omega) (by omega)) (e _ l1.2 (by omega) (by omega)), hT, (e _ l2 (by omega) (by omega)).trans h.bq, (e _ l3 (by omega) (by omega)).trans h.br, (e _ l4 (by omega) (by omega)).trans h.bx,
    h.below.trans (hb.below h.below.size (fun k hk => by rcases hk with rfl | rfl <;> omega)), hn⟩

set_option maxRecDepth 100000 in
set_option maxHeartbeats 20000000 in
theorem again_walk (A0 : Option Addr) (c0 : Nat) (l0 : List Pf) (by_ : Int) (q : Pf) (a : Int) (w : World) (hr0 : Kd.C kP w A0 l0.length l0) (hc0 : l0.length ≤ c0) (hw0 : ∀ p ∈ l0, wfP p) (hq : wfP q) (ha : 0 ≤ a ∧ a < 4294967296) :
    Calls Try.prog 6 #[.slice A0 l0.length c0, .int .i64 by_, .agg #[.int .u32 q.1, .int .i64 q.2], .int .u32 a] w fun e w' => e = .returned (.bool true) ∧ Below w.heap.size w w' := by
  have hu26 := Try.underlying26
  have HR0 := Aside0.mk hr0
  have HC0 := Aside0.mk hc0
  have HW0 := Aside0.mk hw0
  have HQ := Aside0.mk hq
  have HA := Aside0.mk ha
  clear hr0 hc0 hw0 hq ha
  have HB := Aside0.mk (((Below.refl w.heap.size w).alloc (Nat.le_refl _) (.cells #[.int .u32 q.1, .int .i64 q.2] 26)).alloc (by simp) (.cells #[.bool false] 4))
  have HX := Aside0.mk (show ((w.alloc (.cells #[.int .u32 q.1, .int .i64 q.2] 26)).alloc (.cells #[.bool false] 4)).heap[w.heap.size]? = some (.cells #[.int .u32 q.1, .int .i64 q.2] 26 (0, 0)) ∧
      ((w.alloc (.cells #[.int .u32 q.1, .int .i64 q.2] 26)).alloc (.cells #[.bool false] 4)).heap[w.heap.size + 1]? = some (.cells #[.bool false] 4 (0, 0)) from
    ⟨blk_alloc (blk_new w _) _, by have := blk_new (w.alloc (.cells #[.int .u32 q.1, .int .i64 q.2] 26)) (.cells #[.bool false] 4); rwa [World.size_alloc] at this⟩)
  obtain ⟨ji2, hji2⟩ : ∃ j_ : Int, (mn (l0.length : Int) 100) = j_ := ⟨_, rfl⟩
  have hjb : 0 ≤ ji2 ∧ ji2 ≤ 100 ∧ ji2 ≤ (l0.length : Int) := by rw [← hji2]; unfold mn; split <;> omega
  have hji2_ : (if 100 < (l0.length : Int) then 100 else (l0.length : Int)) = ji2 := hji2
  have c3b0 := eq_true hjb.1
  have c3b1 : decide (0 ≤ (ji2)) = true := decide_eq_true hjb.1
  have c4b0 := eq_true hjb.2.2
  have c4b1 : decide ((ji2) ≤ (l0.length : Int)) = true := decide_eq_true hjb.2.2
  obtain ⟨y, hy⟩ : ∃ y_ : List Pf, y_ = (l0.take ((ji2) : Int).toNat) := ⟨_, rfl⟩
  have hyl : y.length ≤ 100 := by rw [hy, List.length_take]; omega
  have hyw : ∀ p ∈ y, wfP p := fun p hp => HW0.out p (List.mem_of_mem_take (by rw [hy] at hp; exact hp))
  have q14 : ((ji2) : Int) ≤ ((l0.length : Int) : Int) := hjb.2.2
  obtain ⟨i014, hi014, _, hsz14, _⟩ := info_parts infoP
  have hcut14 := cut_to (P := Try.prog) 22 26 .i64 Try.underlying22 hi014 A0 l0.length c0 (ji2) hjb.1 q14 HC0.out
  have hr14 := Kd.C_take (m := ((ji2) : Int).toNat) HR0.out (by omega)
  have hy14 : y.length = ((ji2) : Int).toNat := (by rw [hy, List.length_take]; omega)
  rw [← hy] at hr14
  rw [← hy14] at hcut14
  have HR := Aside0.mk hr14
  have HC := Aside0.mk (show y.length ≤ c0 by have := HC0.out; omega)
  clear hr14 hi014 hsz14 hy14 hjb
  replace q14 := eq_true q14
  clear hy
  have FX := Aside0.mk (show y.length ≤ 100 ∧ (∀ p ∈ y, wfP p) from ⟨hyl, hyw⟩)
  clear hyl hyw
  obtain ⟨M, hM⟩ : ∃ M : Nat, M = 100000 := ⟨_, rfl⟩
  have HM := Aside0.mk hM
  clear hM
  refine calls_of_wp_marks Try.func6 rfl ?_
  simp only [Try.ntmps6, List.size_toArray, List.length_cons, List.length_nil, Nat.reduceAdd, Nat.reduceSub, Array.replicate_succ, Array.replicate_zero, List.push_toArray, List.append_toArray, List.nil_append, List.cons_append]
  go_wp2_with (first
    | (go_at_call 15; refine (awake_calls _).mono ?_; rintro e w1 ⟨rfl, hb⟩; have n0_ := Aside0.mk (HB.out.trans (hb.mono HB.out.size)); have n1_ := Aside0.mk (show _ ∧ _ from ⟨blk_below HX.out.1 hb, blk_below HX.out.2 hb⟩); clear HB HX hb; have HB := n0_; have HX := n1_; clear n0_ n1_)
    | (go_at_call 26; have tok := HX; refine (new_calls _).mono ?_; rintro e w2 ⟨bs, ms, rfl, hT, h1, h2, hb⟩; have TS := Aside0.mk hT; have NS := Aside0.mk (show w.heap.size + 1 < bs ∧ w.heap.size + 1 < ms ∧ w.heap.size + 1 < w2.heap.size from by have h3 := (Array.getElem?_eq_some_iff.1 HX.out.2).1; have h4 := hb.size; exact ⟨by omega, by omega, by omega⟩); have HX2 := Aside0.mk (show _ ∧ _ from ⟨blk_below HX.out.1 hb, blk_below HX.out.2 hb⟩); have HB2 := Aside0.mk (HB.out.trans (hb.mono HB.out.size)); clear HX HB tok hT h1 h2 hb)
    | (go_at_call 26; have tok := HX2; refine (new_calls _).mono ?_; rintro e w3 ⟨bt, mt, rfl, hT, h1, h2, hb⟩; have TT := Aside0.mk hT; have TS2 := Aside0.mk (TS.out.below hb); have NT := Aside0.mk (show w2.heap.size ≤ bt ∧ w2.heap.size ≤ mt from ⟨h1, h2⟩); have HX3 := Aside0.mk (show _ ∧ _ from ⟨blk_below HX2.out.1 hb, blk_below HX2.out.2 hb⟩); have HB3 := Aside0.mk (HB2.out.trans (hb.mono HB2.out.size)); clear HX2 HB2 tok hT h1 h2 hb))
  have HG := Aside0.mk (show AG w q a w3.heap.size bs ms bt mt [] [] (w3.alloc (Obj.cells #[Value.pointer (some { block := bt, off := 0 })] 38)) from by
    have hb := (Below.refl w3.heap.size w3).alloc (Nat.le_refl _) (Obj.cells #[Value.pointer (some { block := bt, off := 0 })] 38)
    have n1 := NS.out
    have n2 := NT.out
    have l1 := TS.out.lt
    have l2 := TT.out.lt
    have l3 := TS2.out.lt
    exact ⟨TS2.out.below hb, TT.out.below hb, blk_below HX3.out.1 hb, blk_below HX3.out.2 hb, blk_new w3 _, HB3.out.trans (hb.mono HB3.out.size), by omega⟩)
  obtain ⟨G, hG⟩ : ∃ G, w3.heap.size = G := ⟨_, rfl⟩
  rw [hG] at HG
  simp only [hG]
  clear TS TS2 TT NS NT HX3 HB3 HR0 HC0 HW0 c3b0 c3b1 c4b0 c4b1 q14 hcut14 hji2_ hji2 hG
  go_loopg [11] M (fun kq v11 wr => ∃ (i : Nat), v11 = .int .i64 i ∧ Aside0 (i ≤ y.length ∧ y.length + 2 ≤ kq + i) ∧ Aside0 (kq ≤ M) ∧ Aside0 (∃ Ls Lt St, AG w q a G bs ms bt mt Ls Lt wr ∧ Holds Ls (y.take i) ∧ Holds Lt St ∧ (∀ p ∈ St, p ∈ y) ∧ Ls.length ≤ i ∧ Lt.length ≤ i))
  case atStart => exact ⟨0, rfl, ⟨by have := HM.out; have := FX.out.1; omega⟩, ⟨Nat.le_refl _⟩, ⟨[], [], [], HG.out, Holds.nil, Holds.nil, by simp, by simp, by simp⟩⟩
  case round =>
    clear HG
    obtain ⟨i, rfl, HI, HK, HS⟩ := hrel
    obtain ⟨Ls, Lt, St, hG, hs, ht, hst, hls, hlt⟩ := HS.out
    have HG := Aside0.mk hG
    have HH := Aside0.mk (show Holds Ls (y.take i) ∧ Holds Lt St ∧ (∀ p ∈ St, p ∈ y) ∧ Ls.length ≤ i ∧ Lt.length ≤ i from ⟨hs, ht, hst, hls, hlt⟩)
    clear HS hG hs ht hst hls hlt
    cases gk with
    | zero => exact absurd HI.out (by omega)
    | succ k1 =>
      by_cases ci : (i : Int) < (y.length : Int)
      · have cib : decide ((i : Int) < (y.length : Int)) = true := decide_eq_true ci
        have cib2 : decide (i < y.length) = true := decide_eq_true (by omega)
        have hil : i < y.length := by omega
        obtain ⟨ad, ea, d0, d1⟩ := at_P (Kd.C_below HR.out HG.out.below) (i : Int) (by omega) (by omega)
        cases ea
        have e1 : rdP y (i : Int) = y[i] := by unfold rdP; rw [List.getD_eq_getElem?_getD, Int.toNat_natCast, List.getElem?_eq_getElem hil]; rfl
        rw [e1] at d0 d1
        simp only [Int.toNat_natCast] at d0 d1
        have HP := Aside0.mk (show wfP y[i] ∧ y.take (i + 1) = y.take i ++ [y[i]] ∧ y[i] ∈ y from ⟨FX.out.2 _ (List.getElem_mem hil), List.take_succ_eq_append_getElem hil, List.getElem_mem hil⟩)
        clear e1
        obtain ⟨p, hp⟩ : ∃ p, y[i] = p := ⟨_, rfl⟩
        rw [hp] at d0 d1 HP
        clear hp ci hil
        have hpu := wf_U HP.out.1
        have hq1 : (0 : Int) ≤ (i : Int) := by omega
        have hq2 : (i : Int) < (y.length : Int) := by have := of_decide_eq_true cib; omega
        have hyl := FX.out.1
        obtain ⟨k1_, hk1⟩ : ∃ k, (y.length : Int) - 1 - (i : Int) = k := ⟨_, rfl⟩
        obtain ⟨k2_, hk2⟩ : ∃ k, ((i : Int) * 7 + 3) % (y.length : Int) = k := ⟨_, rfl⟩
        have K1 := Aside0.mk (show (y.length : Int) - 1 - (i : Int) = k1_ ∧ 0 ≤ k1_ ∧ k1_ < (y.length : Int) from ⟨hk1, by omega, by omega⟩)
        have K2 := Aside0.mk (show ((i : Int) * 7 + 3) % (y.length : Int) = k2_ ∧ 0 ≤ k2_ ∧ k2_ < (y.length : Int) from ⟨hk2, by rw [← hk2]; exact Int.emod_nonneg _ (by omega), by rw [← hk2]; exact Int.emod_lt_of_pos _ (by omega)⟩)
        clear hk1 hk2
        go_wp2
        refine wp_region_still_tail 17 (by kernel_rfl) (by kernel_rfl) ?_
        simp only [List.take_succ_cons, List.take_zero, List.drop_succ_cons, List.drop_zero]
        rw [show ({ heap := wr.heap, tape := wr.tape, drawn := wr.drawn + 1, os := wr.os, output := wr.output } : World) = wr.drewN 1 from rfl]
        repeat still_step
        refine wpStill_nil ?_
        go_upto_region 10 with (first
          | (go_at_call 27; have tok := HP; refine (put_calls p (vOf p) HP.out.1 _ bs ms Ls (HG.out.to (pw_below_drewN (Below.refl _ _) 1)).ts (by have := HH.out.2.2.2.1; omega)).mono ?_; rintro e w5 ⟨rfl, hT5, hb5⟩; have HG5 := Aside0.mk ((HG.out.to (pw_below_drewN (Below.refl _ _) 1)).puts hT5 hb5); clear hT5 hb5 tok))
        go_cut [71] from 35 to 70 (fun s wx => (∃ b : Bool, s = .bool b) ∧ Aside0 (AG w q a G bs ms bt mt (putV Ls p) Lt wx))
        case first =>
          go_wp2
          all_goals (go_meet; exact ⟨⟨_, rfl⟩, HG5⟩)
        case rest =>
          clear HG5 HG
          obtain ⟨⟨b71, rfl⟩, HG5⟩ := hcut
          go_upto_if 71 with fail
          go_cut [12] from 35 to 77 (fun s wx => (∃ kk : Int, s = .int .i64 kk ∧ Aside0 (0 ≤ kk ∧ kk < (y.length : Int))) ∧ Aside0 (AG w q a G bs ms bt mt (putV Ls p) Lt wx))
          case first =>
            cases b71 with
            | true =>
              go_wp2
              rw [K2.out.1]
              go_meet
              exact ⟨⟨_, rfl, ⟨K2.out.2⟩⟩, HG5⟩
            | false =>
              go_wp2
              rw [K1.out.1]
              go_meet
              exact ⟨⟨_, rfl, ⟨K1.out.2⟩⟩, HG5⟩
          case rest =>
          clear HG5
          obtain ⟨⟨kk, rfl, KR⟩, HG5⟩ := hcut
          clear d0 d1
          have hkr := KR.out
          obtain ⟨ad2, ea2, d0, d1⟩ := at_P (Kd.C_below HR.out HG5.out.below) kk hkr.1 hkr.2
          cases ea2
          obtain ⟨kn, hkn⟩ : ∃ n : Nat, kk = (n : Int) := ⟨kk.toNat, by omega⟩
          subst hkn
          have hil : kn < y.length := by omega
          have e1 : rdP y (kn : Int) = y[kn] := by unfold rdP; rw [List.getD_eq_getElem?_getD, Int.toNat_natCast, List.getElem?_eq_getElem hil]; rfl
          rw [e1] at d0 d1
          simp only [Int.toNat_natCast] at d0 d1
          have HP2 := Aside0.mk (show wfP y[kn] ∧ y[kn] ∈ y from ⟨FX.out.2 _ (List.getElem_mem hil), List.getElem_mem hil⟩)
          clear e1
          obtain ⟨p2, hp2⟩ : ∃ p, y[kn] = p := ⟨_, rfl⟩
          rw [hp2] at d0 d1 HP2
          have hpu2 := wf_U HP2.out.1
          clear hp2 hil hkr hpu
          have hq3 : (0 : Int) ≤ (kn : Int) := by omega
          have hq4 : (kn : Int) < (y.length : Int) := KR.out.2
          have gx : wc.cell? ⟨G, 0, none⟩ = some (.pointer (some ⟨bt, 0, none⟩)) := by rw [blk_cell HG5.out.bx]; rfl
          go_wp2
          refine wp_region_still_tail 17 (by kernel_rfl) (by kernel_rfl) ?_
          simp only [List.take_succ_cons, List.take_zero, List.drop_succ_cons, List.drop_zero]
          rw [show ({ heap := wc.heap, tape := wc.tape, drawn := wc.drawn + 1, os := wc.os, output := wc.output } : World) = wc.drewN 1 from rfl]
          repeat still_step
          refine wpStill_nil ?_
          go_wp2_with (first
            | (go_at_call 27; have tok := HP2; refine (put_calls p2 (vOf p2) HP2.out.1 _ bt mt Lt (HG5.out.to (pw_below_drewN (Below.refl _ _) 1)).tt (by have := HH.out.2.2.2.2; omega)).mono ?_; rintro e w6 ⟨rfl, hT6, hb6⟩; have HG6 := Aside0.mk ((HG5.out.to (pw_below_drewN (Below.refl _ _) 1)).putt hT6 hb6); clear hT6 hb6 tok))
          go_roundg k1
          case measure => have := HK.out; omega
          case rel => exact ⟨i + 1, (by first | rfl | (simp; done) | go_num), ⟨by have := HI.out; have := of_decide_eq_true cib; omega⟩, ⟨by have := HK.out; omega⟩, ⟨putV Ls p, putV Lt p2, St ++ [p2], HG6.out, by rw [HP.out.2.1]; exact HH.out.1.put p, HH.out.2.1.put p2, (fun r hr => by rcases List.mem_append.1 hr with h | h; exact HH.out.2.2.1 r h; (obtain rfl : r = p2 := by simpa using h); exact HP2.out.2), Nat.le_trans (putV_len _ _) (by have := HH.out.2.2.2.1; omega), Nat.le_trans (putV_len _ _) (by have := HH.out.2.2.2.2; omega)⟩⟩
      · have cib : decide ((i : Int) < (y.length : Int)) = false := decide_eq_false ci
        have cib2 : decide (i < y.length) = false := decide_eq_false (by omega)
        have ei : i = y.length := by have := HI.out.1; omega
        have HE := Aside0.mk (show Holds Ls y from by have := HH.out.1; rwa [ei, List.take_length] at this)
        have HE2 := Aside0.mk (show Ls.length ≤ 200 ∧ Lt.length ≤ 200 from by have := HH.out.2.2.2; have := HI.out.1; have := FX.out.1; omega)
        clear ci ei
        go_wp2
        go_loopg [13] M (fun kq v13 wr => ∃ (j : Nat), v13 = .int .i64 j ∧ Aside0 (j ≤ y.length ∧ y.length + 2 ≤ kq + j) ∧ Aside0 (kq ≤ M) ∧ Aside0 (∃ Lt St, AG w q a G bs ms bt mt Ls Lt wr ∧ Holds Lt St ∧ (∀ p ∈ St, p ∈ y) ∧ (∀ p ∈ y.take j, p ∈ St) ∧ Lt.length ≤ 200 + j))
        case atStart => exact ⟨0, rfl, ⟨by have := HM.out; have := FX.out.1; omega⟩, ⟨Nat.le_refl _⟩, ⟨Lt, St, HG.out, HH.out.2.1, HH.out.2.2.1, by simp, by have := HE2.out; omega⟩⟩
        case round =>
          clear HG HH HK HI cib cib2
          obtain ⟨j, rfl, HI, HK, HS⟩ := hrel
          obtain ⟨Lt, St, hG, ht, hst, hys, hlt⟩ := HS.out
          have HG := Aside0.mk hG
          have HH := Aside0.mk (show Holds Lt St ∧ (∀ p ∈ St, p ∈ y) ∧ (∀ p ∈ y.take j, p ∈ St) ∧ Lt.length ≤ 200 + j from ⟨ht, hst, hys, hlt⟩)
          have HLS := Aside0.mk HE2.out.1
          clear HS hG ht hst hys hlt HE2
          cases gk with
          | zero => exact absurd HI.out (by omega)
          | succ k1 =>
            by_cases cj : (j : Int) < (y.length : Int)
            · have cjb : decide ((j : Int) < (y.length : Int)) = true := decide_eq_true cj
              have cjb2 : decide (j < y.length) = true := decide_eq_true (by omega)
              have hil : j < y.length := by omega
              obtain ⟨ad, ea, d0, d1⟩ := at_P (Kd.C_below HR.out HG.out.below) (j : Int) (by omega) (by omega)
              cases ea
              have e1 : rdP y (j : Int) = y[j] := by unfold rdP; rw [List.getD_eq_getElem?_getD, Int.toNat_natCast, List.getElem?_eq_getElem hil]; rfl
              rw [e1] at d0 d1
              simp only [Int.toNat_natCast] at d0 d1
              have HP := Aside0.mk (show wfP y[j] ∧ y.take (j + 1) = y.take j ++ [y[j]] ∧ y[j] ∈ y from ⟨FX.out.2 _ (List.getElem_mem hil), List.take_succ_eq_append_getElem hil, List.getElem_mem hil⟩)
              clear e1
              obtain ⟨p, hp⟩ : ∃ p, y[j] = p := ⟨_, rfl⟩
              rw [hp] at d0 d1 HP
              clear hp cj hil
              have hpu := wf_U HP.out.1
              have hq1 : (0 : Int) ≤ (j : Int) := by omega
              have hq2 : (j : Int) < (y.length : Int) := by have := of_decide_eq_true cjb; omega
              have hyl := FX.out.1
              have gx : wr.cell? ⟨G, 0, none⟩ = some (.pointer (some ⟨bt, 0, none⟩)) := by rw [blk_cell HG.out.bx]; rfl
              go_wp2
              refine wp_region_still_tail 17 (by kernel_rfl) (by kernel_rfl) ?_
              simp only [List.take_succ_cons, List.take_zero, List.drop_succ_cons, List.drop_zero]
              rw [show ({ heap := wr.heap, tape := wr.tape, drawn := wr.drawn + 1, os := wr.os, output := wr.output } : World) = wr.drewN 1 from rfl]
              repeat still_step
              refine wpStill_nil ?_
              go_wp2_with (first
                | (go_at_call 27; have tok := HP; refine (put_calls p (vOf p) HP.out.1 _ bt mt Lt (HG.out.to (pw_below_drewN (Below.refl _ _) 1)).tt (by have := HH.out.2.2.2; omega)).mono ?_; rintro e w6 ⟨rfl, hT6, hb6⟩; have HG6 := Aside0.mk ((HG.out.to (pw_below_drewN (Below.refl _ _) 1)).putt hT6 hb6); clear hT6 hb6 tok))
              go_roundg k1
              case measure => have := HK.out; omega
              case rel => exact ⟨j + 1, (by first | rfl | (simp; done) | go_num), ⟨by have := HI.out; have := of_decide_eq_true cjb; omega⟩, ⟨by have := HK.out; omega⟩, ⟨putV Lt p, St ++ [p], HG6.out, HH.out.1.put p, (fun r hr => by rcases List.mem_append.1 hr with h | h; exact HH.out.2.1 r h; (obtain rfl : r = p := by simpa using h); exact HP.out.2.2), (fun r hr => by rw [HP.out.2.1] at hr; rcases List.mem_append.1 hr with h | h; exact List.mem_append_left _ (HH.out.2.2.1 r h); exact List.mem_append_right _ h), Nat.le_trans (putV_len _ _) (by have := HH.out.2.2.2; omega)⟩⟩
            · have cjb : decide ((j : Int) < (y.length : Int)) = false := decide_eq_false cj
              have cjb2 : decide (j < y.length) = false := decide_eq_false (by omega)
              have ej : j = y.length := by have := HI.out.1; omega
              have HE3 := Aside0.mk (show (∀ p, lkL Ls p = lkL Lt p) ∧ Ls.length ≤ 200 ∧ Lt.length ≤ 400 from
                ⟨HE.out.same HH.out.1 (fun p => ⟨fun h => HH.out.2.2.1 p (by rw [ej, List.take_length]; exact h), HH.out.2.1 p⟩), HLS.out, by have := HH.out.2.2.2; have := FX.out.1; omega⟩)
              clear cj ej HH HE HK HI HLS HR HC FX
              have gx : wr.cell? ⟨G, 0, none⟩ = some (.pointer (some ⟨bt, 0, none⟩)) := by rw [blk_cell HG.out.bx]; rfl
              have gq0 : wr.cell? ⟨w.heap.size, 0, none⟩ = some (.int .u32 q.1) := by rw [blk_cell HG.out.bq]; rfl
              have gq1 : wr.cell? ⟨w.heap.size, 1, none⟩ = some (.int .i64 q.2) := by rw [blk_cell HG.out.bq]; rfl
              obtain ⟨qc, hqc⟩ : ∃ c, Leaf.chk q.1 q.2 = c := ⟨_, rfl⟩
              have HCK := Aside0.mk (show ∃ k, waymarkref01_Check.f k q.1 q.2 = some qc from by rw [← hqc]; exact (Leaf.ev_Check q.1 q.2 (wf_U HQ.out).1 (wf_U HQ.out).2).rounds)
              obtain ⟨kc, hkc⟩ := HCK.out
              have HKC := Aside0.mk hkc
              have HQC := Aside0.mk hqc
              clear HCK hkc hqc
              have HAT := Aside0.mk (fun W h => at_calls q HQ.out W bt mt Lt h)
              obtain ⟨vd, hvd⟩ : ∃ v, (lkL Lt q).getD 0 = v := ⟨_, rfl⟩
              obtain ⟨vb, hvb⟩ : ∃ v, (lkL Lt q).isSome = v := ⟨_, rfl⟩
              rw [hvd, hvb] at HAT
              have HVB := Aside0.mk hvb
              clear hvd hvb
              go_upto_region 18 with (first
                | (go_at_call 23; refine (HAT.out _ HG.out.tt).mono ?_; rintro e w7 ⟨rfl, hb7⟩; have HG7 := Aside0.mk (HG.out.to hb7); have ga7 := (by rw [blk_cell HG7.out.bq]; rfl : w7.cell? ⟨w.heap.size, 0, none⟩ = some (.int .u32 q.1)); have gb7 := (by rw [blk_cell HG7.out.bq]; rfl : w7.cell? ⟨w.heap.size, 1, none⟩ = some (.int .i64 q.2)); clear hb7 gx gq0 gq1 HAT HG))
              go_cut [132] from 126 to 131 (fun s wx => (∃ b : Bool, s = .bool b ∧ Aside0 (b = true → lkL Lt q = none ∧ qc = 0)) ∧ Aside0 (AG w q a G bs ms bt mt Ls Lt wx))
              case first =>
                cases vb with
                | true =>
                  go_wp2
                  go_meet
                  exact ⟨⟨_, rfl, ⟨fun h => by simp at h⟩⟩, HG7⟩
                | false =>
                  go_wp2_with (first
                    | (go_at_call 28; refine (waymarkref01_Check.calls kc _ _ _ _ HKC.out).mono ?_; rintro e w8 ⟨rfl, hb8⟩; have HG8 := Aside0.mk (HG7.out.to hb8); clear hb8 ga7 gb7))
                  all_goals (
                    go_meet
                    exact ⟨⟨_, rfl, ⟨fun h => ⟨by have := HVB.out; cases hl : lkL Lt q with | none => rfl | some v0 => (rw [hl] at this; cases this), by simpa using h⟩⟩⟩, HG8⟩)
              case rest =>
              clear HG7 ga7 gb7
              obtain ⟨⟨b132, rfl, HBQ⟩, HG⟩ := hcut
              have gx : wc.cell? ⟨G, 0, none⟩ = some (.pointer (some ⟨bt, 0, none⟩)) := by rw [blk_cell HG.out.bx]; rfl
              have gq0 : wc.cell? ⟨w.heap.size, 0, none⟩ = some (.int .u32 q.1) := by rw [blk_cell HG.out.bq]; rfl
              have gq1 : wc.cell? ⟨w.heap.size, 1, none⟩ = some (.int .i64 q.2) := by rw [blk_cell HG.out.bq]; rfl
              go_upto_if 132 with fail
              go_cut [132] from 133 to 139 (fun s wx => Aside0 (∃ Lf, AG w q a G bs ms bt mt Ls Lf wx ∧ (∀ p, lkL Ls p = lkL Lf p) ∧ Ls.length ≤ 200 ∧ Lf.length ≤ 500))
              case first =>
                obtain ⟨w8, hw8⟩ : ∃ w8, wc = w8 := ⟨_, rfl⟩
                subst hw8
                cases b132 with
                | true =>
                  obtain ⟨hno, hqz⟩ := HBQ.out rfl
                  subst hqz
                  have HNO := Aside0.mk hno
                  have hq0 : chk q.1 q.2 = 0 := HQC.out
                  have HPT := Aside0.mk (fun W h => by have := put_calls q 5 HQ.out W bt mt Lt h (by have := HE3.out.2.2; omega); rw [hq0, if_pos rfl] at this; exact this)
                  have HDR := Aside0.mk (fun W h => drop_calls q 5 HQ.out W bt mt (putL Lt q 5) h (by rw [lk_put, if_pos rfl]) hq0 (by have := put_len Lt q 5; have := HE3.out.2.2; omega))
                  clear hq0 hno HBQ
                  go_wp2_with (first
                    | (go_at_call 27; refine (HPT.out _ HG.out.tt).mono ?_; rintro e w9 ⟨rfl, hT9, hb9⟩; have HG9 := Aside0.mk (HG.out.putt hT9 hb9); have gx9 := (by rw [blk_cell HG9.out.bx]; rfl : w9.cell? ⟨G, 0, none⟩ = some (.pointer (some ⟨bt, 0, none⟩))); have ga9 := (by rw [blk_cell HG9.out.bq]; rfl : w9.cell? ⟨w.heap.size, 0, none⟩ = some (.int .u32 q.1)); have gb9 := (by rw [blk_cell HG9.out.bq]; rfl : w9.cell? ⟨w.heap.size, 1, none⟩ = some (.int .i64 q.2)); clear hT9 hb9 gx gq0 gq1)
                    | (go_at_call 29; refine (HDR.out _ HG9.out.tt).mono ?_; rintro e w10 ⟨rfl, hT10, hb10⟩; have HG10 := Aside0.mk (HG9.out.putt hT10 hb10); clear hT10 hb10 gx9 ga9 gb9))
                  go_meet
                  exact ⟨⟨_, HG10.out, fun p => (HE3.out.1 p).trans (trace 5 (HG9.out.tt.map.nodup keyP) HNO.out p).symm, HE3.out.2.1, by have := del_len (putL Lt q 5) q; have := put_len Lt q 5; have := HE3.out.2.2; omega⟩⟩
                | false =>
                  go_wp2
                  go_meet
                  exact ⟨⟨Lt, HG.out, HE3.out.1, HE3.out.2.1, by have := HE3.out.2.2; omega⟩⟩
              case rest =>
                have HF := hcut
                clear hcut HG HE3 HBQ gx gq0 gq1
                obtain ⟨Lf, hG, hsame, hl1, hl2⟩ := HF.out
                have HG := Aside0.mk hG
                have hlen := len_same (hG.ts.map.nodup keyP) (hG.tt.map.nodup keyP) hsame
                have HQ1 := Aside0.mk (fun n => Calls.quiet_of_same (w := wc) (n := n) (len_calls (wc.drewN n) bs ms Ls (hG.to (pw_below_drewN (Below.refl _ _) n)).ts))
                have HQ2 := Aside0.mk (fun n => Calls.quiet_of_same (w := wc) (n := n) (by have := len_calls (wc.drewN n) bt mt Lf (hG.to (pw_below_drewN (Below.refl _ _) n)).tt; rw [← hlen] at this; exact this))
                have HSM := Aside0.mk (show (∀ p, lkL Ls p = lkL Lf p) ∧ Ls.length ≤ 200 ∧ Lf.length ≤ 500 from ⟨hsame, hl1, hl2⟩)
                have gxA : wc.cell? ⟨G, 0, none⟩ = some (.pointer (some ⟨bt, 0, none⟩)) := by rw [blk_cell hG.bx]; rfl
                clear HF hG hlen hsame hl1 hl2
                go_wp2
                go_quiet (first | (with_reducible exact HQ1.out _) | (with_reducible exact HQ2.out _) | exact HQ1.out _ | exact HQ2.out _)
                have HG1 := Aside0.mk (HG.out.to (pw_below_drewN (Below.refl _ _) nq))
                clear HG gxA HQ1 HQ2
                go_wp2_with (first
                  | (go_at_call 22; refine (All_calls _ bs ms Ls HG1.out.ts (by have := HSM.out.2.1; omega)).mono ?_; rintro e w20 ⟨f, lp, rfl, hp, hit, hb⟩; have HG2 := Aside0.mk (HG1.out.to hb); have HPM := Aside0.mk hp; have HIT := Aside0.mk hit; clear hp hit hb HG1))
                have hrl : (rowsOf Ls (sortP lp)).length ≤ 1000000 := by
                  have h1 := (sortP_perm lp).length_eq
                  have h2 := HPM.out.length_eq
                  have h3 := HSM.out.2.1
                  unfold rowsOf
                  rw [List.length_map] at h2 ⊢
                  omega
                have HRW := Aside0.mk (show ∀ x ∈ rowsOf Ls (sortP lp), lkL Lf x.1 = some x.2 ∧ wfP x.1 from fun x hx => by
                  have h1 := rows_at HPM.out hx
                  exact ⟨by rw [← HSM.out.1]; exact h1, HG2.out.ts.wf x.1 (lk_mem_iff.1 (by rw [h1]; rfl))⟩)
                have HRL := Aside0.mk hrl
                clear hrl HPM
                refine range_read (b1 := 16) (v2 := 17) rfl HIT.out HRL.out ?_ ?_ ?_
                · intro l x W Bx K hBx hK
                  simp only [frameOf, List.setIfInBounds_toArray, List.set_cons_zero, List.set_cons_succ] at hK ⊢
                  gi_wp2
                  (try simp only [hBx])
                  exact hK
                · intro l x Bx W hx hI bX
                  have hGW := HG2.out.to hI
                  have g0 : W.cell? ⟨G, 0, none⟩ = some (.pointer (some ⟨bt, 0, none⟩)) := by rw [blk_cell hGW.bx]; rfl
                  have x0 : W.cell? ⟨Bx, 0, none⟩ = some (.int .u32 x.1.1) := by rw [blk_cell bX]; rfl
                  have x1 : W.cell? ⟨Bx, 1, none⟩ = some (.int .i64 x.1.2) := by rw [blk_cell bX]; rfl
                  obtain ⟨h1, h2⟩ := HRW.out x hx
                  have HAT2 := Aside0.mk (show Calls Try.prog 23 #[.pointer (some ⟨bt, 0, none⟩), .agg #[.int .u32 x.1.1, .int .i64 x.1.2]] W fun e w' => e = .returned (.tuple #[.int .i64 x.2, .bool true]) ∧ Below W.heap.size W w' from by
                    have := at_calls x.1 h2 W bt mt Lf hGW.tt
                    rw [h1] at this
                    exact this)
                  clear h1 h2 hGW bX hI hx
                  simp only [frameOf, List.setIfInBounds_toArray, List.set_cons_zero, List.set_cons_succ]
                  gi_wp2_with ((refine ⟨trivial, ?_⟩; gi_at_call 23; refine (CallsIn.inRound l (callsIn_wide.2 HAT2.out)).mono ?_; rintro e W2 ⟨rfl, hb⟩; have HB2 := Aside0.mk hb; clear hb))
                  exact HB2.out
                intro D w21 hD hK hb
                have HG3 := Aside0.mk (HG2.out.to hb)
                have HD := Aside0.mk (show w.heap.size + 1 < D ∧ w21.heap[D]? = some (.deferred (some [])) from ⟨by have := (Array.getElem?_eq_some_iff.1 HG2.out.br).1; omega, hK⟩)
                obtain ⟨u, hu⟩ : ∃ u, longest Ls a = u := ⟨_, rfl⟩
                have HL1 := Aside0.mk (fun W h => by have := longest_calls a HA.out W bs ms Ls h; rw [hu] at this; simp only [eP] at this; exact this)
                have HL2 := Aside0.mk (fun W h => by have := longest_calls a HA.out W bt mt Lf h; rw [← longest_same HSM.out.1, hu] at this; simp only [eP] at this; exact this)
                have heq : ∀ W, (binOp BinOp.eql 26 (.agg #[.int .u32 u.1.1, .int .i64 u.1.2]) (.agg #[.int .u32 u.1.1, .int .i64 u.1.2])).run Try.prog W = .ok (.bool true) W := fun W => eql_P u.1 W
                clear hD hK hb hu HG2 HIT HRW HRL
                go_wp2_with (first
                  | (go_at_call 21; have tok := HG3; refine (HL1.out _ HG3.out.ts).mono ?_; rintro e w22 ⟨rfl, hb⟩; have HB22 := Aside0.mk hb; have HG4 := Aside0.mk ((HG3.out.to hb).to ((Below.refl w22.heap.size w22).alloc (Nat.le_refl _) (Obj.cells #[Value.int .u32 u.1.1, Value.int .i64 u.1.2] 26))); have HX4 := Aside0.mk (blk_new w22 (Obj.cells #[Value.int .u32 u.1.1, Value.int .i64 u.1.2] 26)); have gx4 := (by rw [blk_cell HG4.out.bx]; rfl : (w22.alloc (Obj.cells #[Value.int .u32 u.1.1, Value.int .i64 u.1.2] 26)).cell? ⟨G, 0, none⟩ = some (.pointer (some ⟨bt, 0, none⟩))); clear tok hb HL1)
                  | (go_at_call 21; have tok := HG4; refine (HL2.out _ HG4.out.tt).mono ?_; rintro e w23 ⟨rfl, hb⟩; have HB23 := Aside0.mk hb; have hx5 := blk_alloc (blk_below HX4.out hb) (Obj.cells #[Value.int .u32 u.1.1, Value.int .i64 u.1.2] 26); have HG5 := Aside0.mk ((HG4.out.to hb).to ((Below.refl w23.heap.size w23).alloc (Nat.le_refl _) (Obj.cells #[Value.int .u32 u.1.1, Value.int .i64 u.1.2] 26))); have k0 := (by rw [blk_cell hx5]; rfl : (w23.alloc (Obj.cells #[Value.int .u32 u.1.1, Value.int .i64 u.1.2] 26)).cell? ⟨w22.heap.size, 0, none⟩ = some (.int .u32 u.1.1)); have k1 := (by rw [blk_cell hx5]; rfl : (w23.alloc (Obj.cells #[Value.int .u32 u.1.1, Value.int .i64 u.1.2] 26)).cell? ⟨w22.heap.size, 1, none⟩ = some (.int .i64 u.1.2)); have HFD := Aside0.mk (show ((w23.alloc (Obj.cells #[Value.int .u32 u.1.1, Value.int .i64 u.1.2] 26)).setCell ⟨w.heap.size + 1, 0, none⟩ (.bool true)).heap[D]? = some (.deferred (some [])) from by have h1 := (Array.getElem?_eq_some_iff.1 HD.out.2).1; have h2 := HB22.out.size; have h3 := HB23.out.size; simp at h3; rw [Below.heap_setCell _ _ _ _ (fun e => by have := HD.out.1; simp at e; omega)]; exact (Below.heap_alloc _ _ _ (by omega)).trans ((HB23.out.block _ (by simp; omega)).trans ((Below.heap_alloc _ _ _ (by omega)).trans ((HB22.out.block _ h1).trans HD.out.2)))); have rc := blk_cell HG5.out.br 0; have rf := blk_frozen HG5.out.br 0; clear tok hb hx5 gx4 HL2))
                refine leaves_taken [D] _ (by simp) (fun D' hD' => by have e : D' = D := (by simpa using hD'); rw [e]; exact HFD.out) ?_
                intro W' hb
                have hb2 := blk_put HG5.out.br 0 (.bool true) rfl
                have hsz := (Array.getElem?_eq_some_iff.1 hb2).1
                have hb3 := (hb.block _ hsz (fun h => by have := HD.out.1; simp at h; omega)).trans hb2
                have hc : W'.cell? ⟨w.heap.size + 1, 0, none⟩ = some (.bool true) := by rw [blk_cell hb3]; rfl
                refine ⟨.bool true, ?_, rfl, ?_⟩
                · simp [results, Try.f6, go_sem, hc]
                · exact (HG5.out.below.setCell (p := ⟨w.heap.size + 1, 0, none⟩) (by simp) _).trans (hb.below (by omega) (fun k hk => by have := HD.out.1; simp at hk; omega))
end Go.Proofs.Ytaplkfnolimdmaa.Table
