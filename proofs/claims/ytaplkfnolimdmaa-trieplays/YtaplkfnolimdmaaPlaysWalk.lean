/- TriePlays: the law's own function answers true. -/
import Derived.Test.YtaplkfnolimdmaaT4
import Derived.Deep.CutBlock
namespace Go.Proofs.Ytaplkfnolimdmaa.Table
open Go.RowKit Go.Proofs.Ytaplkfnolimdmaa.PC Go.Proofs.YtaplkfnolimdmaaW.PrintWords Go.Proofs.YtaplkfnolimdmaaW.PrintLast Go.Proofs.YtaplkfnolimdmaaW.PrintMore Go.Proofs.YtaplkfnolimdmaaW.Bits Go.Proofs.YtaplkfnolimdmaaW.MapRaw
set_option linter.unusedVariables false
set_option linter.unusedSimpArgs false

/-- A step: kind, prefix, value. -/
abbrev Stp := Int × (Pf × Int)
def kSt : Kd Stp := Kd.pair (Kd.int .i64) kRow
theorem kSt_open {w : World} {x : Stp} {cs : List Value} (h : kSt.K w x cs) : cs = [.int .i64 x.1, .int .u32 x.2.1.1, .int .i64 x.2.1.2, .int .i64 x.2.2] := by
  obtain ⟨a, b, rfl, rfl, h2⟩ := h
  rw [kRow_open h2]
  rfl
def rdS (xs : List Stp) (i : Int) : Stp := xs.getD i.toNat (0, ((0, 0), 0))
theorem at_S {w : World} {A : Option Addr} {n : Nat} {xs : List Stp} (h : Kd.C kSt w A n xs) (i : Int) (h0 : 0 ≤ i) (h1 : i < n) : ∃ ad, A = some ad ∧ w.cell? (ad.add (i.toNat * 4)) = some (.int .i64 (rdS xs i).1) ∧ w.cell? ⟨(ad.add (i.toNat * 4)).block, (ad.add (i.toNat * 4)).off + 1, none⟩ = some (.int .u32 (rdS xs i).2.1.1) ∧
    w.cell? ⟨(ad.add (i.toNat * 4)).block, (ad.add (i.toNat * 4)).off + 2, none⟩ = some (.int .i64 (rdS xs i).2.1.2) ∧ w.cell? ⟨(ad.add (i.toNat * 4)).block, (ad.add (i.toNat * 4)).off + 3, none⟩ = some (.int .i64 (rdS xs i).2.2) := by
  obtain ⟨ad, c, e, _, hK, hc0⟩ := Kd.C_get h (0, ((0, 0), 0)) i h0 h1
  have hc : ∀ j u, c[j]? = some u → w.cell? (ad.add (i.toNat * 4 + j)) = some u := hc0
  obtain rfl := kSt_open hK
  exact ⟨ad, e, hc 0 _ rfl, by rw [← add_field _ _ 1 (by omega)]; exact hc 1 _ rfl, by rw [← add_field _ _ 2 (by omega)]; exact hc 2 _ rfl, by rw [← add_field _ _ 3 (by omega)]; exact hc 3 _ rfl⟩
def rdI (xs : List Int) (i : Int) : Int := xs.getD i.toNat 0
theorem at_I {w : World} {A : Option Addr} {n : Nat} {xs : List Int} (h : Kd.C (Kd.int .u32) w A n xs) (i : Int) (h0 : 0 ≤ i) (h1 : i < n) : ∃ ad, A = some ad ∧ w.cell? (ad.add i.toNat) = some (.int .u32 (rdI xs i)) := by
  obtain ⟨ad, c, e, _, hK, hc0⟩ := Kd.C_get h 0 i h0 h1
  have hc : ∀ j u, c[j]? = some u → w.cell? (ad.add (i.toNat * 1 + j)) = some u := hc0
  have hK' : c = [.int .u32 (rdI xs i)] := hK
  subst hK'
  refine ⟨ad, e, ?_⟩
  have := hc 0 _ rfl
  simpa using this
/-- The table, the rows wanted, and what stood when the round began. -/
structure PL (w0 : World) (bt bm : Nat) (L : List (Pf × Int)) (v8 : Value) (R : List Row) (W : World) : Prop where
  tt : TabIs W bt bm L
  same : Same R L
  r8 : Kd.R kRow 101 W w0.heap.size (fun _ => True) v8 R
  below : Below w0.heap.size w0 W
  ne : w0.heap.size ≤ bt ∧ w0.heap.size ≤ bm
structure PI (w0 : World) (v10 f11 f12 : Value) (Rw : List Row) (x : Int) (W : World) : Prop where
  r10 : Kd.R kRow 101 W w0.heap.size (fun _ => True) v10 Rw
  i11 : IterAt w0.heap.size W f11 Rw
  i12 : IterAt w0.heap.size W f12 (overR Rw x 33)
section
variable {w0 : World} {bt bm : Nat} {L L' : List (Pf × Int)} {v8 v8' v10 f11 f12 : Value} {R R' Rw : List Row} {x : Int} {W W' : World}
theorem PL.to (h : PL w0 bt bm L v8 R W) (hb : Below W.heap.size W W') : PL w0 bt bm L v8 R W' := ⟨h.tt.below hb, h.same, Kd.R_below h.r8 hb, h.below.trans (hb.mono h.below.size), h.ne⟩
theorem PI.to (h : PI w0 v10 f11 f12 Rw x W) (hb : Below W.heap.size W W') : PI w0 v10 f11 f12 Rw x W' := ⟨Kd.R_below h.r10 hb, h.i11.below hb, h.i12.below hb⟩
theorem PI.but (h : PI w0 v10 f11 f12 Rw x W) (hT : TabIs W bt bm L) (hb : But (fun k => k = bt ∨ k = bm) W W') : PI w0 v10 f11 f12 Rw x W' := ⟨R_but h.r10 hT hb (by decide), h.i11.but hT hb, h.i12.but hT hb⟩
end

set_option maxRecDepth 100000 in
set_option maxHeartbeats 40000000 in
theorem plays_walk (A0 : Option Addr) (c0 : Nat) (l : List Stp) (A1 : Option Addr) (c1 : Nat) (addrs : List Int) (leave : Int) (w : World) (hr0 : Kd.C kSt w A0 l.length l) (hw0 : ∀ s ∈ l, wfP s.2.1) (hl0 : l.length ≤ 140737488355328) (hr1 : Kd.C (Kd.int .u32) w A1 addrs.length addrs) (hw1 : ∀ a ∈ addrs, 0 ≤ a ∧ a < 4294967296) (hl1 : addrs.length ≤ 140737488355328) :
    Calls Try.prog 7 #[.slice A0 l.length c0, .slice A1 addrs.length c1, .int .i64 leave] w fun e w' => e = .returned (.bool true) ∧ Below w.heap.size w w' := by
  have hu26 := Try.underlying26
  have hu101 := Try.underlying101
  have huS := Try.underlying59
  have HR0 := Aside0.mk hr0
  have HW0 := Aside0.mk hw0
  have HR1 := Aside0.mk hr1
  have HW1 := Aside0.mk hw1
  have HL := Aside0.mk (show l.length ≤ 140737488355328 ∧ addrs.length ≤ 140737488355328 from ⟨hl0, hl1⟩)
  clear hr0 hw0 hr1 hw1 hl0 hl1
  obtain ⟨M, hM⟩ : ∃ M : Nat, M = l.length + 2 := ⟨_, rfl⟩
  have HM := Aside0.mk hM
  clear hM
  go_enter Try.func7, Try.ntmps7
  go_wp2_with (first
    | (go_at_call 26; refine (new_calls _).mono ?_; rintro e w1 ⟨bt, bm, rfl, hT, h1, h2, hb⟩; have HG := Aside0.mk (show PL w bt bm [] (.slice none 0 0) [] w1 from ⟨hT, ⟨CanonOf.nil, by simp, by simp, fun p v h => (by cases h), by simp⟩, Kd.R_nil _ _ _ _ _, hb, h1, h2⟩); clear hT h1 h2 hb))
  go_loopg [8, 9] M (fun kq v8 v9 wr => ∃ (i : Nat) (L : List (Pf × Int)) (R : List Row), v9 = .int .i64 i ∧ Aside0 (i ≤ l.length ∧ i ≤ 120 ∧ l.length + 2 ≤ kq + i) ∧ Aside0 (kq ≤ M) ∧ Aside0 (PL w bt bm L v8 R wr) ∧ Aside0 (R.length ≤ i))
  case atStart => exact ⟨0, [], [], rfl, ⟨by have := HM.out; omega⟩, ⟨Nat.le_refl _⟩, HG, ⟨by simp⟩⟩
  case round =>
    clear HG
    obtain ⟨i, L, R, rfl, HI, HK, HG, HRL⟩ := hrel
    cases gk with
    | zero => exact absurd HI.out (by omega)
    | succ k1 =>
      by_cases hlt : i < l.length ∧ i < 120
      · obtain ⟨hlt, h120⟩ := hlt
        have ci1 : decide ((i : Int) < (l.length : Int)) = true := decide_eq_true (by omega)
        have ci2 : decide (i < l.length) = true := decide_eq_true hlt
        have ci3 : decide ((i : Int) < 120) = true := decide_eq_true (by omega)
        have ci4 : decide (i < 120) = true := decide_eq_true h120
        obtain ⟨ad, ea, _⟩ := at_S HR0.out (i : Int) (by omega) (by omega)
        cases ea
        have e1 : rdS l (i : Int) = l[i] := by unfold rdS; rw [List.getD_eq_getElem?_getD, Int.toNat_natCast, List.getElem?_eq_getElem hlt]; rfl
        have HP := Aside0.mk (HW0.out _ (List.getElem_mem hlt))
        obtain ⟨⟨kd, p, v⟩, hst⟩ : ∃ s, l[i] = s := ⟨_, rfl⟩
        rw [hst] at e1 HP
        have HP2 := Aside0.mk (show wfP p from HP.out)
        clear HP
        have HP := HP2
        clear HP2
        have HCL := Aside0.mk (fun W (hb : Below w.heap.size w W) => (show W.cell? (ad.add (i * 4)) = some (.int .i64 kd) ∧ W.cell? ⟨(ad.add (i * 4)).block, (ad.add (i * 4)).off + 1, none⟩ = some (.int .u32 p.1) ∧ W.cell? ⟨(ad.add (i * 4)).block, (ad.add (i * 4)).off + 2, none⟩ = some (.int .i64 p.2) ∧ W.cell? ⟨(ad.add (i * 4)).block, (ad.add (i * 4)).off + 3, none⟩ = some (.int .i64 v) from by
          obtain ⟨ad2, e2, d0⟩ := at_S (Kd.C_below HR0.out hb) (i : Int) (by omega) (by omega)
          cases e2
          rw [e1] at d0
          exact d0))
        clear e1 hst
        have hq1 : (0 : Int) ≤ (i : Int) := by omega
        have hq2 : (i : Int) < (l.length : Int) := by omega
        have hq3 : (i : Int) ≤ 120 := by omega
        have HQ := Aside0.mk (show i < l.length ∧ i < 120 from ⟨hlt, h120⟩)
        clear h120 hlt
        have HPU := Aside0.mk (wf_U HP.out)
        have HSR := Aside0.mk (show R.length ≤ 1000 ∧ (∀ r ∈ R, wfP r.1) ∧ (overR R p.1 33).length ≤ 1000 from ⟨HG.out.same.len, HG.out.same.wfR, by rw [HG.out.same.can.over HPU.out HG.out.same.wf HG.out.same.ok 33 (Nat.le_refl _), rowsOf_length]; have := overL_len L p.1 33; omega⟩)
        have HAL := Aside0.mk (fun W (hb : Below wr.heap.size wr W) => (All_calls W bt bm L (HG.out.to hb).tt (by have := HG.out.same.lenL; omega)).mono (fun e w' ⟨f, lp, h1, h2, h3, h4⟩ => (show ∃ f, e = Ending.returned f ∧ IterAt w.heap.size w' f R ∧ Below W.heap.size W w' from ⟨f, h1, by rw [HG.out.same.can.all HG.out.same.nd h2] at h3; exact h3.low (HG.out.to hb).below.size, h4⟩)))
        have HOV := Aside0.mk (fun W (hb : Below wr.heap.size wr W) => (Over_calls p.1 HPU.out W bt bm L (HG.out.to hb).tt).mono (fun e w' ⟨f, h1, h3, h4⟩ => (show ∃ f, e = Ending.returned f ∧ IterAt w.heap.size w' f (overR R p.1 33) ∧ Below W.heap.size W w' from ⟨f, h1, by rw [← HG.out.same.can.over HPU.out HG.out.same.wf HG.out.same.ok 33 (Nat.le_refl _)] at h3; exact h3.low (HG.out.to hb).below.size, h4⟩)))
        go_upto_region 8 with fail
        go_cut [10, 11, 12] from 22 to 42 (fun s10 s11 s12 wx => s10 = u8 ∧ Aside0 (PL w bt bm L u8 R wx) ∧ Aside0 (PI w u8 s11 s12 R p.1 wx))
        case first =>
          have HBW := Aside0.mk (Below.refl wr.heap.size wr).drew
          have HCE := Aside0.mk (fun W (hb : Below wr.heap.size wr W) => (show W.cell? ⟨(ad.add (i * 4)).block, (ad.add (i * 4)).off + 1, none⟩ = some (.int .u32 p.1) ∧ Aside0 (Below wr.heap.size wr W) from ⟨(HCL.out W (HG.out.to hb).below).2.1, ⟨hb⟩⟩))
          go_region_held3 (fun W => W.cell? ⟨(ad.add (i * 4)).block, (ad.add (i * 4)).off + 1, none⟩ = some (.int .u32 p.1) ∧ Aside0 (Below wr.heap.size wr W))
            (exact HCE.out _ HBW.out)
            (first
              | (go_at_call 22; refine (HAL.out _ HBW.out).mono ?_; rintro e w10 ⟨f1, rfl, hit, hb⟩; have HITa := Aside0.mk hit; clear hit; have n_ := Aside0.mk (HBW.out.trans (hb.mono HBW.out.size)); clear HBW; have HBW := n_; clear n_)
              | (go_at_call 24; refine (HOV.out _ HBW.out).mono ?_; rintro e w11 ⟨f2, rfl, hit, hb⟩; have HITb := Aside0.mk hit; have HIT2 := Aside0.mk (HITa.out.below hb); clear hit; have n_ := Aside0.mk (HBW.out.trans (hb.mono HBW.out.size)); clear HBW; have HBW := n_; clear n_)
              | fail)
          all_goals (
            have HF := Aside0.mk (HG.out.to HBW.out)
            clear HBW HG HAL HOV HCE
            go_wp2
            go_meet
            exact ⟨rfl, HF, ⟨HF.out.r8, HIT2.out, HITb.out⟩⟩)
        case rest =>
          clear HG HAL HOV
          obtain ⟨rfl, HG, HPI⟩ := hcut
          obtain ⟨wd, hwd⟩ : ∃ wd, wc = wd := ⟨_, rfl⟩
          rw [hwd] at HG HPI
          rw [hwd]
          clear hwd wc
          have c1 := (HCL.out _ HG.out.below).1
          go_upto_block 2 with fail
          go_cut [8, 13, 14, 15, 16, 17] from 48 to 153 (fun s8 s13 s14 s15 s16 s17 wx => ∃ (L' : List (Pf × Int)) (R' : List Row) (ee : Int), s13 = .int .i64 ee ∧ s14 = .int .i64 ee ∧ Aside0 (PL w bt bm L' s8 R' wx) ∧ Aside0 (PI w u10 u11 u12 R p.1 wx) ∧ Aside0 (R'.length ≤ i + 1))
          case first =>
            clear c1
            obtain ⟨A8, c8, e8⟩ := Kd.R_slice HG.out.r8
            subst e8
            obtain ⟨c1, c2, c3, c4⟩ := HCL.out _ HG.out.below
            by_cases k0 : kd = 0
            · subst k0
              by_cases hc : chk p.1 p.2 = 0
              · have HPT := Aside0.mk (fun W h => by have := put_calls p v HP.out W bt bm L h (by have := HG.out.same.lenL; omega); rw [hc, if_pos rfl] at this; exact this)
                have HC := Aside0.mk hc
                clear hc
                go_wp2
                refine wp_region_still_tail 11 (by kernel_rfl) (by kernel_rfl) ?_
                simp only [List.take_succ_cons, List.take_zero, List.drop_succ_cons, List.drop_zero]
                rw [show ({ heap := wd.heap, tape := wd.tape, drawn := wd.drawn + 1, os := wd.os, output := wd.output } : World) = wd.drewN 1 from rfl]
                repeat still_step
                refine wpStill_nil ?_
                have HG1 := Aside0.mk (HG.out.to (pw_below_drewN (Below.refl _ _) 1))
                have HPI1 := Aside0.mk (HPI.out.to (pw_below_drewN (Below.refl _ _) 1))
                clear c1 c2 c3 c4
                go_wp2_with (first
                  | (go_at_call 27; have tok := HG1; refine (HPT.out _ HG1.out.tt).mono ?_; rintro e w5 ⟨rfl, hT5, hb5⟩; have HT5 := Aside0.mk hT5; have HR5 := Aside0.mk (R_but HG1.out.r8 HG1.out.tt hb5 (by decide)); have HPI5 := Aside0.mk (HPI1.out.but HG1.out.tt hb5); have HB5 := Aside0.mk (HG1.out.below.trans (hb5.below HG1.out.below.size (fun k hk => by have := HG1.out.ne; rcases hk with rfl | rfl <;> omega))); obtain ⟨c1, c2, c3, c4⟩ := HCL.out _ HB5.out; clear tok hT5 hb5 HG1 HPI1))
                go_wp2
                have HBW := Aside0.mk ((Below.refl w5.heap.size w5)).drew
                have HCE := Aside0.mk (fun W (hb : Below w5.heap.size w5 W) => (show W.cell? ⟨(ad.add (i * 4)).block, (ad.add (i * 4)).off + 1, none⟩ = some (.int .u32 p.1) ∧ W.cell? ⟨(ad.add (i * 4)).block, (ad.add (i * 4)).off + 2, none⟩ = some (.int .i64 p.2) ∧ W.cell? ⟨(ad.add (i * 4)).block, (ad.add (i * 4)).off + 3, none⟩ = some (.int .i64 v) ∧ Aside0 (Below w5.heap.size w5 W) from by
                  obtain ⟨_, d2, d3, d4⟩ := HCL.out W (HB5.out.trans (hb.mono HB5.out.size))
                  exact ⟨d2, d3, d4, ⟨hb⟩⟩))
                go_region_held3 (fun W => W.cell? ⟨(ad.add (i * 4)).block, (ad.add (i * 4)).off + 1, none⟩ = some (.int .u32 p.1) ∧ W.cell? ⟨(ad.add (i * 4)).block, (ad.add (i * 4)).off + 2, none⟩ = some (.int .i64 p.2) ∧ W.cell? ⟨(ad.add (i * 4)).block, (ad.add (i * 4)).off + 3, none⟩ = some (.int .i64 v) ∧ Aside0 (Below w5.heap.size w5 W))
                  (exact HCE.out _ HBW.out)
                  (first
                    | (go_at_call 31; refine (refPut_calls A8 c8 R p v _ (Kd.C_below (Kd.R_reads' HR5.out).2.2 HBW.out) (by have := HG.out.same.len; omega) HP.out HC.out).mono ?_; rintro e w6 ⟨v0, rfl, hr6, hb⟩; have HR6 := Aside0.mk hr6; clear hr6; have n_ := Aside0.mk (HBW.out.trans (hb.mono HBW.out.size)); clear HBW; have HBW := n_; clear n_)
                    | fail)
                all_goals (
                  have HB6 := HBW
                  clear HBW HCE
                  go_wp2
                  go_meet
                  exact ⟨putL L p v, putR R p v, 0, rfl, rfl, ⟨HT5.out.below HB6.out, HG.out.same.put HP.out HC.out (HT5.out.map.nodup keyP) (by have := HRL.out; have := HQ.out.2; omega), Kd.R_lower HR6.out HB5.out.size, HB5.out.trans (HB6.out.mono HB5.out.size), HG.out.ne⟩, ⟨HPI5.out.to HB6.out⟩, ⟨Nat.le_trans (putR_len R p v) (by have := HRL.out; omega)⟩⟩)
              · have HPT := Aside0.mk (fun W h => by have := put_calls p v HP.out W bt bm L h (by have := HG.out.same.lenL; omega); rw [if_neg hc] at this; exact this)
                have HC := Aside0.mk hc
                clear hc
                go_wp2
                refine wp_region_still_tail 11 (by kernel_rfl) (by kernel_rfl) ?_
                simp only [List.take_succ_cons, List.take_zero, List.drop_succ_cons, List.drop_zero]
                rw [show ({ heap := wd.heap, tape := wd.tape, drawn := wd.drawn + 1, os := wd.os, output := wd.output } : World) = wd.drewN 1 from rfl]
                repeat still_step
                refine wpStill_nil ?_
                have HG1 := Aside0.mk (HG.out.to (pw_below_drewN (Below.refl _ _) 1))
                have HPI1 := Aside0.mk (HPI.out.to (pw_below_drewN (Below.refl _ _) 1))
                clear c1 c2 c3 c4
                go_wp2_with (first
                  | (go_at_call 27; have tok := HG1; refine (HPT.out _ HG1.out.tt).mono ?_; rintro e w5 ⟨rfl, hT5, hb5⟩; have HT5 := Aside0.mk hT5; have HR5 := Aside0.mk (R_but HG1.out.r8 HG1.out.tt hb5 (by decide)); have HPI5 := Aside0.mk (HPI1.out.but HG1.out.tt hb5); have HB5 := Aside0.mk (HG1.out.below.trans (hb5.below HG1.out.below.size (fun k hk => by have := HG1.out.ne; rcases hk with rfl | rfl <;> omega))); obtain ⟨c1, c2, c3, c4⟩ := HCL.out _ HB5.out; clear tok hT5 hb5 HG1 HPI1))
                go_wp2
                have HBW := Aside0.mk ((Below.refl w5.heap.size w5)).drew
                have HCE := Aside0.mk (fun W (hb : Below w5.heap.size w5 W) => (show W.cell? ⟨(ad.add (i * 4)).block, (ad.add (i * 4)).off + 1, none⟩ = some (.int .u32 p.1) ∧ W.cell? ⟨(ad.add (i * 4)).block, (ad.add (i * 4)).off + 2, none⟩ = some (.int .i64 p.2) ∧ W.cell? ⟨(ad.add (i * 4)).block, (ad.add (i * 4)).off + 3, none⟩ = some (.int .i64 v) ∧ Aside0 (Below w5.heap.size w5 W) from by
                  obtain ⟨_, d2, d3, d4⟩ := HCL.out W (HB5.out.trans (hb.mono HB5.out.size))
                  exact ⟨d2, d3, d4, ⟨hb⟩⟩))
                go_region_held3 (fun W => W.cell? ⟨(ad.add (i * 4)).block, (ad.add (i * 4)).off + 1, none⟩ = some (.int .u32 p.1) ∧ W.cell? ⟨(ad.add (i * 4)).block, (ad.add (i * 4)).off + 2, none⟩ = some (.int .i64 p.2) ∧ W.cell? ⟨(ad.add (i * 4)).block, (ad.add (i * 4)).off + 3, none⟩ = some (.int .i64 v) ∧ Aside0 (Below w5.heap.size w5 W))
                  (exact HCE.out _ HBW.out)
                  (first
                    | (go_at_call 31; refine (refPut_bad _ p v _ HP.out HC.out).mono ?_; rintro e w6 ⟨rfl, hb⟩; have n_ := Aside0.mk (HBW.out.trans (hb.mono HBW.out.size)); clear HBW; have HBW := n_; clear n_)
                    | fail)
                all_goals (
                  have HB6 := HBW
                  clear HBW HCE
                  go_wp2
                  go_meet
                  exact ⟨L, R, chk p.1 p.2, rfl, rfl, ⟨HT5.out.below HB6.out, HG.out.same, Kd.R_below HR5.out HB6.out, HB5.out.trans (HB6.out.mono HB5.out.size), HG.out.ne⟩, ⟨HPI5.out.to HB6.out⟩, ⟨by have := HRL.out; omega⟩⟩)
            · have k0a : (kd == 0) = false := beq_eq_false_iff_ne.2 k0
              by_cases k1' : kd = 1
              · subst k1'
                by_cases hc : chk p.1 p.2 = 0
                · cases hlk : lkL L p with
                  | none =>
                    have HDR := Aside0.mk (fun W h => drop_none p HP.out W bt bm L h hlk hc)
                    have HRD := Aside0.mk (fun W h => by have := refDrop_calls A8 c8 R p W h (by have := HG.out.same.len; omega) HP.out hc; exact this)
                    have HLE := Aside0.mk ((dropR_len HG.out.same.can p).2 hlk)
                    clear hc hlk
                    go_wp2_with (first
                      | (go_at_call 29; refine (HDR.out _ HG.out.tt).mono ?_; rintro e w5 ⟨rfl, hb5⟩; have HG5 := Aside0.mk (HG.out.to hb5); have HPI5 := Aside0.mk (HPI.out.to hb5); clear c1 c2 c3 c4 hb5; obtain ⟨c1, c2, c3, c4⟩ := HCL.out _ HG5.out.below)
                      | (go_at_call 32; refine (HRD.out _ (Kd.R_reads' HG5.out.r8).2.2).mono ?_; rintro e w6 ⟨v0, rfl, hv, hb6⟩; rw [if_pos HLE.out]; rw [if_pos HLE.out] at hv; subst hv; have HB6 := Aside0.mk hb6; clear hb6))
                    go_meet
                    exact ⟨L, R, 5, rfl, rfl, ⟨HG5.out.to HB6.out⟩, ⟨HPI5.out.to HB6.out⟩, ⟨by have := HRL.out; omega⟩⟩
                  | some v5 =>
                    have HDR := Aside0.mk (fun W h => drop_calls p v5 HP.out W bt bm L h hlk hc (by have := HG.out.same.lenL; omega))
                    have HRD := Aside0.mk (fun W h => by have := refDrop_calls A8 c8 R p W h (by have := HG.out.same.len; omega) HP.out hc; exact this)
                    have HLE := Aside0.mk (show (dropR R p).length ≠ R.length from fun h => by have := (dropR_len HG.out.same.can p).1 h; rw [hlk] at this; cases this)
                    clear hc hlk
                    go_wp2_with (first
                      | (go_at_call 29; refine (HDR.out _ HG.out.tt).mono ?_; rintro e w5 ⟨rfl, hT5, hb5⟩; have HT5 := Aside0.mk hT5; have HR5 := Aside0.mk (R_but HG.out.r8 HG.out.tt hb5 (by decide)); have HPI5 := Aside0.mk (HPI.out.but HG.out.tt hb5); have HB5 := Aside0.mk (HG.out.below.trans (hb5.below HG.out.below.size (fun k hk => by have := HG.out.ne; rcases hk with rfl | rfl <;> omega))); clear c1 c2 c3 c4 hT5 hb5; obtain ⟨c1, c2, c3, c4⟩ := HCL.out _ HB5.out)
                      | (go_at_call 32; refine (HRD.out _ (Kd.R_reads' HR5.out).2.2).mono ?_; rintro e w6 ⟨v0, rfl, hv, hb6⟩; rw [if_neg HLE.out]; rw [if_neg HLE.out] at hv; have HR6 := Aside0.mk hv; have HB6 := Aside0.mk hb6; clear hv hb6))
                    go_meet
                    exact ⟨delL L p, dropR R p, 0, rfl, rfl, ⟨HT5.out.below HB6.out, HG.out.same.drop p (HT5.out.map.nodup keyP), Kd.R_lower HR6.out HB5.out.size, HB5.out.trans (HB6.out.mono HB5.out.size), HG.out.ne⟩, ⟨HPI5.out.to HB6.out⟩, ⟨Nat.le_trans (List.length_filter_le _ _) (by have := HRL.out; omega)⟩⟩
                · have HDR := Aside0.mk (fun W => drop_bad p W bt HP.out hc)
                  have HRD := Aside0.mk (fun W => refDrop_bad (.slice A8 R.length c8) p W HP.out hc)
                  clear hc
                  go_wp2_with (first
                    | (go_at_call 29; refine (HDR.out _).mono ?_; rintro e w5 ⟨rfl, hb5⟩; have HG5 := Aside0.mk (HG.out.to hb5); have HPI5 := Aside0.mk (HPI.out.to hb5); clear c1 c2 c3 c4 hb5; obtain ⟨c1, c2, c3, c4⟩ := HCL.out _ HG5.out.below)
                    | (go_at_call 32; refine (HRD.out _).mono ?_; rintro e w6 ⟨rfl, hb6⟩; have HB6 := Aside0.mk hb6; clear hb6))
                  go_meet
                  exact ⟨L, R, chk p.1 p.2, rfl, rfl, ⟨HG5.out.to HB6.out⟩, ⟨HPI5.out.to HB6.out⟩, ⟨by have := HRL.out; omega⟩⟩
              · have k1a : (kd == 1) = false := beq_eq_false_iff_ne.2 k1'
                by_cases k2 : kd = 2
                · subst k2
                  clear k0 k1'
                  have HCP := Aside0.mk (copy_calls wd bt bm L HG.out.tt)
                  by_cases hc : chk p.1 p.2 = 0
                  · have HC := Aside0.mk hc
                    obtain ⟨qc, hqc⟩ : ∃ q, chk p.1 p.2 = q := ⟨_, rfl⟩
                    have HPT := Aside0.mk (fun W ct cm Lc h hl => by have := put_calls p v HP.out W ct cm Lc h hl; rw [if_pos hc, hqc] at this; exact this)
                    have HCK := Aside0.mk (fun W => by have := refCheck_calls HP.out W; rw [hqc] at this; exact this)
                    clear hc hqc
                    go_upto_region 19 with (first
                      | (go_at_call 33; refine HCP.out.mono ?_; rintro e w5 ⟨ct, cm, Lc, rfl, hT5, hlk, hn1, hn2, hb5⟩; have HTC := Aside0.mk hT5; have HS5 := Aside0.mk (show Same R Lc ∧ wd.heap.size ≤ ct ∧ wd.heap.size ≤ cm from ⟨HG.out.same.lkeq (hT5.map.nodup keyP) hlk, hn1, hn2⟩); have HB5 := Aside0.mk hb5; clear hT5 hlk hn1 hn2 hb5 c1 c2 c3 c4 HCP))
                    go_wp2
                    have HBW := Aside0.mk (HB5.out).drew
                    have HCE := Aside0.mk (fun W (hb : Below wd.heap.size wd W) => (show W.cell? ⟨(ad.add (i * 4)).block, (ad.add (i * 4)).off + 1, none⟩ = some (.int .u32 p.1) ∧ W.cell? ⟨(ad.add (i * 4)).block, (ad.add (i * 4)).off + 2, none⟩ = some (.int .i64 p.2) ∧ W.cell? ⟨(ad.add (i * 4)).block, (ad.add (i * 4)).off + 3, none⟩ = some (.int .i64 v) ∧ Aside0 (Below wd.heap.size wd W) from by
                      obtain ⟨_, d2, d3, d4⟩ := HCL.out W (HG.out.below.trans (hb.mono HG.out.below.size))
                      exact ⟨d2, d3, d4, ⟨hb⟩⟩))
                    go_region_held3 (fun W => W.cell? ⟨(ad.add (i * 4)).block, (ad.add (i * 4)).off + 1, none⟩ = some (.int .u32 p.1) ∧ W.cell? ⟨(ad.add (i * 4)).block, (ad.add (i * 4)).off + 2, none⟩ = some (.int .i64 p.2) ∧ W.cell? ⟨(ad.add (i * 4)).block, (ad.add (i * 4)).off + 3, none⟩ = some (.int .i64 v) ∧ Aside0 (Below wd.heap.size wd W))
                      (exact HCE.out _ HBW.out)
                      (first
                        | (go_at_call 27; have tok := HPT; refine (HPT.out _ ct cm Lc (HTC.out.below (Below.refl _ _).drew) (by have := HS5.out.1.lenL; omega)).mono ?_; rintro e w6 ⟨rfl, hT6, hb6⟩; have HTD := Aside0.mk hT6; have n_ := Aside0.mk (HBW.out.trans (hb6.below HBW.out.size (fun k hk => by have := HS5.out.2; rcases hk with rfl | rfl <;> omega))); clear tok HTC HBW hT6 hb6 HPT; have HBW := n_; clear n_)
                        | (go_at_call 28; refine (HCK.out _).mono ?_; rintro e w7 ⟨rfl, hb⟩; have n2_ := Aside0.mk (HTD.out.below hb); clear HTD; have HTD := n2_; clear n2_; have n_ := Aside0.mk (HBW.out.trans (hb.mono HBW.out.size)); clear HBW; have HBW := n_; clear n_)
                        | fail)
                    clear HCE HCK
                    obtain ⟨w8, hw8⟩ : ∃ w8, w7 = w8 := ⟨_, rfl⟩
                    rw [hw8] at HTD HBW
                    rw [hw8]
                    clear hw8
                    have HB8 := Aside0.mk (HG.out.below.trans (HBW.out.mono HG.out.below.size))
                    have HBD := HBW
                    clear HBW
                    have HR8 := Aside0.mk (Kd.R_below HG.out.r8 HBD.out)
                    go_wp2
                    have HBW := Aside0.mk ((Below.refl w8.heap.size w8)).drew
                    have HCE := Aside0.mk (fun W (hb : Below w8.heap.size w8 W) => (show W.cell? ⟨(ad.add (i * 4)).block, (ad.add (i * 4)).off + 1, none⟩ = some (.int .u32 p.1) ∧ W.cell? ⟨(ad.add (i * 4)).block, (ad.add (i * 4)).off + 2, none⟩ = some (.int .i64 p.2) ∧ W.cell? ⟨(ad.add (i * 4)).block, (ad.add (i * 4)).off + 3, none⟩ = some (.int .i64 v) ∧ Aside0 (Below w8.heap.size w8 W) from by
                      obtain ⟨_, d2, d3, d4⟩ := HCL.out W (HB8.out.trans (hb.mono HB8.out.size))
                      exact ⟨d2, d3, d4, ⟨hb⟩⟩))
                    go_region_held3 (fun W => W.cell? ⟨(ad.add (i * 4)).block, (ad.add (i * 4)).off + 1, none⟩ = some (.int .u32 p.1) ∧ W.cell? ⟨(ad.add (i * 4)).block, (ad.add (i * 4)).off + 2, none⟩ = some (.int .i64 p.2) ∧ W.cell? ⟨(ad.add (i * 4)).block, (ad.add (i * 4)).off + 3, none⟩ = some (.int .i64 v) ∧ Aside0 (Below w8.heap.size w8 W))
                      (exact HCE.out _ HBW.out)
                      (first
                        | (go_at_call 31; refine (refPut_calls A8 c8 R p v _ (Kd.C_below (Kd.R_reads' HR8.out).2.2 HBW.out) (by have := HG.out.same.len; omega) HP.out HC.out).mono ?_; rintro e w9 ⟨v9, rfl, hr9, hb⟩; obtain ⟨A9, c9, e9⟩ := Kd.R_slice hr9; subst e9; have HR9 := Aside0.mk (Kd.R_reads' hr9).2.2; clear hr9; have n_ := Aside0.mk (HBW.out.trans (hb.mono HBW.out.size)); clear HBW; have HBW := n_; clear n_)
                        | fail)
                    clear HCE
                    have HT9 := Aside0.mk (HTD.out.below HBW.out)
                    have HB9 := Aside0.mk (HB8.out.trans (HBW.out.mono HB8.out.size))
                    have HBE := Aside0.mk (HBD.out.trans (HBW.out.mono HBD.out.size))
                    have HSM := Aside0.mk (show Same (putR R p v) (putL Lc p v) from HS5.out.1.put HP.out HC.out (HT9.out.map.nodup keyP) (by have := HRL.out; have := HQ.out.2; omega))
                    clear HBW HTD HB8
                    go_wp2
                    have HBW := Aside0.mk ((Below.refl w9.heap.size w9)).drew
                    have HCE := Aside0.mk (fun W (hb : Below w9.heap.size w9 W) => (show W.cell? ⟨(ad.add (i * 4)).block, (ad.add (i * 4)).off + 1, none⟩ = some (.int .u32 p.1) ∧ W.cell? ⟨(ad.add (i * 4)).block, (ad.add (i * 4)).off + 2, none⟩ = some (.int .i64 p.2) ∧ W.cell? ⟨(ad.add (i * 4)).block, (ad.add (i * 4)).off + 3, none⟩ = some (.int .i64 v) ∧ Aside0 (Below w9.heap.size w9 W) from by
                      obtain ⟨_, d2, d3, d4⟩ := HCL.out W (HB9.out.trans (hb.mono HB9.out.size))
                      exact ⟨d2, d3, d4, ⟨hb⟩⟩))
                    go_region_held3 (fun W => W.cell? ⟨(ad.add (i * 4)).block, (ad.add (i * 4)).off + 1, none⟩ = some (.int .u32 p.1) ∧ W.cell? ⟨(ad.add (i * 4)).block, (ad.add (i * 4)).off + 2, none⟩ = some (.int .i64 p.2) ∧ W.cell? ⟨(ad.add (i * 4)).block, (ad.add (i * 4)).off + 3, none⟩ = some (.int .i64 v) ∧ Aside0 (Below w9.heap.size w9 W))
                      (exact HCE.out _ HBW.out)
                      (first
                        | (go_at_call 34; refine (told_calls ct cm (putL Lc p v) A9 c9 (putR R p v) p p.1 leave _ (HT9.out.below HBW.out) (Kd.C_below HR9.out HBW.out) HSM.out HP.out HPU.out).mono ?_; rintro e w10 ⟨rfl, hb⟩; have n_ := Aside0.mk (HBW.out.trans (hb.mono HBW.out.size)); clear HBW; have HBW := n_; clear n_)
                        | fail)
                    all_goals (
                      have HBF := Aside0.mk (HBE.out.trans (HBW.out.mono HBE.out.size))
                      clear HBW HCE
                      go_wp2
                      go_meet
                      exact ⟨L, R, 0, rfl, rfl, ⟨HG.out.to HBF.out⟩, ⟨HPI.out.to HBF.out⟩, ⟨by have := HRL.out; omega⟩⟩)
                  · have HC := Aside0.mk hc
                    obtain ⟨qc, hqc⟩ : ∃ q, chk p.1 p.2 = q := ⟨_, rfl⟩
                    have HPT := Aside0.mk (fun W ct cm Lc h hl => by have := put_calls p v HP.out W ct cm Lc h hl; rw [if_neg hc, hqc] at this; exact this)
                    have HCK := Aside0.mk (fun W => by have := refCheck_calls HP.out W; rw [hqc] at this; exact this)
                    clear hc hqc
                    go_upto_region 19 with (first
                      | (go_at_call 33; refine HCP.out.mono ?_; rintro e w5 ⟨ct, cm, Lc, rfl, hT5, hlk, hn1, hn2, hb5⟩; have HTC := Aside0.mk hT5; have HS5 := Aside0.mk (show Same R Lc ∧ wd.heap.size ≤ ct ∧ wd.heap.size ≤ cm from ⟨HG.out.same.lkeq (hT5.map.nodup keyP) hlk, hn1, hn2⟩); have HB5 := Aside0.mk hb5; clear hT5 hlk hn1 hn2 hb5 c1 c2 c3 c4 HCP))
                    go_wp2
                    have HBW := Aside0.mk (HB5.out).drew
                    have HCE := Aside0.mk (fun W (hb : Below wd.heap.size wd W) => (show W.cell? ⟨(ad.add (i * 4)).block, (ad.add (i * 4)).off + 1, none⟩ = some (.int .u32 p.1) ∧ W.cell? ⟨(ad.add (i * 4)).block, (ad.add (i * 4)).off + 2, none⟩ = some (.int .i64 p.2) ∧ W.cell? ⟨(ad.add (i * 4)).block, (ad.add (i * 4)).off + 3, none⟩ = some (.int .i64 v) ∧ Aside0 (Below wd.heap.size wd W) from by
                      obtain ⟨_, d2, d3, d4⟩ := HCL.out W (HG.out.below.trans (hb.mono HG.out.below.size))
                      exact ⟨d2, d3, d4, ⟨hb⟩⟩))
                    go_region_held3 (fun W => W.cell? ⟨(ad.add (i * 4)).block, (ad.add (i * 4)).off + 1, none⟩ = some (.int .u32 p.1) ∧ W.cell? ⟨(ad.add (i * 4)).block, (ad.add (i * 4)).off + 2, none⟩ = some (.int .i64 p.2) ∧ W.cell? ⟨(ad.add (i * 4)).block, (ad.add (i * 4)).off + 3, none⟩ = some (.int .i64 v) ∧ Aside0 (Below wd.heap.size wd W))
                      (exact HCE.out _ HBW.out)
                      (first
                        | (go_at_call 27; have tok := HPT; refine (HPT.out _ ct cm Lc (HTC.out.below (Below.refl _ _).drew) (by have := HS5.out.1.lenL; omega)).mono ?_; rintro e w6 ⟨rfl, hT6, hb6⟩; have HTD := Aside0.mk hT6; have n_ := Aside0.mk (HBW.out.trans (hb6.below HBW.out.size (fun k hk => by have := HS5.out.2; rcases hk with rfl | rfl <;> omega))); clear tok HTC HBW hT6 hb6 HPT; have HBW := n_; clear n_)
                        | (go_at_call 28; refine (HCK.out _).mono ?_; rintro e w7 ⟨rfl, hb⟩; have n2_ := Aside0.mk (HTD.out.below hb); clear HTD; have HTD := n2_; clear n2_; have n_ := Aside0.mk (HBW.out.trans (hb.mono HBW.out.size)); clear HBW; have HBW := n_; clear n_)
                        | fail)
                    clear HCE HCK
                    obtain ⟨w8, hw8⟩ : ∃ w8, w7 = w8 := ⟨_, rfl⟩
                    rw [hw8] at HTD HBW
                    rw [hw8]
                    clear hw8
                    have HB8 := Aside0.mk (HG.out.below.trans (HBW.out.mono HG.out.below.size))
                    have HBD := HBW
                    clear HBW
                    have HR8 := Aside0.mk (Kd.R_below HG.out.r8 HBD.out)
                    go_wp2
                    have HBW := Aside0.mk ((Below.refl w8.heap.size w8)).drew
                    have HCE := Aside0.mk (fun W (hb : Below w8.heap.size w8 W) => (show W.cell? ⟨(ad.add (i * 4)).block, (ad.add (i * 4)).off + 1, none⟩ = some (.int .u32 p.1) ∧ W.cell? ⟨(ad.add (i * 4)).block, (ad.add (i * 4)).off + 2, none⟩ = some (.int .i64 p.2) ∧ W.cell? ⟨(ad.add (i * 4)).block, (ad.add (i * 4)).off + 3, none⟩ = some (.int .i64 v) ∧ Aside0 (Below w8.heap.size w8 W) from by
                      obtain ⟨_, d2, d3, d4⟩ := HCL.out W (HB8.out.trans (hb.mono HB8.out.size))
                      exact ⟨d2, d3, d4, ⟨hb⟩⟩))
                    go_region_held3 (fun W => W.cell? ⟨(ad.add (i * 4)).block, (ad.add (i * 4)).off + 1, none⟩ = some (.int .u32 p.1) ∧ W.cell? ⟨(ad.add (i * 4)).block, (ad.add (i * 4)).off + 2, none⟩ = some (.int .i64 p.2) ∧ W.cell? ⟨(ad.add (i * 4)).block, (ad.add (i * 4)).off + 3, none⟩ = some (.int .i64 v) ∧ Aside0 (Below w8.heap.size w8 W))
                      (exact HCE.out _ HBW.out)
                      (first
                        | (go_at_call 31; refine (refPut_bad _ p v _ HP.out HC.out).mono ?_; rintro e w9 ⟨rfl, hb⟩; have HR9 := Aside0.mk (Kd.C_below (Kd.C_below (Kd.R_reads' HR8.out).2.2 HBW.out) hb); have n_ := Aside0.mk (HBW.out.trans (hb.mono HBW.out.size)); clear HBW; have HBW := n_; clear n_)
                        | fail)
                    clear HCE
                    have HT9 := Aside0.mk (HTD.out.below HBW.out)
                    have HB9 := Aside0.mk (HB8.out.trans (HBW.out.mono HB8.out.size))
                    have HBE := Aside0.mk (HBD.out.trans (HBW.out.mono HBD.out.size))
                    have HSM := Aside0.mk (show Same R Lc from HS5.out.1)
                    clear HBW HTD HB8
                    go_wp2
                    have HBW := Aside0.mk ((Below.refl w9.heap.size w9)).drew
                    have HCE := Aside0.mk (fun W (hb : Below w9.heap.size w9 W) => (show W.cell? ⟨(ad.add (i * 4)).block, (ad.add (i * 4)).off + 1, none⟩ = some (.int .u32 p.1) ∧ W.cell? ⟨(ad.add (i * 4)).block, (ad.add (i * 4)).off + 2, none⟩ = some (.int .i64 p.2) ∧ W.cell? ⟨(ad.add (i * 4)).block, (ad.add (i * 4)).off + 3, none⟩ = some (.int .i64 v) ∧ Aside0 (Below w9.heap.size w9 W) from by
                      obtain ⟨_, d2, d3, d4⟩ := HCL.out W (HB9.out.trans (hb.mono HB9.out.size))
                      exact ⟨d2, d3, d4, ⟨hb⟩⟩))
                    go_region_held3 (fun W => W.cell? ⟨(ad.add (i * 4)).block, (ad.add (i * 4)).off + 1, none⟩ = some (.int .u32 p.1) ∧ W.cell? ⟨(ad.add (i * 4)).block, (ad.add (i * 4)).off + 2, none⟩ = some (.int .i64 p.2) ∧ W.cell? ⟨(ad.add (i * 4)).block, (ad.add (i * 4)).off + 3, none⟩ = some (.int .i64 v) ∧ Aside0 (Below w9.heap.size w9 W))
                      (exact HCE.out _ HBW.out)
                      (first
                        | (go_at_call 34; refine (told_calls ct cm Lc A8 c8 R p p.1 leave _ (HT9.out.below HBW.out) (Kd.C_below HR9.out HBW.out) HSM.out HP.out HPU.out).mono ?_; rintro e w10 ⟨rfl, hb⟩; have n_ := Aside0.mk (HBW.out.trans (hb.mono HBW.out.size)); clear HBW; have HBW := n_; clear n_)
                        | fail)
                    all_goals (
                      have HBF := Aside0.mk (HBE.out.trans (HBW.out.mono HBE.out.size))
                      clear HBW HCE
                      go_wp2
                      go_meet
                      exact ⟨L, R, 0, rfl, rfl, ⟨HG.out.to HBF.out⟩, ⟨HPI.out.to HBF.out⟩, ⟨by have := HRL.out; omega⟩⟩)
                · have k2a : (kd == 2) = false := beq_eq_false_iff_ne.2 k2
                  clear k0 k1' k2
                  go_wp2
                  go_meet
                  exact ⟨L, R, 0, rfl, rfl, HG, HPI, ⟨by have := HRL.out; omega⟩⟩
          case rest =>
            clear HG HPI c1
            obtain ⟨L', R', ee, rfl, rfl, HG, HPI, HRL2⟩ := hcut
            obtain ⟨we, hwe⟩ : ∃ we, wc = we := ⟨_, rfl⟩
            rw [hwe] at HG HPI
            rw [hwe]
            clear hwe wc
            obtain ⟨A8, c8, e8⟩ := Kd.R_slice HG.out.r8
            subst e8
            obtain ⟨A10, c10, e10⟩ := Kd.R_slice HPI.out.r10
            subst e10
            obtain ⟨d1, d2, d3, d4⟩ := HCL.out _ HG.out.below
            go_upto_if 162 with fail
            go_cut [18] from 154 to 169 (fun s wx => (∃ a : Int, s = .int .u32 a ∧ Aside0 (0 ≤ a ∧ a < 4294967296)) ∧ wx = we)
            case first =>
              clear d1 d2 d3 d4
              by_cases hal : 0 < addrs.length
              · have a1 : decide ((addrs.length : Int) > 0) = true := decide_eq_true (by omega)
                have a2 : decide (0 < (addrs.length : Int)) = true := decide_eq_true (by omega)
                have a3 : decide (0 < addrs.length) = true := decide_eq_true hal
                have b1 : (0 : Int) ≤ (i : Int) % (addrs.length : Int) := Int.emod_nonneg _ (by omega)
                have b2 : (i : Int) % (addrs.length : Int) < (addrs.length : Int) := Int.emod_lt_of_pos _ (by omega)
                have b3 : (addrs.length : Int) ≤ 140737488355328 := by have := HL.out.2; omega
                obtain ⟨ad1, ea1, hcell⟩ := at_I (Kd.C_below HR1.out HG.out.below) ((i : Int) % (addrs.length : Int)) b1 b2
                cases ea1
                have HAW := Aside0.mk (HW1.out _ (show rdI addrs ((i : Int) % (addrs.length : Int)) ∈ addrs from by unfold rdI; rw [List.getD_eq_getElem?_getD, List.getElem?_eq_getElem (by omega)]; exact List.getElem_mem _))
                obtain ⟨a, haa⟩ : ∃ a, rdI addrs ((i : Int) % (addrs.length : Int)) = a := ⟨_, rfl⟩
                rw [haa] at hcell HAW
                have hcell2 : we.cell? (ad1.add (i % addrs.length)) = some (.int .u32 a) := by
                  rw [show i % addrs.length = ((i : Int) % (addrs.length : Int)).toNat from by rw [← Int.natCast_emod]; rfl]
                  exact hcell
                clear haa
                go_wp2
                go_meet
                exact ⟨⟨a, rfl, HAW⟩, rfl⟩
              · have a1 : decide ((addrs.length : Int) > 0) = false := decide_eq_false (by omega)
                have a2 : decide (0 < (addrs.length : Int)) = false := decide_eq_false (by omega)
                have a3 : decide (0 < addrs.length) = false := decide_eq_false hal
                go_wp2
                go_meet
                exact ⟨⟨p.1, rfl, HPU⟩, rfl⟩
            case rest =>
              obtain ⟨⟨a, rfl, HA⟩, hwe⟩ := hcut
              rw [hwe]
              clear hwe wc d1 d4
              go_wp2_with (first
                | (go_at_call 34; refine (told_calls bt bm L' A8 c8 R' p a leave _ HG.out.tt (Kd.R_reads' HG.out.r8).2.2 HG.out.same HP.out HA.out).mono ?_; rintro e w20 ⟨rfl, hb⟩; have n_ := Aside0.mk (HG.out.to hb); have m_ := Aside0.mk (HPI.out.to hb); clear HG HPI hb d2 d3; have HG := n_; have HPI := m_; clear n_ m_; obtain ⟨_, d2, d3, _⟩ := HCL.out _ HG.out.below)
                | (go_at_call 35; have tok := HSR; (with_reducible refine (rows_calls _ R _ A10 c10 leave _ HPI.out.i11 (Kd.R_reads' HPI.out.r10).2.2 HSR.out.1).mono ?_); rintro e w21 ⟨rfl, hb⟩; have n_ := Aside0.mk (HG.out.to hb); have m_ := Aside0.mk (HPI.out.to hb); clear tok HG HPI hb d2 d3; have HG := n_; have HPI := m_; clear n_ m_; obtain ⟨_, d2, d3, _⟩ := HCL.out _ HG.out.below)
                | (go_at_call 36; refine (refOver_calls A10 c10 R p.1 _ (Kd.R_reads' HPI.out.r10).2.2 HSR.out.1 HPU.out HSR.out.2.1).mono ?_; rintro e w22 ⟨v22, rfl, hr22, hb⟩; obtain ⟨A22, c22, e22⟩ := Kd.R_slice hr22; subst e22; have HR22 := Aside0.mk (Kd.R_reads' hr22).2.2; have n_ := Aside0.mk (HG.out.to hb); have m_ := Aside0.mk (HPI.out.to hb); clear HG HPI hb d2 d3 hr22; have HG := n_; have HPI := m_; clear n_ m_)
                | (go_at_call 35; have tok := HR22; (with_reducible refine (rows_calls _ (overR R p.1 33) _ A22 c22 leave _ HPI.out.i12 HR22.out HSR.out.2.2).mono ?_); rintro e w23 ⟨rfl, hb⟩; have n_ := Aside0.mk (HG.out.to hb); clear tok HG HPI hb; have HG := n_; clear n_))
              go_roundg k1
              case measure => have := HK.out; omega
              case rel => exact ⟨i + 1, L', R', (by first | rfl | (simp; done) | go_num), ⟨by have := HI.out; have := HQ.out; omega⟩, ⟨by have := HK.out; omega⟩, HG, HRL2⟩
      · have HE := Aside0.mk hlt
        by_cases hlt2 : i < l.length
        · have ci1 : decide ((i : Int) < (l.length : Int)) = true := decide_eq_true (by omega)
          have ci2 : decide (i < l.length) = true := decide_eq_true hlt2
          have ci3 : decide ((i : Int) < 120) = false := decide_eq_false (by omega)
          have ci4 : decide (i < 120) = false := decide_eq_false (by omega)
          clear hlt hlt2
          go_wp2_with (first
            | (go_at_call 15; refine (awake_calls _).mono ?_; rintro e w30 ⟨rfl, hb⟩; have HB30 := Aside0.mk (HG.out.below.trans (hb.mono HG.out.below.size)); clear hb))
          go_ret
          exact ⟨rfl, HB30.out⟩
        · have ci1 : decide ((i : Int) < (l.length : Int)) = false := decide_eq_false (by omega)
          have ci2 : decide (i < l.length) = false := decide_eq_false hlt2
          clear hlt hlt2
          go_wp2_with (first
            | (go_at_call 15; refine (awake_calls _).mono ?_; rintro e w30 ⟨rfl, hb⟩; have HB30 := Aside0.mk (HG.out.below.trans (hb.mono HG.out.below.size)); clear hb))
          go_ret
          exact ⟨rfl, HB30.out⟩
end Go.Proofs.Ytaplkfnolimdmaa.Table
