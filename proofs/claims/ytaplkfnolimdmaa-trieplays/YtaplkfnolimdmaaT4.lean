/- waymarkref04.Put: what comes out of it; the list that is handed in stays. -/
import Derived.Test.YtaplkfnolimdmaaT3
import Derived.OrdersIn
import Derived.TacticsIn
import Derived.Deep.RegionHeld3
import Derived.Deep.DeepCutAuto
namespace Go.Proofs.Ytaplkfnolimdmaa.Table
open Go.RowKit Go.Proofs.Ytaplkfnolimdmaa.PC Go.Proofs.YtaplkfnolimdmaaW.PrintWords Go.Proofs.YtaplkfnolimdmaaW.PrintLast Go.Proofs.YtaplkfnolimdmaaW.PrintMore Go.Proofs.YtaplkfnolimdmaaW.Bits Go.Proofs.YtaplkfnolimdmaaW.MapRaw
set_option linter.unusedVariables false
set_option linter.unusedSimpArgs false

theorem infoRef : (Try.prog.info? 101).map (fun i => (i.zero, i.size, i.bytes)) = some (some (.agg #[(.int .u32 0), (.int .i64 0), (.int .i64 0)]), 3, 24) := by kernel_rfl
def rdR (xs : List Row) (i : Int) : Row := xs.getD i.toNat ((0, 0), 0)
theorem at_R {w : World} {A : Option Addr} {n : Nat} {xs : List Row} (h : Kd.C kRow w A n xs) (i : Int) (h0 : 0 ≤ i) (h1 : i < n) : ∃ ad, A = some ad ∧ w.cell? (ad.add (i.toNat * 3)) = some (.int .u32 (rdR xs i).1.1) ∧ w.cell? ⟨(ad.add (i.toNat * 3)).block, (ad.add (i.toNat * 3)).off + 1, none⟩ = some (.int .i64 (rdR xs i).1.2) ∧
    w.cell? ⟨(ad.add (i.toNat * 3)).block, (ad.add (i.toNat * 3)).off + 2, none⟩ = some (.int .i64 (rdR xs i).2) := by
  obtain ⟨ad, c, e, _, hK, hc0⟩ := Kd.C_get h ((0, 0), 0) i h0 h1
  have hc : ∀ j u, c[j]? = some u → w.cell? (ad.add (i.toNat * 3 + j)) = some u := hc0
  obtain rfl := kRow_open hK
  exact ⟨ad, e, hc 0 _ rfl, by rw [← add_field _ _ 1 (by omega)]; exact hc 1 _ rfl, by rw [← add_field _ _ 2 (by omega)]; exact hc 2 _ rfl⟩
/-- How two prefixes stand to each other. -/
def cmp3 (p q : Pf) : Int := Leaf.cmpP (toS p) (toS q)
theorem refCmp_calls (p q : Pf) (w : World) : Calls Try.prog 18 #[.agg #[.int .u32 p.1, .int .i64 p.2], .agg #[.int .u32 q.1, .int .i64 q.2]] w fun e w' => e = .returned (.int .i64 (cmp3 p q)) ∧ Below w.heap.size w w' := by
  obtain ⟨k, hk⟩ := (Leaf.ev_Cmp (toS p) (toS q)).rounds
  exact waymarkref01_Cmp.calls k _ _ _ _ _ w hk
theorem refCheck_calls {p : Pf} (hp : wfP p) (w : World) : Calls Try.prog 28 #[.agg #[.int .u32 p.1, .int .i64 p.2]] w fun e w' => e = .returned (.int .i64 (chk p.1 p.2)) ∧ Below w.heap.size w w' := by
  obtain ⟨k, hk⟩ := (Leaf.ev_Check p.1 p.2 (wf_U hp).1 (wf_U hp).2).rounds
  exact waymarkref01_Check.calls k _ _ _ w hk
/-- One row of Put's loop. -/
def stp (p : Pf) (v : Int) (s : List Row × Bool) (r : Row) : List Row × Bool :=
  ((if cmp3 p r.1 ≤ 0 ∧ s.2 = false then s.1 ++ [(p, v)] else s.1) ++ (if cmp3 p r.1 ≠ 0 then [r] else []), s.2 || decide (cmp3 p r.1 ≤ 0))
def putR (l : List Row) (p : Pf) (v : Int) : List Row := (l.foldl (stp p v) ([], false)).1 ++ (if (l.foldl (stp p v) ([], false)).2 = true then [] else [(p, v)])
theorem stp_take {l : List Row} {p : Pf} {v : Int} {k : Nat} (hk : k < l.length) {s : List Row × Bool} (h : (l.take k).foldl (stp p v) ([], false) = s) : (l.take (k + 1)).foldl (stp p v) ([], false) = stp p v s l[k] := by
  rw [List.take_succ_eq_append_getElem hk, List.foldl_append, h]
  rfl
theorem stp_len (p : Pf) (v : Int) (s : List Row × Bool) (r : Row) : (stp p v s r).1.length ≤ s.1.length + 2 := by
  unfold stp
  simp only [List.length_append]
  split <;> split <;> simp
/-- What a world keeps in Put's and Drop's loop: the prefix's box, and the rows so far. -/
structure PK (w0 : World) (p : Pf) (gb : Nat) (out : List Row) (v9 : Value) (W : World) : Prop where
  box : W.heap[gb]? = some (.cells #[.int .u32 p.1, .int .i64 p.2] 26 (0, 0))
  row : Kd.R kRow 101 W w0.heap.size (fun _ => True) v9 out
  below : Below w0.heap.size w0 W
variable {w0 : World} {p : Pf} {gb : Nat} {out out' : List Row} {v9 v9' : Value} {W W' : World}
theorem PK.to (h : PK w0 p gb out v9 W) (hb : Below W.heap.size W W') : PK w0 p gb out v9 W' := ⟨blk_below h.box hb, Kd.R_below h.row hb, h.below.trans (hb.mono h.below.size)⟩
theorem PK.app (h : PK w0 p gb out v9 W) (hr : Kd.R kRow 101 W' w0.heap.size (fun _ => True) v9' out') (hb : Below w0.heap.size w0 W') (hg : W.grownBy W' v9.ownBlock) : PK w0 p gb out' v9' W' :=
  ⟨blk_grown h.box hg (Kd.R_ne h.row h.box (by decide)), hr, hb⟩
theorem PK.cells (h : PK w0 p gb out v9 W) : W.cell? ⟨gb, 0, none⟩ = some (.int .u32 p.1) ∧ W.cell? ⟨gb, 1, none⟩ = some (.int .i64 p.2) := ⟨by rw [blk_cell h.box]; rfl, by rw [blk_cell h.box]; rfl⟩

set_option maxRecDepth 100000 in
set_option maxHeartbeats 4000000 in
theorem refPut_calls (A : Option Addr) (c : Nat) (l : List Row) (p : Pf) (v : Int) (w : World) (hr : Kd.C kRow w A l.length l) (hl : l.length ≤ 1000000) (hp : wfP p) (hq : chk p.1 p.2 = 0) :
    Calls Try.prog 31 #[.slice A l.length c, .agg #[.int .u32 p.1, .int .i64 p.2], .int .i64 v] w fun e w' => ∃ v0, e = .returned (.tuple #[v0, .int .i64 0]) ∧ Kd.R kRow 101 w' w.heap.size (fun _ => True) v0 (putR l p v) ∧ Below w.heap.size w w' := by
  have hu26 := Try.underlying26
  have hu101 := Try.underlying101
  have HR := Aside0.mk hr
  have HCK := Aside0.mk (fun W => by have := refCheck_calls hp W; rw [hq] at this; exact this)
  have HG0 := Aside0.mk (show PK w p w.heap.size [] (.slice none 0 0) (w.alloc (.cells #[.int .u32 p.1, .int .i64 p.2] 26)) from ⟨blk_new w _, Kd.R_nil _ _ _ _ _, (Below.refl _ w).alloc (Nat.le_refl _) _⟩)
  have hc0 := HG0.out.cells.1
  have hc1 := HG0.out.cells.2
  clear hr hq
  go_enter Try.func31, Try.ntmps31
  go_wp2_with (first
    | (go_at_call 28; refine (HCK.out _).mono ?_; rintro e w1 ⟨rfl, hb⟩; have HG1 := Aside0.mk (HG0.out.to hb); clear hb HG0 hc0 hc1))
  go_loopw [9, 10, 11] (fun v9 v10 v11 wr => ∃ (k : Nat) (out : List Row) (dn : Bool), k ≤ l.length ∧ v10 = .bool dn ∧ v11 = .int .i64 k ∧ Aside0 (PK w p w.heap.size out v9 wr) ∧ Aside0 ((l.take k).foldl (stp p v) ([], false) = (out, dn)) ∧ Aside0 (out.length ≤ 2 * k)) (fun _ _ i _ => l.length - (intOf i).toNat)
  case atStart => exact ⟨0, [], false, Nat.zero_le _, rfl, rfl, HG1, ⟨rfl⟩, ⟨by simp⟩⟩
  case round =>
    clear HG1
    obtain ⟨k, out, dn, hk, rfl, rfl, HG, HF, HL⟩ := hrel
    by_cases hlt : k < l.length
    · have cib : decide ((k : Int) < (l.length : Int)) = true := decide_eq_true (by omega)
      have cib2 : decide (k < l.length) = true := decide_eq_true hlt
      obtain ⟨ad, ea, _, _, _⟩ := at_R HR.out (k : Int) (by omega) (by omega)
      cases ea
      have e1 : rdR l (k : Int) = l[k] := by unfold rdR; rw [List.getD_eq_getElem?_getD, Int.toNat_natCast, List.getElem?_eq_getElem hlt]; rfl
      have hst := stp_take hlt HF.out
      obtain ⟨r, hr⟩ : ∃ r, l[k] = r := ⟨_, rfl⟩
      rw [hr] at e1 hst
      have HCL := Aside0.mk (fun W (hb : Below w.heap.size w W) => (show W.cell? (ad.add (k * 3)) = some (.int .u32 r.1.1) ∧ W.cell? ⟨(ad.add (k * 3)).block, (ad.add (k * 3)).off + 1, none⟩ = some (.int .i64 r.1.2) ∧ W.cell? ⟨(ad.add (k * 3)).block, (ad.add (k * 3)).off + 2, none⟩ = some (.int .i64 r.2) from by
        obtain ⟨ad2, e2, d0, d1, d2⟩ := at_R (Kd.C_below HR.out hb) (k : Int) (by omega) (by omega)
        cases e2
        rw [e1] at d0 d1 d2
        exact ⟨d0, d1, d2⟩))
      obtain ⟨c3, hc3⟩ : ∃ c, cmp3 p r.1 = c := ⟨_, rfl⟩
      have HCM := Aside0.mk (fun W => by have := refCmp_calls p r.1 W; rw [hc3] at this; exact this)
      rw [show stp p v (out, dn) r = ((if c3 ≤ 0 ∧ dn = false then out ++ [(p, v)] else out) ++ (if c3 ≠ 0 then [r] else []), dn || decide (c3 ≤ 0)) from by rw [← hc3]; rfl] at hst
      have HST := Aside0.mk hst
      have HL8 := Aside0.mk (show out.length ≤ 2 * k from HL.out)
      clear e1 hr hst hc3
      have hq1 : (0 : Int) ≤ (k : Int) := by omega
      have hq2 : (k : Int) < (l.length : Int) := by omega
      go_wp2
      refine q_region (fun W => PK w p w.heap.size out u9 W) (by kernel_rfl) (by kernel_rfl) (HG.out.to (Below.refl _ _).drew) ?_
      repeat (first
        | go_big_quiet_skip
        | (go_big_quiet_want; first
          | (go_big_quiet_op; first
            | go_big_quiet_on
            | (apply Exists.intro; refine ⟨?_, ?_⟩; (· (intros; with_reducible rfl)); go_big_quiet_on)
            | (apply Exists.intro; refine ⟨?_, ?_⟩; (· (intro W hW; (refine (HCM.out W).mono ?_; rintro e w6 ⟨rfl, hb⟩; exact ⟨rfl, hW.to hb⟩))); go_big_quiet_on))
          | (refine q_op (v := ?_) ?_ ?_; rotate_left 1; (· (intro W hW; obtain ⟨t1, t2⟩ := hW.cells; obtain ⟨t3, t4, t5⟩ := HCL.out W hW.below; go_simp; (try with_reducible rfl))); (try simp only [Act.put, List.setIfInBounds_toArray, List.set_cons_zero, List.set_cons_succ]); go_big_quiet_on)
          | (refine q_call (v := ?_) (f := ?_) (args := ?_) ?_ ?_ ?_; rotate_left 3; (· (intro W hW; go_simp; (try with_reducible exact ⟨rfl, rfl⟩))); (· (intro W hW; (refine (HCM.out W).mono ?_; rintro e w6 ⟨rfl, hb⟩; exact ⟨rfl, hW.to hb⟩))); (try simp only [Act.put, List.setIfInBounds_toArray, List.set_cons_zero, List.set_cons_succ]); go_big_quiet_on)))
      refine wpQuiet_nil ?_
      intro w8 hW8
      have HG8 := Aside0.mk hW8
      clear hW8 HG HCM
      obtain ⟨t1, t2⟩ := HG8.out.cells
      obtain ⟨t3, t4, t5⟩ := HCL.out _ HG8.out.below
      rcases Int.lt_trichotomy c3 0 with hc | hc | hc
      · have g1 : decide (c3 ≤ 0) = true := decide_eq_true (by omega)
        have g2 : (c3 != 0) = true := bne_iff_ne.2 (by omega)
        have g3 : (c3 == 0) = false := beq_eq_false_iff_ne.2 (by omega)
        have HC3 := Aside0.mk hc
        clear hc
        cases dn
        all_goals (
          go_wp2_with (first
            | ((with_reducible refine gate_builtin (b := .append) (xs := #[.tmp 38, .tmp 42]) rfl ?_); at_builtin; refine Kd.R_append kRow (w0 := w) w.heap.size rfl (.tmp 38) (.tmp 42) 57 101 (.agg #[(.int .u32 0), (.int .i64 0), (.int .i64 0)]) 24 rfl Try.underlying57 infoRef rfl (by decide) (by omega) _ _ (p, v) [.int .u32 p.1, .int .i64 p.2, .int .i64 v] (fun _ => True) (fun _ => False) rfl rfl (kRow_mkM _ _ _ (p, v)) (fun _ hk => hk.elim) (fun _ _ => trivial) HG8.out.row HG8.out.below HG8.out.below.size (by have := HL8.out; simp at this ⊢; omega) ?_; intro v11_ w11_ ho hb hg hat; have n0_ := Aside0.mk (HG8.out.app ho hb hg); have n1_ := Aside0.mk (show (_ ++ [(p, v)]).length ≤ _ + 1 from by rw [List.length_append]; exact Nat.add_le_add_right HL8.out 1); clear HG8 HL8 t1 t2 t3 t4 t5 ho hb hg hat; have HG8 := n0_; have HL8 := n1_; clear n0_ n1_; obtain ⟨t1, t2⟩ := HG8.out.cells; obtain ⟨t3, t4, t5⟩ := HCL.out _ HG8.out.below)
            | ((with_reducible refine gate_builtin (b := .append) (xs := #[.tmp 46, .tmp 51]) rfl ?_); at_builtin; refine Kd.R_append kRow (w0 := w) w.heap.size rfl (.tmp 46) (.tmp 51) 57 101 (.agg #[(.int .u32 0), (.int .i64 0), (.int .i64 0)]) 24 rfl Try.underlying57 infoRef rfl (by decide) (by omega) _ _ r [.int .u32 r.1.1, .int .i64 r.1.2, .int .i64 r.2] (fun _ => True) (fun _ => False) rfl rfl (kRow_mkM _ _ _ r) (fun _ hk => hk.elim) (fun _ _ => trivial) HG8.out.row HG8.out.below HG8.out.below.size (by have := HL8.out; simp at this ⊢; omega) ?_; intro v11_ w11_ ho hb hg hat; have n0_ := Aside0.mk (HG8.out.app ho hb hg); have n1_ := Aside0.mk (show (_ ++ [r]).length ≤ _ + 1 from by rw [List.length_append]; exact Nat.add_le_add_right HL8.out 1); clear HG8 HL8 t1 t2 t3 t4 t5 ho hb hg hat; have HG8 := n0_; have HL8 := n1_; clear n0_ n1_; obtain ⟨t1, t2⟩ := HG8.out.cells; obtain ⟨t3, t4, t5⟩ := HCL.out _ HG8.out.below))
          go_roundw
          case rel => exact ⟨k + 1, _, _, by omega, rfl, (by first | rfl | (simp; done) | go_num), HG8, ⟨by rw [HST.out]; simp [show c3 ≤ 0 from by have := HC3.out; omega, show c3 ≠ 0 from by have := HC3.out; omega]⟩, ⟨by have := HL8.out; simp at this ⊢; omega⟩⟩
          case measure => simp [intOf]; omega)
      · subst hc
        cases dn
        all_goals (
          go_wp2_with (first
            | ((with_reducible refine gate_builtin (b := .append) (xs := #[.tmp 38, .tmp 42]) rfl ?_); at_builtin; refine Kd.R_append kRow (w0 := w) w.heap.size rfl (.tmp 38) (.tmp 42) 57 101 (.agg #[(.int .u32 0), (.int .i64 0), (.int .i64 0)]) 24 rfl Try.underlying57 infoRef rfl (by decide) (by omega) _ _ (p, v) [.int .u32 p.1, .int .i64 p.2, .int .i64 v] (fun _ => True) (fun _ => False) rfl rfl (kRow_mkM _ _ _ (p, v)) (fun _ hk => hk.elim) (fun _ _ => trivial) HG8.out.row HG8.out.below HG8.out.below.size (by have := HL8.out; simp at this ⊢; omega) ?_; intro v11_ w11_ ho hb hg hat; have n0_ := Aside0.mk (HG8.out.app ho hb hg); have n1_ := Aside0.mk (show (_ ++ [(p, v)]).length ≤ _ + 1 from by rw [List.length_append]; exact Nat.add_le_add_right HL8.out 1); clear HG8 HL8 t1 t2 t3 t4 t5 ho hb hg hat; have HG8 := n0_; have HL8 := n1_; clear n0_ n1_; obtain ⟨t1, t2⟩ := HG8.out.cells; obtain ⟨t3, t4, t5⟩ := HCL.out _ HG8.out.below)
            | ((with_reducible refine gate_builtin (b := .append) (xs := #[.tmp 46, .tmp 51]) rfl ?_); at_builtin; refine Kd.R_append kRow (w0 := w) w.heap.size rfl (.tmp 46) (.tmp 51) 57 101 (.agg #[(.int .u32 0), (.int .i64 0), (.int .i64 0)]) 24 rfl Try.underlying57 infoRef rfl (by decide) (by omega) _ _ r [.int .u32 r.1.1, .int .i64 r.1.2, .int .i64 r.2] (fun _ => True) (fun _ => False) rfl rfl (kRow_mkM _ _ _ r) (fun _ hk => hk.elim) (fun _ _ => trivial) HG8.out.row HG8.out.below HG8.out.below.size (by have := HL8.out; simp at this ⊢; omega) ?_; intro v11_ w11_ ho hb hg hat; have n0_ := Aside0.mk (HG8.out.app ho hb hg); have n1_ := Aside0.mk (show (_ ++ [r]).length ≤ _ + 1 from by rw [List.length_append]; exact Nat.add_le_add_right HL8.out 1); clear HG8 HL8 t1 t2 t3 t4 t5 ho hb hg hat; have HG8 := n0_; have HL8 := n1_; clear n0_ n1_; obtain ⟨t1, t2⟩ := HG8.out.cells; obtain ⟨t3, t4, t5⟩ := HCL.out _ HG8.out.below))
          go_roundw
          case rel => exact ⟨k + 1, _, _, by omega, rfl, (by first | rfl | (simp; done) | go_num), HG8, ⟨by rw [HST.out]; simp⟩, ⟨by have := HL8.out; simp at this ⊢; omega⟩⟩
          case measure => simp [intOf]; omega)
      · have g1 : decide (c3 ≤ 0) = false := decide_eq_false (by omega)
        have g2 : (c3 != 0) = true := bne_iff_ne.2 (by omega)
        have g3 : (c3 == 0) = false := beq_eq_false_iff_ne.2 (by omega)
        have HC3 := Aside0.mk hc
        clear hc
        cases dn
        all_goals (
          go_wp2_with (first
            | ((with_reducible refine gate_builtin (b := .append) (xs := #[.tmp 38, .tmp 42]) rfl ?_); at_builtin; refine Kd.R_append kRow (w0 := w) w.heap.size rfl (.tmp 38) (.tmp 42) 57 101 (.agg #[(.int .u32 0), (.int .i64 0), (.int .i64 0)]) 24 rfl Try.underlying57 infoRef rfl (by decide) (by omega) _ _ (p, v) [.int .u32 p.1, .int .i64 p.2, .int .i64 v] (fun _ => True) (fun _ => False) rfl rfl (kRow_mkM _ _ _ (p, v)) (fun _ hk => hk.elim) (fun _ _ => trivial) HG8.out.row HG8.out.below HG8.out.below.size (by have := HL8.out; simp at this ⊢; omega) ?_; intro v11_ w11_ ho hb hg hat; have n0_ := Aside0.mk (HG8.out.app ho hb hg); have n1_ := Aside0.mk (show (_ ++ [(p, v)]).length ≤ _ + 1 from by rw [List.length_append]; exact Nat.add_le_add_right HL8.out 1); clear HG8 HL8 t1 t2 t3 t4 t5 ho hb hg hat; have HG8 := n0_; have HL8 := n1_; clear n0_ n1_; obtain ⟨t1, t2⟩ := HG8.out.cells; obtain ⟨t3, t4, t5⟩ := HCL.out _ HG8.out.below)
            | ((with_reducible refine gate_builtin (b := .append) (xs := #[.tmp 46, .tmp 51]) rfl ?_); at_builtin; refine Kd.R_append kRow (w0 := w) w.heap.size rfl (.tmp 46) (.tmp 51) 57 101 (.agg #[(.int .u32 0), (.int .i64 0), (.int .i64 0)]) 24 rfl Try.underlying57 infoRef rfl (by decide) (by omega) _ _ r [.int .u32 r.1.1, .int .i64 r.1.2, .int .i64 r.2] (fun _ => True) (fun _ => False) rfl rfl (kRow_mkM _ _ _ r) (fun _ hk => hk.elim) (fun _ _ => trivial) HG8.out.row HG8.out.below HG8.out.below.size (by have := HL8.out; simp at this ⊢; omega) ?_; intro v11_ w11_ ho hb hg hat; have n0_ := Aside0.mk (HG8.out.app ho hb hg); have n1_ := Aside0.mk (show (_ ++ [r]).length ≤ _ + 1 from by rw [List.length_append]; exact Nat.add_le_add_right HL8.out 1); clear HG8 HL8 t1 t2 t3 t4 t5 ho hb hg hat; have HG8 := n0_; have HL8 := n1_; clear n0_ n1_; obtain ⟨t1, t2⟩ := HG8.out.cells; obtain ⟨t3, t4, t5⟩ := HCL.out _ HG8.out.below))
          go_roundw
          case rel => exact ⟨k + 1, _, _, by omega, rfl, (by first | rfl | (simp; done) | go_num), HG8, ⟨by rw [HST.out]; simp [show ¬ c3 ≤ 0 from by have := HC3.out; omega, show c3 ≠ 0 from by have := HC3.out; omega]⟩, ⟨by have := HL8.out; simp at this ⊢; omega⟩⟩
          case measure => simp [intOf]; omega)
    · obtain rfl : k = l.length := by omega
      have cib : decide ((l.length : Int) < (l.length : Int)) = false := decide_eq_false (by omega)
      have cib2 : decide (l.length < l.length) = false := decide_eq_false (by omega)
      rw [List.take_length] at HF
      have HG8 := HG
      have HL8 := HL
      have HCL := Aside0.mk (fun W (hb : Below w.heap.size w W) => (⟨trivial, trivial, trivial⟩ : True ∧ True ∧ True))
      obtain ⟨t1, t2⟩ := HG8.out.cells
      obtain ⟨t3, t4, t5⟩ := HCL.out _ HG8.out.below
      clear HG HL
      cases dn
      · go_wp2_with (first
          | ((with_reducible refine gate_builtin (b := .append) (xs := #[.tmp 55, .tmp 59]) rfl ?_); at_builtin; refine Kd.R_append kRow (w0 := w) w.heap.size rfl (.tmp 55) (.tmp 59) 57 101 (.agg #[(.int .u32 0), (.int .i64 0), (.int .i64 0)]) 24 rfl Try.underlying57 infoRef rfl (by decide) (by omega) _ _ (p, v) [.int .u32 p.1, .int .i64 p.2, .int .i64 v] (fun _ => True) (fun _ => False) rfl rfl (kRow_mkM _ _ _ (p, v)) (fun _ hk => hk.elim) (fun _ _ => trivial) HG8.out.row HG8.out.below HG8.out.below.size (by have := HL8.out; simp at this ⊢; omega) ?_; intro v11_ w11_ ho hb hg hat; have n0_ := Aside0.mk (HG8.out.app ho hb hg); have n1_ := Aside0.mk (show (_ ++ [(p, v)]).length ≤ _ + 1 from by rw [List.length_append]; exact Nat.add_le_add_right HL8.out 1); clear HG8 HL8 t1 t2 t3 t4 t5 ho hb hg hat; have HG8 := n0_; have HL8 := n1_; clear n0_ n1_; obtain ⟨t1, t2⟩ := HG8.out.cells; obtain ⟨t3, t4, t5⟩ := HCL.out _ HG8.out.below))
        go_ret2
        exact ⟨_, rfl, by unfold putR; rw [HF.out]; exact HG8.out.row, HG8.out.below⟩
      · go_wp2
        go_ret2
        exact ⟨_, rfl, by unfold putR; rw [HF.out]; simpa using HG8.out.row, HG8.out.below⟩
end Go.Proofs.Ytaplkfnolimdmaa.Table
namespace Go.Proofs.Ytaplkfnolimdmaa.Table
open Go.RowKit Go.Proofs.Ytaplkfnolimdmaa.PC Go.Proofs.YtaplkfnolimdmaaW.PrintWords Go.Proofs.YtaplkfnolimdmaaW.PrintLast Go.Proofs.YtaplkfnolimdmaaW.PrintMore Go.Proofs.YtaplkfnolimdmaaW.Bits Go.Proofs.YtaplkfnolimdmaaW.MapRaw
set_option linter.unusedVariables false
set_option linter.unusedSimpArgs false

def ltP (p q : Pf) : Prop := Cov.lt (toS p) (toS q)
theorem toS_inj {p q : Pf} (h : toS p = toS q) : p = q := by
  have := congrArg ofS h
  rwa [of_to, of_to] at this
theorem ltP_irrefl (p : Pf) : ¬ ltP p p := Cov.lt_irrefl _
theorem ltP_trans {p q r : Pf} (h1 : ltP p q) (h2 : ltP q r) : ltP p r := Cov.lt_trans h1 h2
theorem ltP_total {p q : Pf} (h1 : ¬ ltP p q) (h2 : ¬ ltP q p) : p = q := toS_inj (Cov.lt_total h1 h2)
/-- The rows of a table, in order. -/
structure CanonOf (R : List Row) (L : List (Pf × Int)) : Prop where
  ord : R.Pairwise (fun a b => ltP a.1 b.1)
  mem : ∀ p v, (p, v) ∈ R ↔ lkL L p = some v
theorem sorted_ext {α : Type} {lt : α → α → Prop} (hirr : ∀ a, ¬ lt a a) (htr : ∀ a b c, lt a b → lt b c → lt a c) : ∀ {l m : List α}, l.Pairwise lt → m.Pairwise lt → (∀ x, x ∈ l ↔ x ∈ m) → l = m
  | [], m, _, _, h => by
    cases m with
    | nil => rfl
    | cons y m => exact absurd ((h y).2 (by simp)) (by simp)
  | x :: l, m, hl, hm, h => by
    cases m with
    | nil => exact absurd ((h x).1 (by simp)) (by simp)
    | cons y m =>
      obtain ⟨hx, hl'⟩ := List.pairwise_cons.1 hl
      obtain ⟨hy, hm'⟩ := List.pairwise_cons.1 hm
      have e : x = y := by
        rcases List.mem_cons.1 ((h x).1 (by simp)) with e | e
        · exact e
        · rcases List.mem_cons.1 ((h y).2 (by simp)) with e2 | e2
          · exact e2.symm
          · exact absurd (htr _ _ _ (hy x e) (hx y e2)) (hirr y)
      subst e
      congr 1
      refine sorted_ext hirr htr hl' hm' (fun z => ?_)
      constructor
      · intro hz
        rcases List.mem_cons.1 ((h z).1 (List.mem_cons_of_mem _ hz)) with e | e
        · rw [e] at hz; exact absurd (hx x hz) (hirr x)
        · exact e
      · intro hz
        rcases List.mem_cons.1 ((h z).2 (List.mem_cons_of_mem _ hz)) with e | e
        · rw [e] at hz; exact absurd (hy x hz) (hirr x)
        · exact e
theorem rows_ext {R R' : List Row} (h1 : R.Pairwise (fun a b => ltP a.1 b.1)) (h2 : R'.Pairwise (fun a b => ltP a.1 b.1)) (h : ∀ p v, (p, v) ∈ R ↔ (p, v) ∈ R') : R = R' :=
  sorted_ext (lt := fun a b : Row => ltP a.1 b.1) (fun a => ltP_irrefl a.1) (fun a b c h1 h2 => ltP_trans h1 h2) h1 h2 (fun x => h x.1 x.2)
theorem CanonOf.uniq {R R' : List Row} {L : List (Pf × Int)} (h : CanonOf R L) (h' : CanonOf R' L) : R = R' := rows_ext h.ord h'.ord (fun p v => (h.mem p v).trans (h'.mem p v).symm)
theorem CanonOf.nil : CanonOf [] [] := ⟨List.Pairwise.nil, fun p v => by simp [lkL]⟩
theorem sortP_ord {l : List Pf} (hn : l.Nodup) : (sortP l).Pairwise ltP := by
  have h1 : ((l.map toS).mergeSort leP).Pairwise (fun a b => leP a b = true) := by
    refine List.pairwise_mergeSort ?_ ?_ _
    · intro a b c h1 h2
      unfold leP at *
      simp at *
      omega
    · intro a b
      unfold leP
      simp
      omega
  have hp := sortP_perm l
  have hn2 : (sortP l).Nodup := hp.nodup_iff.2 hn
  unfold sortP at hn2 ⊢
  have h2 : (((l.map toS).mergeSort leP).map ofS).Pairwise (fun a b => leP (toS a) (toS b) = true) := by
    rw [List.pairwise_map]
    exact h1.imp (fun h => by rwa [to_of, to_of])
  refine (List.pairwise_and_iff.2 ⟨h2, hn2⟩).imp ?_
  rintro a b ⟨h3, h4⟩
  apply Classical.byContradiction
  intro hc
  refine h4 (toS_inj (Cov.S26.ext' ?_ ?_))
  all_goals (unfold ltP Cov.lt at hc; unfold leP at h3; simp at h3; omega)
theorem canon_rows {L : List (Pf × Int)} (hn : (L.map Prod.fst).Nodup) {l : List Pf} (hp : l.Perm (L.map Prod.fst)) : CanonOf (rowsOf L (sortP l)) L := by
  refine ⟨?_, fun p v => ?_⟩
  · unfold rowsOf
    rw [List.pairwise_map]
    exact sortP_ord (hp.nodup_iff.2 hn)
  · constructor
    · intro h
      exact rows_at hp h
    · intro h
      unfold rowsOf
      refine List.mem_map.2 ⟨p, (sortP_perm l).mem_iff.2 (hp.mem_iff.2 (lk_mem_iff.1 (by rw [h]; rfl))), by rw [h]; rfl⟩
theorem cmp3_neg {p q : Pf} : cmp3 p q < 0 ↔ ltP p q := by
  unfold cmp3 Leaf.cmpP ltP
  split
  · rename_i h; exact ⟨fun _ => h, fun _ => by omega⟩
  · rename_i h
    split
    · exact ⟨fun h2 => by omega, fun h2 => absurd h2 h⟩
    · exact ⟨fun h2 => by omega, fun h2 => absurd h2 h⟩
theorem cmp3_zero {p q : Pf} : cmp3 p q = 0 ↔ p = q := by
  unfold cmp3 Leaf.cmpP
  split
  · rename_i h
    exact ⟨fun h2 => by omega, fun h2 => by rw [h2] at h; exact absurd h (Cov.lt_irrefl _)⟩
  · split
    · rename_i h; exact ⟨fun _ => toS_inj h, fun _ => rfl⟩
    · rename_i h; exact ⟨fun h2 => by omega, fun h2 => absurd (by rw [h2]) h⟩
theorem cmp3_pos {p q : Pf} (h : 0 < cmp3 p q) : ltP q p := by
  apply Classical.byContradiction
  intro hc
  rcases Int.lt_trichotomy (cmp3 p q) 0 with h1 | h1 | h1
  · omega
  · omega
  · have h2 : ¬ ltP p q := fun h3 => by have := cmp3_neg.2 h3; omega
    have h3 := ltP_total h2 hc
    have := cmp3_zero.2 h3
    omega
/-- Put's rows, from the left on. -/
def insR (p : Pf) (v : Int) : List Row → List Row
  | [] => [(p, v)]
  | r :: t => if cmp3 p r.1 ≤ 0 then (p, v) :: (r :: t).filter (fun x => decide (cmp3 p x.1 ≠ 0)) else r :: insR p v t
theorem stp_true (p : Pf) (v : Int) : ∀ (t out : List Row), t.foldl (stp p v) (out, true) = (out ++ t.filter (fun x => decide (cmp3 p x.1 ≠ 0)), true)
  | [], out => by simp
  | r :: t, out => by
    rw [List.foldl_cons]
    have e : stp p v (out, true) r = (out ++ (if cmp3 p r.1 ≠ 0 then [r] else []), true) := by unfold stp; simp
    rw [e, stp_true p v t, List.filter_cons]
    by_cases h : cmp3 p r.1 ≠ 0
    · simp [h]
    · have h0 : cmp3 p r.1 = 0 := Classical.not_not.1 h
      simp [h0]
theorem stp_false (p : Pf) (v : Int) : ∀ (t out : List Row), (t.foldl (stp p v) (out, false)).1 ++ (if (t.foldl (stp p v) (out, false)).2 = true then [] else [(p, v)]) = out ++ insR p v t
  | [], out => by simp [insR]
  | r :: t, out => by
    rw [List.foldl_cons]
    unfold insR
    by_cases h : cmp3 p r.1 ≤ 0
    · have e : stp p v (out, false) r = (out ++ [(p, v)] ++ (if cmp3 p r.1 ≠ 0 then [r] else []), true) := by unfold stp; simp [h]
      rw [e, stp_true, if_pos h, List.filter_cons]
      by_cases h2 : cmp3 p r.1 ≠ 0
      · simp [h2]
      · have h0 : cmp3 p r.1 = 0 := Classical.not_not.1 h2
        simp [h0]
    · have e : stp p v (out, false) r = (out ++ [r], false) := by
        have h2 : cmp3 p r.1 ≠ 0 := by omega
        unfold stp; simp [h, h2]
      rw [e, stp_false p v t, if_neg h]
      simp
theorem putR_ins (l : List Row) (p : Pf) (v : Int) : putR l p v = insR p v l := by
  unfold putR
  rw [stp_false]
  rfl
theorem insR_mem {p : Pf} {v : Int} {x : Row} : ∀ {l : List Row}, x ∈ insR p v l ↔ x = (p, v) ∨ (x ∈ l ∧ x.1 ≠ p)
  | [] => by simp [insR]
  | r :: t => by
    unfold insR
    split
    · rw [List.mem_cons, List.mem_filter, decide_eq_true_iff]
      rw [show cmp3 p x.1 ≠ 0 ↔ x.1 ≠ p from ⟨fun h e => h (cmp3_zero.2 e.symm), fun h e => h (cmp3_zero.1 e).symm⟩]
    · rename_i h
      have hr : r.1 ≠ p := fun e => h (by rw [cmp3_zero.2 e.symm]; omega)
      rw [List.mem_cons, insR_mem (l := t), List.mem_cons]
      constructor
      · rintro (rfl | rfl | ⟨h1, h2⟩)
        · exact .inr ⟨.inl rfl, hr⟩
        · exact .inl rfl
        · exact .inr ⟨.inr h1, h2⟩
      · rintro (rfl | ⟨rfl | h1, h2⟩)
        · exact .inr (.inl rfl)
        · exact .inl rfl
        · exact .inr (.inr ⟨h1, h2⟩)
theorem insR_ord {p : Pf} {v : Int} : ∀ {l : List Row}, l.Pairwise (fun a b => ltP a.1 b.1) → (insR p v l).Pairwise (fun a b => ltP a.1 b.1)
  | [], _ => by simp [insR]
  | r :: t, h => by
    obtain ⟨hr, ht⟩ := List.pairwise_cons.1 h
    unfold insR
    split
    · rename_i hc
      refine List.pairwise_cons.2 ⟨fun x hx => ?_, h.filter _⟩
      obtain ⟨hm, hne⟩ := List.mem_filter.1 hx
      have hne := of_decide_eq_true hne
      show ltP p x.1
      rcases List.mem_cons.1 hm with rfl | hm
      · exact cmp3_neg.1 (by omega)
      · rcases Int.lt_or_eq_of_le hc with h1 | h1
        · exact ltP_trans (cmp3_neg.1 h1) (hr x hm)
        · rw [cmp3_zero.1 h1]; exact hr x hm
    · rename_i hc
      refine List.pairwise_cons.2 ⟨fun x hx => ?_, insR_ord ht⟩
      rcases insR_mem.1 hx with rfl | ⟨hm, _⟩
      · exact cmp3_pos (p := p) (q := r.1) (by omega)
      · exact hr x hm
theorem CanonOf.put {R : List Row} {L : List (Pf × Int)} (h : CanonOf R L) (p : Pf) (v : Int) : CanonOf (putR R p v) (putL L p v) := by
  rw [putR_ins]
  refine ⟨insR_ord h.ord, fun q u => ?_⟩
  rw [insR_mem, lk_put, h.mem q u]
  by_cases e : q = p
  · subst e
    rw [if_pos rfl]
    constructor
    · rintro (h1 | ⟨_, h1⟩)
      · cases h1; rfl
      · exact absurd rfl h1
    · intro h1; cases h1; exact .inl rfl
  · rw [if_neg e]
    constructor
    · rintro (h1 | ⟨h1, _⟩)
      · cases h1; exact absurd rfl e
      · exact h1
    · intro h1; exact .inr ⟨h1, e⟩
theorem CanonOf.drop {R : List Row} {L : List (Pf × Int)} (h : CanonOf R L) (hn : (L.map Prod.fst).Nodup) (p : Pf) : CanonOf (R.filter (fun r => !decide (r.1 = p))) (delL L p) := by
  refine ⟨h.ord.filter _, fun q u => ?_⟩
  rw [List.mem_filter, lk_del hn, h.mem q u]
  by_cases e : q = p
  · simp [e]
  · simp [e]
theorem CanonOf.within {R : List Row} {L : List (Pf × Int)} (h : CanonOf R L) (hn : (L.map Prod.fst).Nodup) {q : Pf} {lq : List Pf} (hq : lq.Perm ((L.map Prod.fst).filter (gIn q))) : R.filter (fun r => gIn q r.1) = rowsOf L (sortP lq) := by
  refine rows_ext (h.ord.filter _) ?_ (fun p v => ?_)
  · unfold rowsOf
    rw [List.pairwise_map]
    exact sortP_ord (hq.nodup_iff.2 (hn.filter _))
  · rw [List.mem_filter, h.mem]
    unfold rowsOf
    rw [List.mem_map]
    constructor
    · rintro ⟨h1, h2⟩
      exact ⟨p, (sortP_perm lq).mem_iff.2 (hq.mem_iff.2 (List.mem_filter.2 ⟨lk_mem_iff.1 (by rw [h1]; rfl), h2⟩)), by rw [h1]; rfl⟩
    · rintro ⟨p', hp', he⟩
      cases he
      obtain ⟨h1, h2⟩ := List.mem_filter.1 (hq.mem_iff.1 ((sortP_perm lq).mem_iff.1 hp'))
      obtain ⟨v, hv⟩ := Option.isSome_iff_exists.1 (lk_mem_iff.2 h1)
      exact ⟨by rw [hv]; rfl, h2⟩
theorem CanonOf.all {R : List Row} {L : List (Pf × Int)} (h : CanonOf R L) (hn : (L.map Prod.fst).Nodup) {lp : List Pf} (hp : lp.Perm (L.map Prod.fst)) : rowsOf L (sortP lp) = R := (canon_rows hn hp).uniq h
theorem CanonOf.len {R : List Row} {L : List (Pf × Int)} (h : CanonOf R L) (hn : (L.map Prod.fst).Nodup) : R.length = L.length := by
  rw [← h.all hn (List.Perm.refl _), rowsOf_length, (sortP_perm _).length_eq, List.length_map]
/-- The reference's Over: by bits. -/
def overR (R : List Row) (x : Int) (n : Nat) : List Row := (List.range n).flatMap (fun b : Nat => R.filter (fun r => decide (r.1.2 = (b : Int)) && gX x r.1))
theorem CanonOf.over {R : List Row} {L : List (Pf × Int)} (h : CanonOf R L) {x : Int} (hx : 0 ≤ x ∧ x < 4294967296) (hw : ∀ p ∈ L.map Prod.fst, wfP p) (hL : ∀ p v, lkL L p = some v → chk p.1 p.2 = 0) (n : Nat) (hn : n ≤ 33) : overR R x n = rowsOf L (overL L x n) := by
  have key : ∀ b : Nat, b < 33 → R.filter (fun r => decide (r.1.2 = (b : Int)) && gX x r.1) = rowsOf L (hit L x b).toList := fun b hb => by
    refine rows_ext (h.ord.filter _) ?_ (fun p v => ?_)
    · cases hit L x b <;> simp [rowsOf]
    · rw [List.mem_filter, h.mem, Bool.and_eq_true, decide_eq_true_iff]
      unfold rowsOf
      rw [List.mem_map]
      constructor
      · rintro ⟨h1, h2, h3⟩
        refine ⟨p, ?_, by rw [h1]; rfl⟩
        have he := (gX_iff hx (hw p (lk_mem_iff.1 (by rw [h1]; rfl))) (hL p v h1)).1 h3
        have e2 : p = (par x b, (b : Int)) := by rw [← h2, he]
        unfold hit
        rw [← e2, h1]
        simp
      · rintro ⟨p', hp', he⟩
        cases he
        unfold hit at hp'
        split at hp'
        · rename_i hs
          obtain rfl : p = (par x b, (b : Int)) := by simpa using hp'
          obtain ⟨u, hu⟩ := Option.isSome_iff_exists.1 hs
          exact ⟨by rw [hu]; rfl, rfl, (gX_iff hx (hw _ (lk_mem_iff.1 hs)) (hL _ u hu)).2 rfl⟩
        · simp at hp'
  unfold overR
  induction n with
  | zero => rfl
  | succ n ih =>
    rw [List.range_succ, List.flatMap_append, ih (by omega), overL_succ]
    simp only [List.flatMap_cons, List.flatMap_nil, List.append_nil]
    rw [key n (by omega)]
    unfold rowsOf
    rw [List.map_append]
end Go.Proofs.Ytaplkfnolimdmaa.Table
namespace Go.Proofs.Ytaplkfnolimdmaa.Table
open Go.RowKit Go.Proofs.Ytaplkfnolimdmaa.PC Go.Proofs.YtaplkfnolimdmaaW.PrintWords Go.Proofs.YtaplkfnolimdmaaW.PrintLast Go.Proofs.YtaplkfnolimdmaaW.PrintMore Go.Proofs.YtaplkfnolimdmaaW.Bits Go.Proofs.YtaplkfnolimdmaaW.MapRaw
set_option linter.unusedVariables false
set_option linter.unusedSimpArgs false

theorem eql_PQ (p q : Pf) (W : World) : (binOp BinOp.eql 26 (.agg #[.int .u32 p.1, .int .i64 p.2]) (.agg #[.int .u32 q.1, .int .i64 q.2])).run Try.prog W = .ok (.bool (p.1 == q.1 && p.2 == q.2)) W := by
  have h : (Op.equalIn Op.maxDepth 26 (.agg #[.int .u32 p.1, .int .i64 p.2]) (.agg #[.int .u32 q.1, .int .i64 q.2])).run Try.prog W = .ok (p.1 == q.1 && p.2 == q.2) W := by
    refine eqA_of Try.underlying26 (by kernel_rfl) ?_
    refine eqf_cons (by rfl) (by go_simp; rfl) (by go_simp; rfl) (by go_simp) ?_
    exact eqf_last (by rfl) (by go_simp; rfl) (by go_simp; rfl) (by go_simp)
  simp [binOp, Op.equal, go_sem, h]
theorem beq_P {p q : Pf} : (p.1 == q.1 && p.2 == q.2) = decide (p = q) := by
  rw [Bool.eq_iff_iff, Bool.and_eq_true, beq_iff_eq, beq_iff_eq, decide_eq_true_iff]
  exact ⟨fun h => Prod.ext h.1 h.2, fun h => by rw [h]; exact ⟨rfl, rfl⟩⟩
def dropR (l : List Row) (p : Pf) : List Row := l.filter (fun r => !decide (r.1 = p))
theorem dropR_take {l : List Row} {p : Pf} {k : Nat} {r : Row} (h : l.take (k + 1) = l.take k ++ [r]) : dropR (l.take (k + 1)) p = dropR (l.take k) p ++ (if r.1 = p then [] else [r]) := by
  unfold dropR
  rw [h, List.filter_append]
  by_cases e : r.1 = p <;> simp [e]
def withinR (l : List Row) (q : Pf) : List Row := l.filter (fun r => gIn q r.1)
theorem withinR_take {l : List Row} {q : Pf} {k : Nat} {r : Row} (h : l.take (k + 1) = l.take k ++ [r]) : withinR (l.take (k + 1)) q = withinR (l.take k) q ++ (if gIn q r.1 = true then [r] else []) := by
  unfold withinR
  rw [h, List.filter_append]
  by_cases e : gIn q r.1 = true <;> simp [e]
def DropPost (A : Option Addr) (c : Nat) (l : List Row) (p : Pf) (w : World) (e : Ending) (w' : World) : Prop :=
  ∃ v0, e = .returned (.tuple #[v0, .int .i64 (if (dropR l p).length = l.length then 5 else 0)]) ∧ (if (dropR l p).length = l.length then v0 = .slice A l.length c else Kd.R kRow 101 w' w.heap.size (fun _ => True) v0 (dropR l p)) ∧ Below w.heap.size w w'
theorem drop_same {A : Option Addr} {c : Nat} {l : List Row} {p : Pf} {w w' : World} (h : (dropR l p).length = l.length) (hb : Below w.heap.size w w') : DropPost A c l p w (.returned (.tuple #[.slice A l.length c, .int .i64 5])) w' :=
  ⟨_, by rw [if_pos h], by rw [if_pos h], hb⟩
theorem drop_less {A : Option Addr} {c : Nat} {l : List Row} {p : Pf} {w w' : World} {v0 : Value} (h : (dropR l p).length ≠ l.length) (hr : Kd.R kRow 101 w' w.heap.size (fun _ => True) v0 (dropR l p)) (hb : Below w.heap.size w w') : DropPost A c l p w (.returned (.tuple #[v0, .int .i64 0])) w' :=
  ⟨v0, by rw [if_neg h], by rw [if_neg h]; exact hr, hb⟩
set_option maxRecDepth 100000 in
set_option maxHeartbeats 4000000 in
theorem refDrop_calls (A : Option Addr) (c : Nat) (l : List Row) (p : Pf) (w : World) (hr : Kd.C kRow w A l.length l) (hl : l.length ≤ 1000000) (hp : wfP p) (hq : chk p.1 p.2 = 0) :
    Calls Try.prog 32 #[.slice A l.length c, .agg #[.int .u32 p.1, .int .i64 p.2]] w (DropPost A c l p w) := by
  have hu26 := Try.underlying26
  have hu101 := Try.underlying101
  have HR := Aside0.mk hr
  have HCK := Aside0.mk (fun W => by have := refCheck_calls hp W; rw [hq] at this; exact this)
  have HG0 := Aside0.mk (show PK w p w.heap.size [] (.slice none 0 0) (w.alloc (.cells #[.int .u32 p.1, .int .i64 p.2] 26)) from ⟨blk_new w _, Kd.R_nil _ _ _ _ _, (Below.refl _ w).alloc (Nat.le_refl _) _⟩)
  have hc0 := HG0.out.cells.1
  have hc1 := HG0.out.cells.2
  clear hr hq
  go_enter Try.func32, Try.ntmps32
  go_wp2_with (first
    | (go_at_call 28; refine (HCK.out _).mono ?_; rintro e w1 ⟨rfl, hb⟩; have HG1 := Aside0.mk (HG0.out.to hb); clear hb HG0 hc0 hc1))
  go_loopw [7, 8] (fun v7 v8 wr => ∃ (k : Nat) (out : List Row), k ≤ l.length ∧ v8 = .int .i64 k ∧ Aside0 (PK w p w.heap.size out v7 wr) ∧ Aside0 (out = dropR (l.take k) p) ∧ Aside0 (out.length ≤ 2 * k)) (fun _ i _ => l.length - (intOf i).toNat)
  case atStart => exact ⟨0, [], Nat.zero_le _, rfl, HG1, ⟨rfl⟩, ⟨by simp⟩⟩
  case round =>
    clear HG1
    obtain ⟨k, out, hk, rfl, HG, HF, HL⟩ := hrel
    by_cases hlt : k < l.length
    · have cib : decide ((k : Int) < (l.length : Int)) = true := decide_eq_true (by omega)
      have cib2 : decide (k < l.length) = true := decide_eq_true hlt
      obtain ⟨ad, ea, _, _, _⟩ := at_R HR.out (k : Int) (by omega) (by omega)
      cases ea
      have e1 : rdR l (k : Int) = l[k] := by unfold rdR; rw [List.getD_eq_getElem?_getD, Int.toNat_natCast, List.getElem?_eq_getElem hlt]; rfl
      have etk := List.take_succ_eq_append_getElem hlt
      have hmem : l[k] ∈ l := List.getElem_mem hlt
      obtain ⟨r, hr⟩ : ∃ r, l[k] = r := ⟨_, rfl⟩
      rw [hr] at e1 etk hmem
      have HTK := Aside0.mk etk
      have HM := Aside0.mk hmem
      have HCL := Aside0.mk (fun W (hb : Below w.heap.size w W) => (show W.cell? (ad.add (k * 3)) = some (.int .u32 r.1.1) ∧ W.cell? ⟨(ad.add (k * 3)).block, (ad.add (k * 3)).off + 1, none⟩ = some (.int .i64 r.1.2) ∧ W.cell? ⟨(ad.add (k * 3)).block, (ad.add (k * 3)).off + 2, none⟩ = some (.int .i64 r.2) from by
        obtain ⟨ad2, e2, d0, d1, d2⟩ := at_R (Kd.C_below HR.out hb) (k : Int) (by omega) (by omega)
        cases e2
        rw [e1] at d0 d1 d2
        exact ⟨d0, d1, d2⟩))
      clear e1 hr etk hmem
      have hq1 : (0 : Int) ≤ (k : Int) := by omega
      have hq2 : (k : Int) < (l.length : Int) := by omega
      have HL8 := Aside0.mk (show out.length ≤ 2 * k from HL.out)
      have hne := fun W => neq_P r.1 p W
      obtain ⟨b, hb0⟩ : ∃ b, (r.1.1 == p.1 && r.1.2 == p.2) = b := ⟨_, rfl⟩
      simp only [hb0] at hne
      have HBB := Aside0.mk hb0
      clear hb0
      have HV := Aside0.mk (Kd.R_slice HG.out.row)
      go_wp2
      refine q_region (fun W => PK w p w.heap.size out u7 W) (by kernel_rfl) (by kernel_rfl) (HG.out.to (Below.refl _ _).drew) ?_
      repeat (first
        | go_big_quiet_skip
        | (go_big_quiet_want; first
          | (go_big_quiet_op; first
            | go_big_quiet_on
            | (apply Exists.intro; refine ⟨?_, ?_⟩; (· (intros; with_reducible rfl)); go_big_quiet_on)
            | (apply Exists.intro; refine ⟨?_, ?_⟩; (· (intro W hW; fail)); go_big_quiet_on))
          | (refine q_op (v := ?_) ?_ ?_; rotate_left 1; (· (intro W hW; obtain ⟨t1, t2⟩ := hW.cells; obtain ⟨t3, t4, t5⟩ := HCL.out W hW.below; go_simp; (try with_reducible rfl))); (try simp only [Act.put, List.setIfInBounds_toArray, List.set_cons_zero, List.set_cons_succ]); go_big_quiet_on)
          | (refine q_call (v := ?_) (f := ?_) (args := ?_) ?_ ?_ ?_; rotate_left 3; (· (intro W hW; go_simp; (try with_reducible exact ⟨rfl, rfl⟩))); (· (intro W hW; fail)); (try simp only [Act.put, List.setIfInBounds_toArray, List.set_cons_zero, List.set_cons_succ]); go_big_quiet_on)))
      refine wpQuiet_nil ?_
      intro w8 hW8
      have HG8 := Aside0.mk hW8
      clear hW8 HG
      obtain ⟨t1, t2⟩ := HG8.out.cells
      obtain ⟨t3, t4, t5⟩ := HCL.out _ HG8.out.below
      clear hne
      have hbb : b = decide (r.1 = p) := by rw [← HBB.out, beq_P]
      have HDT := Aside0.mk (dropR_take (p := p) HTK.out)
      cases b with
      | true =>
        have HE := Aside0.mk (of_decide_eq_true hbb.symm)
        clear hbb
        go_wp2
        go_roundw
        case rel => exact ⟨k + 1, _, by omega, (by first | rfl | (simp; done) | go_num), HG8, ⟨by rw [HDT.out, if_pos HE.out, List.append_nil]; exact HF.out⟩, ⟨by have := HL8.out; omega⟩⟩
        case measure => simp [intOf]; omega
      | false =>
        have HE := Aside0.mk (of_decide_eq_false hbb.symm)
        clear hbb
        go_wp2_with (first
          | ((with_reducible refine gate_builtin (b := .append) (xs := #[.tmp 28, .tmp 33]) rfl ?_); at_builtin; refine Kd.R_append kRow (w0 := w) w.heap.size rfl (.tmp 28) (.tmp 33) 57 101 (.agg #[(.int .u32 0), (.int .i64 0), (.int .i64 0)]) 24 rfl Try.underlying57 infoRef rfl (by decide) (by omega) _ _ r [.int .u32 r.1.1, .int .i64 r.1.2, .int .i64 r.2] (fun _ => True) (fun _ => False) rfl rfl (kRow_mkM _ _ _ r) (fun _ hk => hk.elim) (fun _ _ => trivial) HG8.out.row HG8.out.below HG8.out.below.size (by have := HL8.out; simp at this ⊢; omega) ?_; intro v11_ w11_ ho hb hg hat; have n0_ := Aside0.mk (HG8.out.app ho hb hg); clear HG8 ho hb hg hat; have HG8 := n0_; clear n0_))
        go_roundw
        case rel => exact ⟨k + 1, _, by omega, (by first | rfl | (simp; done) | go_num), HG8, ⟨by rw [HDT.out, if_neg HE.out, HF.out]⟩, ⟨by have := HL8.out; simp at this ⊢; omega⟩⟩
        case measure => simp [intOf]; omega
    · obtain rfl : k = l.length := by omega
      have cib : decide ((l.length : Int) < (l.length : Int)) = false := decide_eq_false (by omega)
      have cib2 : decide (l.length < l.length) = false := decide_eq_false (by omega)
      rw [List.take_length] at HF
      obtain ⟨A7, c7, e7⟩ := Kd.R_slice HG.out.row
      subst e7
      have HF2 := HF.out
      subst HF2
      clear HF
      obtain ⟨m, hm⟩ : ∃ m, (dropR l p).length = m := ⟨_, rfl⟩
      simp only [hm]
      have HMM := Aside0.mk hm
      clear hm
      by_cases hll : m = l.length
      · subst hll
        go_wp2
        go_ret2
        exact drop_same HMM.out HG.out.below
      · have h1 : decide (m = l.length) = false := decide_eq_false hll
        have h2 : ((m : Int) == (l.length : Int)) = false := beq_eq_false_iff_ne.2 (by omega)
        have h3 : (m == l.length) = false := beq_eq_false_iff_ne.2 hll
        have HLL := Aside0.mk hll
        clear hll
        go_wp2
        go_ret2
        exact drop_less (by rw [HMM.out]; exact HLL.out) (by have := HG.out.row; rw [HMM.out] at this; exact this) HG.out.below
set_option maxRecDepth 100000 in
set_option maxHeartbeats 4000000 in
theorem refAt_calls (A : Option Addr) (c : Nat) (l : List Row) (p : Pf) (w : World) (hr : Kd.C kRow w A l.length l) (hl : l.length ≤ 1000000) :
    Calls Try.prog 68 #[.slice A l.length c, .agg #[.int .u32 p.1, .int .i64 p.2]] w fun e w' => e = .returned (.tuple #[.int .i64 ((lkL l p).getD 0), .bool (lkL l p).isSome]) ∧ Below w.heap.size w w' := by
  have hu26 := Try.underlying26
  have hu101 := Try.underlying101
  have HR := Aside0.mk hr
  have HG0 := Aside0.mk (show PK w p w.heap.size [] (.slice none 0 0) (w.alloc (.cells #[.int .u32 p.1, .int .i64 p.2] 26)) from ⟨blk_new w _, Kd.R_nil _ _ _ _ _, (Below.refl _ w).alloc (Nat.le_refl _) _⟩)
  clear hr
  obtain ⟨res, hres⟩ : ∃ res, lkL l p = res := ⟨_, rfl⟩
  rw [hres]
  have HRES := Aside0.mk hres
  clear hres
  go_enter Try.func68, Try.ntmps68
  go_wp2
  go_loopw [6] (fun v6 wr => ∃ k : Nat, k ≤ l.length ∧ v6 = .int .i64 k ∧ Aside0 (PK w p w.heap.size [] (.slice none 0 0) wr) ∧ Aside0 (lkL (l.drop k) p = res)) (fun i _ => l.length - (intOf i).toNat)
  case atStart => exact ⟨0, Nat.zero_le _, rfl, HG0, ⟨HRES.out⟩⟩
  case round =>
    clear HG0
    obtain ⟨k, hk, rfl, HG, HF⟩ := hrel
    by_cases hlt : k < l.length
    · have HDR := Aside0.mk (List.drop_eq_getElem_cons hlt)
      have cib : decide ((k : Int) < (l.length : Int)) = true := decide_eq_true (by omega)
      have cib2 : decide (k < l.length) = true := decide_eq_true hlt
      obtain ⟨ad, ea, _, _, _⟩ := at_R HR.out (k : Int) (by omega) (by omega)
      cases ea
      have e1 : rdR l (k : Int) = l[k] := by unfold rdR; rw [List.getD_eq_getElem?_getD, Int.toNat_natCast, List.getElem?_eq_getElem hlt]; rfl
      have etk := List.take_succ_eq_append_getElem hlt
      have hmem : l[k] ∈ l := List.getElem_mem hlt
      obtain ⟨r, hr⟩ : ∃ r, l[k] = r := ⟨_, rfl⟩
      rw [hr] at e1 etk hmem HDR
      have HTK := Aside0.mk etk
      have HM := Aside0.mk hmem
      have HCL := Aside0.mk (fun W (hb : Below w.heap.size w W) => (show W.cell? (ad.add (k * 3)) = some (.int .u32 r.1.1) ∧ W.cell? ⟨(ad.add (k * 3)).block, (ad.add (k * 3)).off + 1, none⟩ = some (.int .i64 r.1.2) ∧ W.cell? ⟨(ad.add (k * 3)).block, (ad.add (k * 3)).off + 2, none⟩ = some (.int .i64 r.2) from by
        obtain ⟨ad2, e2, d0, d1, d2⟩ := at_R (Kd.C_below HR.out hb) (k : Int) (by omega) (by omega)
        cases e2
        rw [e1] at d0 d1 d2
        exact ⟨d0, d1, d2⟩))
      clear e1 hr etk hmem
      have hq1 : (0 : Int) ≤ (k : Int) := by omega
      have hq2 : (k : Int) < (l.length : Int) := by omega
      have heq := fun W => eql_PQ r.1 p W
      obtain ⟨b, hb0⟩ : ∃ b, (r.1.1 == p.1 && r.1.2 == p.2) = b := ⟨_, rfl⟩
      simp only [hb0] at heq
      have HBB := Aside0.mk hb0
      clear hb0
      go_wp2
      refine q_region (fun W => PK w p w.heap.size [] (.slice none 0 0) W) (by kernel_rfl) (by kernel_rfl) (HG.out.to (Below.refl _ _).drew) ?_
      repeat (first
        | go_big_quiet_skip
        | (go_big_quiet_want; first
          | (go_big_quiet_op; first
            | go_big_quiet_on
            | (apply Exists.intro; refine ⟨?_, ?_⟩; (· (intros; with_reducible rfl)); go_big_quiet_on)
            | (apply Exists.intro; refine ⟨?_, ?_⟩; (· (intro W hW; fail)); go_big_quiet_on))
          | (refine q_op (v := ?_) ?_ ?_; rotate_left 1; (· (intro W hW; obtain ⟨t1, t2⟩ := hW.cells; obtain ⟨t3, t4, t5⟩ := HCL.out W hW.below; go_simp; (try with_reducible rfl))); (try simp only [Act.put, List.setIfInBounds_toArray, List.set_cons_zero, List.set_cons_succ]); go_big_quiet_on)
          | (refine q_call (v := ?_) (f := ?_) (args := ?_) ?_ ?_ ?_; rotate_left 3; (· (intro W hW; go_simp; (try with_reducible exact ⟨rfl, rfl⟩))); (· (intro W hW; fail)); (try simp only [Act.put, List.setIfInBounds_toArray, List.set_cons_zero, List.set_cons_succ]); go_big_quiet_on)))
      refine wpQuiet_nil ?_
      intro w8 hW8
      have HG8 := Aside0.mk hW8
      clear hW8 HG heq
      obtain ⟨t3, t4, t5⟩ := HCL.out _ HG8.out.below
      have hbb : b = decide (r.1 = p) := by rw [← HBB.out, beq_P]
      have hlk : lkL (l.drop k) p = if r.1 = p then some r.2 else lkL (l.drop (k + 1)) p := by rw [HDR.out]; rfl
      cases b with
      | true =>
        rw [if_pos (of_decide_eq_true hbb.symm), HF.out] at hlk
        have HLK := Aside0.mk hlk
        clear hbb hlk
        go_wp2
        go_ret2
        rw [HLK.out]
        exact ⟨rfl, HG8.out.below⟩
      | false =>
        rw [if_neg (of_decide_eq_false hbb.symm), HF.out] at hlk
        have HLK := Aside0.mk hlk
        clear hbb hlk
        go_wp2
        go_roundw
        case rel => exact ⟨k + 1, by omega, (by first | rfl | (simp; done) | go_num), HG8, ⟨HLK.out.symm⟩⟩
        case measure => simp [intOf]; omega
    · obtain rfl : k = l.length := by omega
      have cib : decide ((l.length : Int) < (l.length : Int)) = false := decide_eq_false (by omega)
      have cib2 : decide (l.length < l.length) = false := decide_eq_false (by omega)
      rw [List.drop_length] at HF
      have HF2 := HF.out
      change none = res at HF2
      subst HF2
      clear HF
      go_wp2
      go_ret2
      exact ⟨rfl, HG.out.below⟩
set_option maxRecDepth 100000 in
set_option maxHeartbeats 4000000 in
theorem refIn4_calls (A : Option Addr) (c : Nat) (l : List Row) (p : Pf) (w : World) (hr : Kd.C kRow w A l.length l) (hl : l.length ≤ 1000000) (hp : wfP p) (hw : ∀ r ∈ l, wfP r.1) :
    Calls Try.prog 69 #[.slice A l.length c, .agg #[.int .u32 p.1, .int .i64 p.2]] w fun e w' => ∃ v0, e = .returned v0 ∧ Kd.R kRow 101 w' w.heap.size (fun _ => True) v0 (withinR l p) ∧ Below w.heap.size w w' := by
  have hu26 := Try.underlying26
  have hu101 := Try.underlying101
  have HR := Aside0.mk hr
  have HP := Aside0.mk hp
  have HW := Aside0.mk hw
  have HG0 := Aside0.mk (show PK w p w.heap.size [] (.slice none 0 0) (w.alloc (.cells #[.int .u32 p.1, .int .i64 p.2] 26)) from ⟨blk_new w _, Kd.R_nil _ _ _ _ _, (Below.refl _ w).alloc (Nat.le_refl _) _⟩)
  clear hr hp hw
  go_enter Try.func69, Try.ntmps69
  go_wp2
  go_loopw [5, 6] (fun v5 v6 wr => ∃ (k : Nat) (out : List Row), k ≤ l.length ∧ v6 = .int .i64 k ∧ Aside0 (PK w p w.heap.size out v5 wr) ∧ Aside0 (out = withinR (l.take k) p) ∧ Aside0 (out.length ≤ 2 * k)) (fun _ i _ => l.length - (intOf i).toNat)
  case atStart => exact ⟨0, [], Nat.zero_le _, rfl, HG0, ⟨rfl⟩, ⟨by simp⟩⟩
  case round =>
    clear HG0
    obtain ⟨k, out, hk, rfl, HG, HF, HL⟩ := hrel
    by_cases hlt : k < l.length
    · have cib : decide ((k : Int) < (l.length : Int)) = true := decide_eq_true (by omega)
      have cib2 : decide (k < l.length) = true := decide_eq_true hlt
      obtain ⟨ad, ea, _, _, _⟩ := at_R HR.out (k : Int) (by omega) (by omega)
      cases ea
      have e1 : rdR l (k : Int) = l[k] := by unfold rdR; rw [List.getD_eq_getElem?_getD, Int.toNat_natCast, List.getElem?_eq_getElem hlt]; rfl
      have etk := List.take_succ_eq_append_getElem hlt
      have hmem : l[k] ∈ l := List.getElem_mem hlt
      obtain ⟨r, hr⟩ : ∃ r, l[k] = r := ⟨_, rfl⟩
      rw [hr] at e1 etk hmem
      have HTK := Aside0.mk etk
      have HM := Aside0.mk hmem
      have HCL := Aside0.mk (fun W (hb : Below w.heap.size w W) => (show W.cell? (ad.add (k * 3)) = some (.int .u32 r.1.1) ∧ W.cell? ⟨(ad.add (k * 3)).block, (ad.add (k * 3)).off + 1, none⟩ = some (.int .i64 r.1.2) ∧ W.cell? ⟨(ad.add (k * 3)).block, (ad.add (k * 3)).off + 2, none⟩ = some (.int .i64 r.2) from by
        obtain ⟨ad2, e2, d0, d1, d2⟩ := at_R (Kd.C_below HR.out hb) (k : Int) (by omega) (by omega)
        cases e2
        rw [e1] at d0 d1 d2
        exact ⟨d0, d1, d2⟩))
      clear e1 hr etk hmem
      have hq1 : (0 : Int) ≤ (k : Int) := by omega
      have hq2 : (k : Int) < (l.length : Int) := by omega
      have HL8 := Aside0.mk (show out.length ≤ 2 * k from HL.out)
      obtain ⟨b, hb0⟩ : ∃ b, gIn p r.1 = b := ⟨_, rfl⟩
      have HWI := Aside0.mk (fun W => by have := refWithin_calls (p := r.1) (q := p) (HW.out r HM.out) HP.out W; rw [hb0] at this; exact this)
      have HDT := Aside0.mk (by have := withinR_take (q := p) HTK.out; rw [hb0] at this; exact this)
      clear hb0
      go_wp2
      refine q_region (fun W => PK w p w.heap.size out u5 W) (by kernel_rfl) (by kernel_rfl) (HG.out.to (Below.refl _ _).drew) ?_
      repeat (first
        | go_big_quiet_skip
        | (go_big_quiet_want; first
          | (go_big_quiet_op; first
            | go_big_quiet_on
            | (apply Exists.intro; refine ⟨?_, ?_⟩; (· (intros; with_reducible rfl)); go_big_quiet_on)
            | (apply Exists.intro; refine ⟨?_, ?_⟩; (· (intro W hW; (refine (HWI.out W).mono ?_; rintro e w6 ⟨rfl, hb⟩; exact ⟨rfl, hW.to hb⟩))); go_big_quiet_on))
          | (refine q_op (v := ?_) ?_ ?_; rotate_left 1; (· (intro W hW; obtain ⟨t1, t2⟩ := hW.cells; obtain ⟨t3, t4, t5⟩ := HCL.out W hW.below; go_simp; (try with_reducible rfl))); (try simp only [Act.put, List.setIfInBounds_toArray, List.set_cons_zero, List.set_cons_succ]); go_big_quiet_on)
          | (refine q_call (v := ?_) (f := ?_) (args := ?_) ?_ ?_ ?_; rotate_left 3; (· (intro W hW; go_simp; (try with_reducible exact ⟨rfl, rfl⟩))); (· (intro W hW; (refine (HWI.out W).mono ?_; rintro e w6 ⟨rfl, hb⟩; exact ⟨rfl, hW.to hb⟩))); (try simp only [Act.put, List.setIfInBounds_toArray, List.set_cons_zero, List.set_cons_succ]); go_big_quiet_on)))
      refine wpQuiet_nil ?_
      intro w8 hW8
      have HG8 := Aside0.mk hW8
      clear hW8 HG HWI
      obtain ⟨t3, t4, t5⟩ := HCL.out _ HG8.out.below
      cases b with
      | true =>
        go_wp2_with (first
          | ((with_reducible refine gate_builtin (b := .append) (xs := #[.tmp 20, .tmp 25]) rfl ?_); at_builtin; refine Kd.R_append kRow (w0 := w) w.heap.size rfl (.tmp 20) (.tmp 25) 57 101 (.agg #[(.int .u32 0), (.int .i64 0), (.int .i64 0)]) 24 rfl Try.underlying57 infoRef rfl (by decide) (by omega) _ _ r [.int .u32 r.1.1, .int .i64 r.1.2, .int .i64 r.2] (fun _ => True) (fun _ => False) rfl rfl (kRow_mkM _ _ _ r) (fun _ hk => hk.elim) (fun _ _ => trivial) HG8.out.row HG8.out.below HG8.out.below.size (by have := HL8.out; simp at this ⊢; omega) ?_; intro v11_ w11_ ho hb hg hat; have n0_ := Aside0.mk (HG8.out.app ho hb hg); clear HG8 ho hb hg hat; have HG8 := n0_; clear n0_))
        go_roundw
        case rel => exact ⟨k + 1, _, by omega, (by first | rfl | (simp; done) | go_num), HG8, ⟨by rw [HDT.out, HF.out]; simp⟩, ⟨by have := HL8.out; simp at this ⊢; omega⟩⟩
        case measure => simp [intOf]; omega
      | false =>
        go_wp2
        go_roundw
        case rel => exact ⟨k + 1, _, by omega, (by first | rfl | (simp; done) | go_num), HG8, ⟨by rw [HDT.out, HF.out]; simp⟩, ⟨by have := HL8.out; omega⟩⟩
        case measure => simp [intOf]; omega
    · obtain rfl : k = l.length := by omega
      have cib : decide ((l.length : Int) < (l.length : Int)) = false := decide_eq_false (by omega)
      have cib2 : decide (l.length < l.length) = false := decide_eq_false (by omega)
      rw [List.take_length] at HF
      have HF2 := HF.out
      subst HF2
      clear HF
      go_wp2
      go_ret
      exact ⟨_, rfl, HG.out.row, HG.out.below⟩
structure RK (w0 : World) (out : List Row) (v5 : Value) (W : World) : Prop where
  row : Kd.R kRow 101 W w0.heap.size (fun _ => True) v5 out
  below : Below w0.heap.size w0 W
theorem RK.to {w0 : World} {out : List Row} {v5 : Value} {W W' : World} (h : RK w0 out v5 W) (hb : Below W.heap.size W W') : RK w0 out v5 W' := ⟨Kd.R_below h.row hb, h.below.trans (hb.mono h.below.size)⟩
theorem overR_succ (l : List Row) (x : Int) (b : Nat) : overR l x (b + 1) = overR l x b ++ l.filter (fun r => decide (r.1.2 = (b : Int)) && gX x r.1) := by
  unfold overR
  rw [List.range_succ, List.flatMap_append]
  simp
theorem over_take {l : List Row} {x : Int} {b k : Nat} {r : Row} (h : l.take (k + 1) = l.take k ++ [r]) : (l.take (k + 1)).filter (fun r => decide (r.1.2 = (b : Int)) && gX x r.1) = (l.take k).filter (fun r => decide (r.1.2 = (b : Int)) && gX x r.1) ++ (if (decide (r.1.2 = (b : Int)) && gX x r.1) = true then [r] else []) := by
  rw [h, List.filter_append]
  cases e : (decide (r.1.2 = (b : Int)) && gX x r.1) <;> simp [e]
set_option maxRecDepth 100000 in
set_option maxHeartbeats 4000000 in
theorem refOver_calls (A : Option Addr) (c : Nat) (l : List Row) (x : Int) (w : World) (hr : Kd.C kRow w A l.length l) (hl : l.length ≤ 1000) (hx : 0 ≤ x ∧ x < 4294967296) (hw : ∀ r ∈ l, wfP r.1) :
    Calls Try.prog 36 #[.slice A l.length c, .int .u32 x] w fun e w' => ∃ v0, e = .returned v0 ∧ Kd.R kRow 101 w' w.heap.size (fun _ => True) v0 (overR l x 33) ∧ Below w.heap.size w w' := by
  have hu26 := Try.underlying26
  have hu101 := Try.underlying101
  have HR := Aside0.mk hr
  have HX := Aside0.mk hx
  have HW := Aside0.mk hw
  have HG0 := Aside0.mk (show RK w [] (.slice none 0 0) w from ⟨Kd.R_nil _ _ _ _ _, Below.refl _ w⟩)
  clear hr hx hw
  go_enter Try.func36, Try.ntmps36
  go_wp2
  go_loopw [5, 6] (fun v5 v6 wr => ∃ (b : Nat) (out : List Row), b ≤ 33 ∧ v6 = .int .i64 b ∧ Aside0 (RK w out v5 wr) ∧ Aside0 (out = overR l x b) ∧ Aside0 (out.length ≤ 1000 * b)) (fun _ i _ => 33 - (intOf i).toNat)
  case atStart => exact ⟨0, [], by omega, rfl, HG0, ⟨rfl⟩, ⟨by simp⟩⟩
  case round =>
    clear HG0
    obtain ⟨b, out, hb, rfl, HG, HF, HL⟩ := hrel
    obtain ⟨wo, rfl⟩ : ∃ wo : World, wo = wr := ⟨_, rfl⟩
    by_cases hle : b ≤ 32
    · have hle1 : decide ((b : Int) ≤ 32) = true := decide_eq_true (by omega)
      have hle2 : decide (b ≤ 32) = true := decide_eq_true hle
      go_wp2
      go_loopw [5, 7] (fun v5 v7 wr => ∃ (k : Nat) (out : List Row), k ≤ l.length ∧ v7 = .int .i64 k ∧ Aside0 (RK w out v5 wr) ∧ Aside0 (out = overR l x b ++ (l.take k).filter (fun r => decide (r.1.2 = (b : Int)) && gX x r.1)) ∧ Aside0 (out.length ≤ 1000 * b + k)) (fun _ i _ => l.length - (intOf i).toNat)
      case atStart => exact ⟨0, out, Nat.zero_le _, rfl, HG, ⟨by rw [HF.out]; simp⟩, ⟨HL.out⟩⟩
      case round =>
        clear HG HF HL
        obtain ⟨k, out, hk, rfl, HG, HF, HL⟩ := hrel
        by_cases hlt : k < l.length
        · have cib : decide ((k : Int) < (l.length : Int)) = true := decide_eq_true (by omega)
          have cib2 : decide (k < l.length) = true := decide_eq_true hlt
          obtain ⟨ad, ea, _, _, _⟩ := at_R HR.out (k : Int) (by omega) (by omega)
          cases ea
          have e1 : rdR l (k : Int) = l[k] := by unfold rdR; rw [List.getD_eq_getElem?_getD, Int.toNat_natCast, List.getElem?_eq_getElem hlt]; rfl
          have etk := List.take_succ_eq_append_getElem hlt
          have hmem : l[k] ∈ l := List.getElem_mem hlt
          obtain ⟨r, hr⟩ : ∃ r, l[k] = r := ⟨_, rfl⟩
          rw [hr] at e1 etk hmem
          have HTK := Aside0.mk etk
          have HM := Aside0.mk hmem
          have HCL := Aside0.mk (fun W (hb : Below w.heap.size w W) => (show W.cell? (ad.add (k * 3)) = some (.int .u32 r.1.1) ∧ W.cell? ⟨(ad.add (k * 3)).block, (ad.add (k * 3)).off + 1, none⟩ = some (.int .i64 r.1.2) ∧ W.cell? ⟨(ad.add (k * 3)).block, (ad.add (k * 3)).off + 2, none⟩ = some (.int .i64 r.2) from by
            obtain ⟨ad2, e2, d0, d1, d2⟩ := at_R (Kd.C_below HR.out hb) (k : Int) (by omega) (by omega)
            cases e2
            rw [e1] at d0 d1 d2
            exact ⟨d0, d1, d2⟩))
          clear e1 hr etk hmem
          have hq1 : (0 : Int) ≤ (k : Int) := by omega
          have hq2 : (k : Int) < (l.length : Int) := by omega
          have HL8 := Aside0.mk (show out.length ≤ 1000 * b + k from HL.out)
          have HIN := Aside0.mk (fun W => refIn_calls (x := x) (p := r.1) HX.out (HW.out r HM.out) W)
          have HDT := Aside0.mk (over_take (x := x) (b := b) HTK.out)
          have HG8 := HG
          clear HG HL
          obtain ⟨t3, t4, t5⟩ := HCL.out _ HG8.out.below
          by_cases hbb : r.1.2 = (b : Int)
          · have hb1 : (r.1.2 == (b : Int)) = true := beq_iff_eq.2 hbb
            have HBB := Aside0.mk hbb
            clear hbb
            cases hgx : gX x r.1 with
            | true =>
              rw [hgx] at HIN HDT
              clear hgx
              go_wp2_with (first
                | (go_at_call 16; refine (HIN.out _).mono ?_; rintro e w1 ⟨rfl, hb⟩; have n_ := Aside0.mk (HG8.out.to hb); clear HG8 hb t3 t4 t5 HIN; have HG8 := n_; clear n_; obtain ⟨t3, t4, t5⟩ := HCL.out _ HG8.out.below)
                | ((with_reducible refine gate_builtin (b := .append) (xs := #[.tmp 35, .tmp 40]) rfl ?_); at_builtin; refine Kd.R_append kRow (w0 := w) w.heap.size rfl (.tmp 35) (.tmp 40) 57 101 (.agg #[(.int .u32 0), (.int .i64 0), (.int .i64 0)]) 24 rfl Try.underlying57 infoRef rfl (by decide) (by omega) _ _ r [.int .u32 r.1.1, .int .i64 r.1.2, .int .i64 r.2] (fun _ => True) (fun _ => False) rfl rfl (kRow_mkM _ _ _ r) (fun _ hk => hk.elim) (fun _ _ => trivial) HG8.out.row HG8.out.below HG8.out.below.size (by have := HL8.out; simp at this ⊢; omega) ?_; intro v11_ w11_ ho hb hg hat; have n0_ := Aside0.mk (show RK w _ _ _ from ⟨ho, hb⟩); clear HG8 ho hb hg hat; have HG8 := n0_; clear n0_))
              go_roundw
              case rel => exact ⟨k + 1, _, by omega, (by first | rfl | (simp; done) | go_num), HG8, ⟨by rw [HDT.out, HF.out, HBB.out]; simp⟩, ⟨by have := HL8.out; simp at this ⊢; omega⟩⟩
              case measure => simp [intOf]; omega
            | false =>
              rw [hgx] at HIN HDT
              clear hgx
              go_wp2_with (first
                | (go_at_call 16; refine (HIN.out _).mono ?_; rintro e w1 ⟨rfl, hb⟩; have n_ := Aside0.mk (HG8.out.to hb); clear HG8 hb t3 t4 t5 HIN; have HG8 := n_; clear n_; obtain ⟨t3, t4, t5⟩ := HCL.out _ HG8.out.below))
              go_roundw
              case rel => exact ⟨k + 1, _, by omega, (by first | rfl | (simp; done) | go_num), HG8, ⟨by rw [HDT.out, HF.out]; simp⟩, ⟨by have := HL8.out; omega⟩⟩
              case measure => simp [intOf]; omega
          · have hb1 : (r.1.2 == (b : Int)) = false := beq_eq_false_iff_ne.2 hbb
            have HBB := Aside0.mk hbb
            clear hbb
            go_wp2
            go_roundw
            case rel => exact ⟨k + 1, _, by omega, (by first | rfl | (simp; done) | go_num), HG8, ⟨by rw [HDT.out, HF.out]; simp [HBB.out]⟩, ⟨by have := HL8.out; omega⟩⟩
            case measure => simp [intOf]; omega
        · obtain rfl : k = l.length := by omega
          have cib : decide ((l.length : Int) < (l.length : Int)) = false := decide_eq_false (by omega)
          have cib2 : decide (l.length < l.length) = false := decide_eq_false (by omega)
          rw [List.take_length, ← overR_succ] at HF
          go_wp2
          go_roundw
          case rel => exact ⟨b + 1, _, by omega, (by first | rfl | (simp; done) | go_num), HG, HF, ⟨by have := HL.out; omega⟩⟩
          case measure => simp [intOf]; omega
    · obtain rfl : b = 33 := by omega
      have HF2 := HF.out
      subst HF2
      clear HF
      go_wp2
      go_ret
      exact ⟨_, rfl, HG.out.row, HG.out.below⟩
end Go.Proofs.Ytaplkfnolimdmaa.Table
namespace Go.Proofs.Ytaplkfnolimdmaa.Table
open Go.RowKit
set_option linter.unusedVariables false
set_option linter.unusedSimpArgs false

section
variable {P : Program} {ops : Array Oper} {md : Region.Mode} {C : World → Prop} {l n : Nat}
theorem wpInR_of_quiet {o : Oper} {a : Act} {K : Act → Prop} {K' : Act → World → Prop} {Q' : Exit → Act → World → Prop} {w : World} (hd : ∀ c, o.op ≠ .defer c) (hw : C w) (h : ∀ a w', C w' → K a → K' a w') (hh : o.quiet P a C K) : o.wpIn (Fence.wide.inRound l) n P a w K' Q' := by
  obtain ⟨v, h1, h2⟩ := hh
  have h3 := h1 w hw
  unfold Oper.quietAt at h3
  refine ⟨fun _ _ => trivial, ?_⟩
  rw [Fence.inRound_round, Oper.semAt_some l a.eval o hd]
  generalize (execOp a.eval o).run P w = r at *
  cases r with
  | ok n' w' =>
    cases n' <;> simp only [Oper.quietUpon] at h3 <;> simp only [Oper.uponIn]
    case value u =>
      obtain ⟨e1, e2⟩ := h3
      rw [e1, e2]
      exact h _ _ hw h2
    case skip =>
      obtain ⟨e1, e2⟩ := h3
      rw [e1, ← e2]
      exact h _ _ hw h2
    case enter f args =>
      obtain ⟨e1, hc⟩ := h3
      rw [e1]
      refine ⟨fun hx => (by cases hx), ?_⟩
      exact (CallsIn.inRound l (callsIn_wide.2 hc)).mono fun e w'' ⟨he, hw''⟩ => by subst he; exact h _ _ hw'' h2
  | halt x w' => simp only [Oper.quietUpon] at h3
theorem wpOpInR_of_qOp {i : Nat} {a : Act} {K : Act → Prop} {K' : Act → World → Prop} {Q' : Exit → Act → World → Prop} {w : World} (hd : ∀ o, o ∈ ops.toList → ∀ c, o.op ≠ .defer c) (hC : C w) (h : ∀ a w', C w' → K a → K' a w') (hh : qOp P ops C i K a) : wpOpIn (Fence.wide.inRound l) n P ops Q' i K' a w := by
  unfold qOp at hh
  unfold wpOpIn
  split
  · rename_i ho; simp only [ho] at hh; exact h _ _ hC hh
  · rename_i o ho
    simp only [ho] at hh
    have hm : o ∈ ops.toList := by simpa using Array.mem_of_getElem? ho
    split
    · rename_i hw; simp only [hw, if_true] at hh; exact wpInR_of_quiet (hd o hm) hC h hh
    · rename_i hw; simp only [hw] at hh; exact ⟨fun _ _ => trivial, h _ _ hC hh⟩
theorem wpAnyInR_of_quiet {Q : Act → Prop} {Q' : Exit → Act → World → Prop} (hd : ∀ o, o ∈ ops.toList → ∀ c, o.op ≠ .defer c) (hQ : ∀ a w, C w → Q a → Q' .normal a w) : ∀ (fuel : Nat) (listed : Array Bool) (a : Act) (w : World), C w →
    wpAnyQ P md ops C Q fuel listed a → wpAnyIn (Fence.wide.inRound l) n P md ops Q' fuel listed a w
  | 0, _, _, _, hw, h => ⟨h.1, hQ _ _ hw h.2⟩
  | fuel + 1, _, _, _, hw, h => ⟨fun h0 => hQ _ _ hw (h.1 h0), fun i hi => wpOpInR_of_qOp hd hw (fun a' w' hw' => wpAnyInR_of_quiet hd hQ fuel _ a' w' hw') (h.2 i hi)⟩
def noDefer (l : List Oper) : Bool := l.all (fun o => match o.op with | .defer _ => false | _ => true)
theorem noDefer_spec {l : List Oper} (h : noDefer l = true) : ∀ o, o ∈ l → ∀ c, o.op ≠ .defer c := fun o ho c e => by
  have := List.all_eq_true.1 h o ho
  rw [e] at this
  cases this
theorem qIn_region {id : Nat} {T : Exit → Act → World → Prop} {a : Act} {w : World} {ls : List Oper} (K : World → Prop) (hm : P.follows .mixedOrders = true) (hB : Region.lexB .any ls.toArray = true) (hN : noDefer ls = true) (hK : K { w with drawn := w.drawn + 1 })
    (h : wpQuiet P ls.toArray K (fun a' => ∀ w', K w' → T .normal a' w') ls a) : (Code.region id ls.toArray true).wpIn (Fence.wide.inRound l) n P T a w := by
  simp only [Region.lexB, Bool.and_eq_true] at hB
  refine wpIn_region_any hm (wpAnyInR_of_quiet (Q := fun a' => ∀ w', K w' → T .normal a' w') (by simpa using noDefer_spec hN) (fun _ w' hw' h => h w' hw') _ _ _ _ hK ?_)
  have := wpAnyQ_lex (C := K) (md := .any) hB.1 ls.toArray.toList 0 (Array.replicate ls.toArray.size false) a (by simp) (by simpa using hB.2) (by simpa using h)
  simpa using this
end
end Go.Proofs.Ytaplkfnolimdmaa.Table
namespace Go.Proofs.Ytaplkfnolimdmaa.Table
open Go.RowKit Go.Proofs.Ytaplkfnolimdmaa.PC Go.Proofs.YtaplkfnolimdmaaW.PrintWords Go.Proofs.YtaplkfnolimdmaaW.PrintLast Go.Proofs.YtaplkfnolimdmaaW.PrintMore Go.Proofs.YtaplkfnolimdmaaW.Bits Go.Proofs.YtaplkfnolimdmaaW.MapRaw
attribute [local go_sem] Oper.semAt_some
set_option linter.unusedVariables false
set_option linter.unusedSimpArgs false

/-- A value that is such an iterator; its memory lies beside the blocks S. -/
def IterFree (S : Nat → Prop) (w : World) (f : Value) (rows : List Row) : Prop :=
  ∃ g A c, f = .func (.func 95) #[] #[.pointer (some ⟨g, 0, none⟩)] ∧ g < w.heap.size ∧ ¬ S g ∧ w.cell? ⟨g, 0, none⟩ = some (.slice A rows.length c) ∧ RowsIn S w.heap.size w A rows
theorem IterAt.free {n₀ : Nat} {w w' : World} {f : Value} {rows : List Row} (h : IterAt n₀ w f rows) (hb : Below w.heap.size w w') (S : Nat → Prop) (hS : ∀ k, S k → k < n₀ ∨ w.heap.size ≤ k) : IterFree S w' f rows := by
  obtain ⟨g, A, c, e, hg, hx, hr⟩ := h
  have hlt := (Array.getElem?_eq_some_iff.1 hx).1
  have hx' := blk_below hx hb
  refine ⟨g, A, c, e, Nat.lt_of_lt_of_le hlt hb.size, fun hs => by have := hS _ hs; omega, by rw [blk_cell hx']; rfl, ?_⟩
  intro j hj
  obtain ⟨ad, e1, hl, h0, h1, h2⟩ := (RowsAt.of_C (Kd.R_reads' hr).2.2).below hb j hj
  subst e1
  have hn : n₀ ≤ ad.block := ((Kd.R_bound hr).1 ad.block rfl).2.1
  exact ⟨ad, rfl, ⟨Nat.lt_of_lt_of_le hl hb.size, fun hs => by have := hS _ hs; omega⟩, h0, h1, h2⟩
theorem IterFree.subs {S : Nat → Prop} {w : World} {f : Value} {rows : List Row} (h : IterFree S w f rows) (hlen : rows.length ≤ 1000000) : ∃ g, f = .func (.func 95) #[] #[.pointer (some ⟨g, 0, none⟩)] ∧
    SeqStopsK Fence.wide 2 Try.prog 95 #[.pointer (some ⟨g, 0, none⟩)] (fun x : Sub rows => encRow x.1) (But (fun k => S k ∨ w.heap.size ≤ k)) (fun ys => ys.map (·.1) = rows) (fun pre => pre.map (·.1) <+: rows) rows.length w := by
  obtain ⟨g, A, c, e, hg, hng, hx, hr⟩ := h
  refine ⟨g, e, gone1_subsB Fence.wide 2 trivial rfl (by omega) g _ A c rows hlen w hg hx ?_⟩
  intro j hj
  obtain ⟨ad, e1, ⟨hl, hs⟩, h0⟩ := hr j hj
  exact ⟨ad, e1, ⟨hl, fun hs' => hs'.elim hs (fun h' => by omega)⟩, h0⟩
/-- A range over such an iterator: the body writes the blocks S, which lie ahead of the iterator's memory, and may leave early. -/
theorem range_genF {g : Operand} {p1 p2 : Nat} {assign body : Code} {Q : Exit → Act → World → Prop} {a : Act} {w : World} {f : Value} {rows : List Row} (S : Nat → Prop) (hS : ∀ k, S k → k < w.heap.size) (hg : a.eval g = f) (hIt : IterFree S w f rows) (hlen : rows.length ≤ 1000000)
    (I : List (Sub rows) → World → Prop) (Ix : Code → List (Sub rows) → World → Prop) (hI : OwnFrom w.heap.size I) (hIx : ∀ c, OwnFrom w.heap.size (Ix c)) (h0 : I [] w) (hIs : ∀ pre W, I pre W → w.heap.size ≤ W.heap.size) (hIb : ∀ pre W W', I pre W → Below W.heap.size W W' → I pre W')
    (Ax : Row → Act → World → Prop) (hAx : ∀ x a', OwnFrom w.heap.size (fun (_ : Unit) W => Ax x a' W))
    (hassign : ∀ (l : Nat) (x : Row) (W : World) (K : Act → World → Prop), w.heap.size ≤ W.heap.size → (∀ a' W', Below W.heap.size W W' → Ax x a' W' → K a' W') →
      assign.wpIn (Fence.wide.inRound l) 1 Try.prog (Exit.then K (fun _ _ _ => False)) { tmps := (a.tmps.setIfInBounds p1 (.agg #[.int .u32 x.1.1, .int .i64 x.1.2])).setIfInBounds p2 (.int .i64 x.2), defers := [] } W)
    (hbody : ∀ (l : Nat) (pre : List (Sub rows)) (x : Sub rows) (a' : Act) (W : World), I pre W → Ax x.1 a' W → pre.length < rows.length →
      body.wpIn (Fence.wide.inRound l) 1 Try.prog (fun e _ W' => But S W W' ∧ ((e = .normal ∧ I (pre ++ [x]) W') ∨ (e = .ret ∧ Ix .ret (pre ++ [x]) W') ∨ (∃ id, e = .exit id ∧ Ix (.exit id) (pre ++ [x]) W'))) a' W)
    (hdone : ∀ (D : Nat) (xs : List (Sub rows)) (W : World), w.heap.size ≤ D → xs.map (·.1) = rows → I xs W → W.heap[D]? = some (.deferred (some [])) → Q .normal { a with defers := { target := .collected D, args := #[] } :: a.defers } W)
    (hstop : ∀ (D : Nat) (c : Code) (pre : List (Sub rows)) (W : World), w.heap.size ≤ D → pre.map (·.1) <+: rows → Ix c pre W → W.heap[D]? = some (.deferred (some [])) → c.wp Try.prog Q { a with defers := { target := .collected D, args := #[] } :: a.defers } W) :
    (Code.rangeFunc g #[p1, p2] assign body).wp Try.prog Q a w := by
  obtain ⟨gf, ef, hseq⟩ := hIt.subs hlen
  subst ef
  refine wpIn_wide.1 (wpIn_rangeFunc_ownH (F := Fence.wide) (n := 3) rfl (by omega) hg trivial (enters_of Try.func95 (by kernel_rfl) rfl) hseq (fun h k => But.trans h k) ?hKb (Below.refl _ _) (fun _ => rfl)
    I Ix hI hIx h0 (fun x a' W => Ax x.1 a' W) (fun x a' => hAx x.1 a') ?assign ?body hdone (fun D c pre W h1 h2 h3 h4 => wpIn_wide.2 (hstop D c pre W h1 h2 h3 h4)))
  case hKb =>
    intro W l o o' hl ho _ _
    exact ⟨rfl, rfl, rfl, by simp [World.putObj], fun k hk hne => World.putObj_heap_other (fun e => hne (.inr (by omega)))⟩
  case assign =>
    intro l pre x W K hIp hK
    have e : (#[p1, p2].zip (encRow x.1)).foldl (fun (t : Array Value) (p, v) => t.setIfInBounds p v) a.tmps = (a.tmps.setIfInBounds p1 (.agg #[.int .u32 x.1.1.1, .int .i64 x.1.1.2])).setIfInBounds p2 (.int .i64 x.1.2) := by simp [encRow]
    rw [e]
    refine hassign l x.1 W K (hIs _ _ hIp) (fun a' W' hb hax => hK a' W' (keeps_of_below hb) (But.of_below hb) (hIb _ _ _ hIp hb) hax)
  case body =>
    rintro l pre x a' W hl ⟨r, hr⟩ hIp hax hlt
    refine wpIn_mono (hbody l pre x a' W hIp hax hlt) ?_
    rintro e a3 W3 ⟨hb, ⟨rfl, h1⟩ | ⟨rfl, h1⟩ | ⟨id, rfl, h1⟩⟩
    · exact ⟨keeps_of_but hb hS, hb.mono (fun k hk => .inl hk), h1⟩
    · exact ⟨keeps_of_but hb hS, h1⟩
    · exact ⟨keeps_of_but hb hS, h1⟩
/-- The same, for 'for p, v := range ..'. -/
theorem range_boxF {g : Operand} {p1 p2 b1 v2 : Nat} {assign body : Code} {Q : Exit → Act → World → Prop} {a : Act} {w : World} {f : Value} {rows : List Row} (S : Nat → Prop) (hS : ∀ k, S k → k < w.heap.size) (hg : a.eval g = f) (hIt : IterFree S w f rows) (hlen : rows.length ≤ 1000000)
    (I : List (Sub rows) → World → Prop) (Ix : Code → List (Sub rows) → World → Prop) (hI : OwnFrom w.heap.size I) (hIx : ∀ c, OwnFrom w.heap.size (Ix c)) (h0 : I [] w) (hIs : ∀ pre W, I pre W → w.heap.size ≤ W.heap.size) (hIb : ∀ pre W W', I pre W → Below W.heap.size W W' → I pre W')
    (hassign : ∀ (l : Nat) (x : Row) (W : World) (Bx : Nat) (K : Act → World → Prop), W.heap.size = Bx → K { tmps := frameOf a.tmps p1 p2 b1 v2 x Bx, defers := [] } (W.alloc (.cells #[.int .u32 x.1.1, .int .i64 x.1.2] 26)) →
      assign.wpIn (Fence.wide.inRound l) 1 Try.prog (Exit.then K (fun _ _ _ => False)) { tmps := (a.tmps.setIfInBounds p1 (.agg #[.int .u32 x.1.1, .int .i64 x.1.2])).setIfInBounds p2 (.int .i64 x.2), defers := [] } W)
    (hbody : ∀ (l : Nat) (pre : List (Sub rows)) (x : Row) (hx : x ∈ rows) (Bx : Nat) (W : World), I pre W → w.heap.size ≤ Bx → W.heap[Bx]? = some (.cells #[.int .u32 x.1.1, .int .i64 x.1.2] 26 (0, 0)) → pre.length < rows.length →
      body.wpIn (Fence.wide.inRound l) 1 Try.prog (fun e _ W' => BodyPost S I Ix (pre ++ [⟨x, hx⟩]) W e W') { tmps := frameOf a.tmps p1 p2 b1 v2 x Bx, defers := [] } W)
    (hdone : ∀ (D : Nat) (xs : List (Sub rows)) (W : World), w.heap.size ≤ D → xs.map (·.1) = rows → I xs W → W.heap[D]? = some (.deferred (some [])) → Q .normal { a with defers := { target := .collected D, args := #[] } :: a.defers } W)
    (hstop : ∀ (D : Nat) (c : Code) (pre : List (Sub rows)) (W : World), w.heap.size ≤ D → pre.map (·.1) <+: rows → Ix c pre W → W.heap[D]? = some (.deferred (some [])) → c.wp Try.prog Q { a with defers := { target := .collected D, args := #[] } :: a.defers } W) :
    (Code.rangeFunc g #[p1, p2] assign body).wp Try.prog Q a w := by
  refine range_genF S hS hg hIt hlen I Ix hI hIx h0 hIs hIb (BoxAx a.tmps w.heap.size p1 p2 b1 v2) (fun x a' => boxAx_own _ _ _ _ _ _ x a') ?_ ?_ hdone hstop
  · intro l x W K hW hK
    refine hassign l x W W.heap.size K rfl (hK _ _ ((Below.refl _ W).alloc (Nat.le_refl _) _) ⟨W.heap.size, hW, blk_new W _, rfl⟩)
  · rintro l pre x a' W hIp ⟨Bx, h1, h2, rfl⟩ hlt
    exact hbody l pre x.1 x.2 Bx W hIp h1 h2 hlt
/-- The same, for 'for range ..'. -/
theorem range_noneF {g : Operand} {p1 p2 : Nat} {body : Code} {Q : Exit → Act → World → Prop} {a : Act} {w : World} {f : Value} {rows : List Row} (S : Nat → Prop) (hS : ∀ k, S k → k < w.heap.size) (hg : a.eval g = f) (hIt : IterFree S w f rows) (hlen : rows.length ≤ 1000000)
    (I : List (Sub rows) → World → Prop) (Ix : Code → List (Sub rows) → World → Prop) (hI : OwnFrom w.heap.size I) (hIx : ∀ c, OwnFrom w.heap.size (Ix c)) (h0 : I [] w) (hIs : ∀ pre W, I pre W → w.heap.size ≤ W.heap.size) (hIb : ∀ pre W W', I pre W → Below W.heap.size W W' → I pre W')
    (hbody : ∀ (l : Nat) (pre : List (Sub rows)) (x : Row) (hx : x ∈ rows) (W : World), I pre W → pre.length < rows.length →
      body.wpIn (Fence.wide.inRound l) 1 Try.prog (fun e _ W' => BodyPost S I Ix (pre ++ [⟨x, hx⟩]) W e W') { tmps := (a.tmps.setIfInBounds p1 (.agg #[.int .u32 x.1.1, .int .i64 x.1.2])).setIfInBounds p2 (.int .i64 x.2), defers := [] } W)
    (hdone : ∀ (D : Nat) (xs : List (Sub rows)) (W : World), w.heap.size ≤ D → xs.map (·.1) = rows → I xs W → W.heap[D]? = some (.deferred (some [])) → Q .normal { a with defers := { target := .collected D, args := #[] } :: a.defers } W)
    (hstop : ∀ (D : Nat) (c : Code) (pre : List (Sub rows)) (W : World), w.heap.size ≤ D → pre.map (·.1) <+: rows → Ix c pre W → W.heap[D]? = some (.deferred (some [])) → c.wp Try.prog Q { a with defers := { target := .collected D, args := #[] } :: a.defers } W) :
    (Code.rangeFunc g #[p1, p2] .skip body).wp Try.prog Q a w := by
  refine range_genF S hS hg hIt hlen I Ix hI hIx h0 hIs hIb (fun x a' _ => a' = { tmps := (a.tmps.setIfInBounds p1 (.agg #[.int .u32 x.1.1, .int .i64 x.1.2])).setIfInBounds p2 (.int .i64 x.2), defers := [] }) (fun x a' => fun _ _ _ _ h _ _ => h) ?_ ?_ hdone hstop
  · intro l x W K hW hK
    exact wpIn_skip (hK _ _ (Below.refl _ _) rfl)
  · rintro l pre x a' W hIp rfl hlt
    exact hbody l pre x.1 x.2 W hIp hlt
end Go.Proofs.Ytaplkfnolimdmaa.Table

namespace Go.Proofs.Ytaplkfnolimdmaa.Table
open Go.RowKit Go.Proofs.Ytaplkfnolimdmaa.PC Go.Proofs.YtaplkfnolimdmaaW.PrintWords Go.Proofs.YtaplkfnolimdmaaW.PrintLast Go.Proofs.YtaplkfnolimdmaaW.PrintMore Go.Proofs.YtaplkfnolimdmaaW.Bits Go.Proofs.YtaplkfnolimdmaaW.MapRaw
attribute [local go_sem] Oper.semAt_some
set_option linter.unusedVariables false
set_option linter.unusedSimpArgs false

/-- The boxes of 'rows'. -/
structure RW (w0 : World) (sv : Value) (lv n : Int) (N : Nat) (Ds : List Nat) (W : World) : Prop where
  bs : W.heap[w0.heap.size]? = some (.cells #[sv] 57 (0, 0))
  bl : W.heap[w0.heap.size + 1]? = some (.cells #[.int .i64 lv] 3 (0, 0))
  br : W.heap[w0.heap.size + 2]? = some (.cells #[.bool false] 4 (0, 0))
  bn : W.heap[w0.heap.size + 3]? = some (.cells #[.int .i64 n] 3 (0, 0))
  below : Below w0.heap.size w0 W
  ord : w0.heap.size + 3 < N
  ds : ∀ D ∈ Ds, w0.heap.size + 3 < D ∧ D < N ∧ W.heap[D]? = some (.deferred (some []))
  nd : Ds.Nodup
  size : N ≤ W.heap.size
section
variable {w0 : World} {sv : Value} {lv n : Int} {N : Nat} {Ds : List Nat} {W W' : World}
theorem RW.keep (h : RW w0 sv lv n N Ds W) (hb : Below N W W') : RW w0 sv lv n N Ds W' := by
  have ho := h.ord
  exact ⟨(hb.block _ (by omega)).trans h.bs, (hb.block _ (by omega)).trans h.bl, (hb.block _ (by omega)).trans h.br, (hb.block _ (by omega)).trans h.bn, h.below.trans (hb.mono (by omega)), ho,
    fun D hD => ⟨(h.ds D hD).1, (h.ds D hD).2.1, (hb.block _ (h.ds D hD).2.1).trans (h.ds D hD).2.2⟩, h.nd, Nat.le_trans h.size hb.size⟩
theorem RW.to (h : RW w0 sv lv n N Ds W) (hb : Below W.heap.size W W') : RW w0 sv lv n N Ds W' := h.keep (hb.mono h.size)
theorem RW.mark {D : Nat} (h : RW w0 sv lv n N Ds W) (hD : N ≤ D) (hd : W.heap[D]? = some (.deferred (some []))) : RW w0 sv lv n (D + 1) (D :: Ds) W :=
  have hlt := (Array.getElem?_eq_some_iff.1 hd).1
  ⟨h.bs, h.bl, h.br, h.bn, h.below, by have := h.ord; omega, fun D' hD' => by
    rcases List.mem_cons.1 hD' with rfl | h'
    · exact ⟨by have := h.ord; omega, by omega, hd⟩
    · have := h.ds D' h'
      exact ⟨this.1, by omega, this.2.2⟩, List.nodup_cons.2 ⟨fun h' => by have := (h.ds D h').2.1; omega, h.nd⟩, by omega⟩
theorem RW.own {β : Type} {B : Nat} (hB : N ≤ B) (fn : β → Int) : OwnFrom B (fun s W => RW w0 sv lv (fn s) N Ds W) :=
  fun s W W' row hs hg hr => hs.keep ((Below.refl N W).grown hg hs.size (fun k e => Nat.le_trans hB (hr k e).1))
theorem RW.setN (h : RW w0 sv lv n N Ds W) (u : Int) : RW w0 sv lv u N Ds (W.setCell ⟨w0.heap.size + 3, 0, none⟩ (.int .i64 u)) := by
  have ho := h.ord
  have e : ∀ k, k ≠ w0.heap.size + 3 → (W.setCell ⟨w0.heap.size + 3, 0, none⟩ (.int .i64 u)).heap[k]? = W.heap[k]? := fun k hk => Below.heap_setCell _ _ _ _ hk
  exact ⟨(e _ (by omega)).trans h.bs, (e _ (by omega)).trans h.bl, (e _ (by omega)).trans h.br, blk_put h.bn 0 _ rfl, h.below.setCell (p := ⟨w0.heap.size + 3, 0, none⟩) (by simp) _, ho,
    fun D hD => ⟨(h.ds D hD).1, (h.ds D hD).2.1, (e D (by have := (h.ds D hD).1; omega)).trans (h.ds D hD).2.2⟩, h.nd, by simpa [World.setCell] using h.size⟩
theorem RW.facts (h : RW w0 sv lv n N Ds W) : W.cell? ⟨w0.heap.size, 0, none⟩ = some sv ∧ W.cell? ⟨w0.heap.size + 1, 0, none⟩ = some (.int .i64 lv) ∧ W.cell? ⟨w0.heap.size + 2, 0, none⟩ = some (.bool false) ∧ W.cell? ⟨w0.heap.size + 3, 0, none⟩ = some (.int .i64 n) ∧
    W.frozen? ⟨w0.heap.size + 2, 0, none⟩ = false ∧ W.frozen? ⟨w0.heap.size + 3, 0, none⟩ = false :=
  ⟨by rw [blk_cell h.bs]; rfl, by rw [blk_cell h.bl]; rfl, by rw [blk_cell h.br]; rfl, by rw [blk_cell h.bn]; rfl, blk_frozen h.br 0, blk_frozen h.bn 0⟩
end
theorem eql_funcI (W : World) (g : Nat) (c : Array Value) : (binOp BinOp.eql 43 (Value.func (Fn.func g) #[] c) Value.nilFunc).run Try.prog W = .ok (.bool false) W := by
  kernel_rfl
theorem RW.start (w : World) (sv : Value) (lv : Int) : RW w sv lv 0 (w.heap.size + 4) []
    ((((w.alloc (.cells #[sv] 57)).alloc (.cells #[.int .i64 lv] 3)).alloc (.cells #[.bool false] 4)).alloc (.cells #[.int .i64 0] 3)) := by
  have h1 := blk_new w (.cells #[sv] 57)
  have h2 := blk_new (w.alloc (.cells #[sv] 57)) (.cells #[.int .i64 lv] 3)
  have h3 := blk_new ((w.alloc (.cells #[sv] 57)).alloc (.cells #[.int .i64 lv] 3)) (.cells #[.bool false] 4)
  have h4 := blk_new (((w.alloc (.cells #[sv] 57)).alloc (.cells #[.int .i64 lv] 3)).alloc (.cells #[.bool false] 4)) (.cells #[.int .i64 0] 3)
  simp only [World.size_alloc] at h2 h3 h4
  exact ⟨blk_alloc (blk_alloc (blk_alloc h1 _) _) _, blk_alloc (blk_alloc h2 _) _, blk_alloc h3 _, h4, (((((Below.refl w.heap.size w).alloc (Nat.le_refl _) _).alloc (by simp) _).alloc (by simp; omega) _).alloc (by simp; omega) _), by omega, by simp, List.nodup_nil, by simp⟩
/-- The rows that have come. -/
def fstOf {rows : List Row} (pre : List (Sub rows)) : List Row := pre.map (·.1)
theorem pre_get {rows : List Row} {pre : List (Sub rows)} {x : Sub rows} (h : (pre ++ [x]).map (·.1) <+: rows) (hl : pre.length < rows.length) : rows[pre.length] = x.1 := by
  obtain ⟨t, ht⟩ := h
  have e : rows[pre.length]? = some x.1 := by
    have : (((pre ++ [x]).map (·.1)) ++ t)[pre.length]? = some x.1 := by simp
    rw [ht] at this
    exact this
  rw [List.getElem?_eq_getElem hl] at e
  exact Option.some.inj e

set_option maxRecDepth 100000 in
set_option maxHeartbeats 20000000 in
theorem rows_calls (f : Value) (rows : List Row) (n₀ : Nat) (A : Option Addr) (c : Nat) (leave : Int) (w : World) (hit : IterAt n₀ w f rows) (hr : Kd.C kRow w A rows.length rows) (hl : rows.length ≤ 1000) :
    Calls Try.prog 35 #[f, .slice A rows.length c, .int .i64 leave] w fun e w' => e = .returned (.bool true) ∧ Below w.heap.size w w' := by
  have hu26 := Try.underlying26
  have hu101 := Try.underlying101
  have HIT := Aside0.mk hit
  obtain ⟨g, A', c', ef, _, _, _⟩ := hit
  subst ef
  have HR := Aside0.mk hr
  have HL := Aside0.mk hl
  have hg0 := RW.start w (.slice A rows.length c) leave
  have HG := Aside0.mk hg0
  obtain ⟨B0, hB0⟩ : ∃ b, w.heap.size = b := ⟨_, rfl⟩
  clear hr hl hg0
  refine calls_of_wp_marks Try.func35 rfl ?_
  simp only [Try.ntmps35, List.size_toArray, List.length_cons, List.length_nil, Nat.reduceAdd, Nat.reduceSub, Array.replicate_succ, Array.replicate_zero, List.push_toArray, List.append_toArray, List.nil_append, List.cons_append]
  clear hB0
  have hfe := eql_funcI
  go_wp2
  generalize ((((w.alloc (.cells #[.slice A rows.length c] 57)).alloc (.cells #[.int .i64 leave] 3)).alloc (.cells #[.bool false] 4)).alloc (.cells #[.int .i64 0] 3)) = w1 at HG ⊢
  refine range_noneF (fun k => k = w.heap.size + 2 ∨ k = w.heap.size + 3) (fun k hk => by have := HG.out.size; omega) rfl (HIT.out.free HG.out.below _ (fun k hk => .inr (by omega))) (by have := HL.out; omega)
    (fun pre W => RW w (.slice A rows.length c) leave (pre.length : Int) (w.heap.size + 4) [] W ∧ w1.heap.size ≤ W.heap.size) (fun c' _ W => c' = .exit 0 ∧ ∃ n, RW w (.slice A rows.length c) leave n (w.heap.size + 4) [] W)
    ((RW.own HG.out.size _).and (fun s W W' row hs hg hr => Nat.le_trans hs hg.size)) (fun c' s W W' row hs hg hr => ⟨hs.1, by obtain ⟨n, hn⟩ := hs.2; exact ⟨n, RW.own (β := Unit) HG.out.size (fun _ => n) () W W' row hn hg hr⟩⟩) ⟨by simpa using HG.out, Nat.le_refl _⟩ (fun pre W h => h.2) (fun pre W W' h hb => ⟨h.1.to hb, Nat.le_trans h.2 hb.size⟩) ?_ ?_ ?_
  · intro l pre r hrm W hI hlt
    obtain ⟨hT, hsz⟩ := hI
    have hn0 : (0 : Int) ≤ (pre.length : Int) := by omega
    have hn1 : (pre.length : Int) ≤ 1000 := by have := HL.out; omega
    have HLEN := Aside0.mk (show (((pre ++ [(⟨r, hrm⟩ : Sub rows)]).length : Nat) : Int) = (pre.length : Int) + 1 from by simp)
    obtain ⟨n, hn⟩ : ∃ n, (pre.length : Int) = n := ⟨_, rfl⟩
    rw [hn] at hT hn0 hn1 HLEN
    have HT := Aside0.mk hT
    have HSZ := Aside0.mk hsz
    obtain ⟨f1, f2, f3, f4, f5, f6⟩ := hT.facts
    obtain ⟨_, _, _, g4, _, g6⟩ := (hT.setN (n + 1)).facts
    have g2 := (hT.setN (n + 1)).facts.2.1
    have HBT := Aside0.mk (show But (fun k => k = w.heap.size + 2 ∨ k = w.heap.size + 3) W (W.setCell ⟨w.heap.size + 3, 0, none⟩ (.int .i64 (n + 1))) from But.setCell (p := ⟨w.heap.size + 3, 0, none⟩) (But.refl _ _) (.inr rfl) _)
    clear hn hT hsz hlt
    simp only [List.setIfInBounds_toArray, List.set_cons_zero, List.set_cons_succ]
    by_cases hgt : n + 1 > leave
    · have h1 : decide (n + 1 > leave) = true := decide_eq_true hgt
      have h2 : decide (leave < n + 1) = true := decide_eq_true hgt
      have h3 : decide (leave ≤ n) = true := decide_eq_true (by omega)
      clear hgt
      gi_wp2
      exact BodyPost.exit HBT.out ⟨rfl, _, HT.out.setN (n + 1)⟩
    · have h1 : decide (n + 1 > leave) = false := decide_eq_false hgt
      have h2 : decide (leave < n + 1) = false := decide_eq_false hgt
      have h3 : decide (leave ≤ n) = false := decide_eq_false (by omega)
      clear hgt
      gi_wp2
      exact BodyPost.normal HBT.out ⟨by rw [HLEN.out]; exact HT.out.setN (n + 1), Nat.le_trans HSZ.out HBT.out.size⟩
  · intro D xs W hD hxs hI hK
    have HT := Aside0.mk (hI.1.mark (Nat.le_trans HG.out.size hD) hK)
    clear hxs hI hK
    obtain ⟨f1, f2, f3, f4, f5, f6⟩ := HT.out.facts
    have HT0 := Aside0.mk (HT.out.setN 0)
    have HD1 := Aside0.mk (show w.heap.size + 4 ≤ D from Nat.le_trans HG.out.size hD)
    clear HG hD
    go_wp2
    clear f1 f2 f3 f4 f5 f6
    generalize (W.setCell ⟨w.heap.size + 3, 0, none⟩ (.int .i64 0)) = w2 at HT0 ⊢
    clear HT
    refine range_boxF (b1 := 8) (v2 := 9) (fun k => k = w.heap.size + 2 ∨ k = w.heap.size + 3) (fun k hk => by have := HT0.out.size; have := HD1.out; omega) rfl (HIT.out.free HT0.out.below _ (fun k hk => .inr (by omega))) (by have := HL.out; omega)
      (fun pre W => RW w (.slice A rows.length c) leave (pre.length : Int) (D + 1) [D] W ∧ w2.heap.size ≤ W.heap.size) (fun _ pre _ => ¬ (fstOf pre <+: rows))
      ((RW.own HT0.out.size _).and (fun s W W' row hs hg hr => Nat.le_trans hs hg.size)) (fun _ _ _ _ _ h _ _ => h) ⟨by simpa using HT0.out, Nat.le_refl _⟩ (fun pre W h => h.2) (fun pre W W' h hb => ⟨h.1.to hb, Nat.le_trans h.2 hb.size⟩) ?_ ?_ ?_ (fun _ _ _ _ _ h1 h2 _ => absurd h1 h2)
    · intro l x W Bx K hBx hK
      simp only [frameOf, List.setIfInBounds_toArray, List.set_cons_zero, List.set_cons_succ] at hK ⊢
      gi_wp2
      (try simp only [hBx])
      exact hK
    · intro l pre r hrm Bx W3 hI hBx hbx hlt
      obtain ⟨hT, hsz⟩ := hI
      obtain ⟨ad, ea, _, _, _⟩ := at_R HR.out (pre.length : Int) (by omega) (by omega)
      cases ea
      have e1 : rdR rows (pre.length : Int) = rows[pre.length] := by unfold rdR; rw [List.getD_eq_getElem?_getD, Int.toNat_natCast, List.getElem?_eq_getElem hlt]; rfl
      have HPG := Aside0.mk (fun h => pre_get (pre := pre) (x := ⟨r, hrm⟩) h hlt)
      obtain ⟨y, hy⟩ : ∃ y, rows[pre.length] = y := ⟨_, rfl⟩
      rw [hy] at e1 HPG
      have HCL := Aside0.mk (fun W (hb : Below w.heap.size w W) => (show W.cell? (ad.add (pre.length * 3)) = some (.int .u32 y.1.1) ∧ W.cell? ⟨(ad.add (pre.length * 3)).block, (ad.add (pre.length * 3)).off + 1, none⟩ = some (.int .i64 y.1.2) ∧ W.cell? ⟨(ad.add (pre.length * 3)).block, (ad.add (pre.length * 3)).off + 2, none⟩ = some (.int .i64 y.2) from by
        obtain ⟨ad2, e2, d0, d1, d2⟩ := at_R (Kd.C_below HR.out hb) (pre.length : Int) (by omega) (by omega)
        cases e2
        rw [e1] at d0 d1 d2
        exact ⟨d0, d1, d2⟩))
      clear e1 hy
      have HLEN := Aside0.mk (show (((pre ++ [(⟨r, hrm⟩ : Sub rows)]).length : Nat) : Int) = (pre.length : Int) + 1 from by simp)
      obtain ⟨n, hn⟩ : ∃ n, pre.length = n := ⟨_, rfl⟩
      rw [hn] at hT HCL HLEN
      have hq1 : (0 : Int) ≤ (n : Int) := by omega
      have hq2 : (n : Int) < (rows.length : Int) := by omega
      have hq3 : (n : Int) ≤ 1000 := by have := HL.out; omega
      have hq4 : n < rows.length := by omega
      have h1 : decide ((n : Int) ≥ (rows.length : Int)) = false := decide_eq_false (by omega)
      have h2 : decide ((rows.length : Int) ≤ (n : Int)) = false := decide_eq_false (by omega)
      have h3 : decide (rows.length ≤ n) = false := decide_eq_false (by omega)
      have HT3 := Aside0.mk hT
      have HSZ := Aside0.mk hsz
      have HKF := Aside0.mk (fun W (hb : Below W3.heap.size W3 W) => (show W.cell? ⟨w.heap.size, 0, none⟩ = some (.slice (some ad) rows.length c) ∧ W.cell? ⟨w.heap.size + 3, 0, none⟩ = some (.int .i64 n) ∧ W.cell? ⟨Bx, 0, none⟩ = some (.int .u32 r.1.1) ∧ W.cell? ⟨Bx, 1, none⟩ = some (.int .i64 r.1.2) ∧
          W.cell? (ad.add (n * 3)) = some (.int .u32 y.1.1) ∧ W.cell? ⟨(ad.add (n * 3)).block, (ad.add (n * 3)).off + 1, none⟩ = some (.int .i64 y.1.2) ∧ W.cell? ⟨(ad.add (n * 3)).block, (ad.add (n * 3)).off + 2, none⟩ = some (.int .i64 y.2) from by
        have hT' := hT.to hb
        have hb' := blk_below hbx hb
        exact ⟨hT'.facts.1, hT'.facts.2.2.2.1, by rw [blk_cell hb']; rfl, by rw [blk_cell hb']; rfl, (HCL.out W hT'.below).1, (HCL.out W hT'.below).2.1, (HCL.out W hT'.below).2.2⟩))
      clear hn hT hsz hbx hBx hlt HCL
      simp only [frameOf, List.setIfInBounds_toArray, List.set_cons_zero, List.set_cons_succ]
      by_cases e1 : r.1 = y.1
      · have hne : ∀ W, (binOp BinOp.neq 26 (.agg #[.int .u32 r.1.1, .int .i64 r.1.2]) (.agg #[.int .u32 y.1.1, .int .i64 y.1.2])).run Try.prog W = .ok (.bool false) W := fun W => by have := neq_P r.1 y.1 W; rw [beq_P, decide_eq_true e1] at this; exact this
        by_cases e2 : r.2 = y.2
        · have e3 : (r.2 != y.2) = false := by rw [e2]; simp
          have e4 : (r.2 == y.2) = true := by rw [e2]; simp
          have e5 : decide (r.2 = y.2) = true := decide_eq_true e2
          clear e1 e2 HPG
          gi_wp2
          refine qIn_region (fun W => Below W3.heap.size W3 W) (by kernel_rfl) (by kernel_rfl) (by kernel_rfl) ((Below.refl _ _).drew) ?_
          repeat (first
            | go_big_quiet_skip
            | (go_big_quiet_want; first
              | (go_big_quiet_op; first
                | go_big_quiet_on
                | (apply Exists.intro; refine ⟨?_, ?_⟩; (· (intros; with_reducible rfl)); go_big_quiet_on))
              | (refine q_op (v := ?_) ?_ ?_; rotate_left 1; (· (intro W hW; obtain ⟨t1, t2, t3, t4, t5, t6, t7⟩ := HKF.out W hW; go_simp; (try with_reducible rfl))); (try simp only [Act.put, List.setIfInBounds_toArray, List.set_cons_zero, List.set_cons_succ]); go_big_quiet_on)))
          refine wpQuiet_nil ?_
          intro w7 hW7
          have HB7 := Aside0.mk hW7
          have HT7 := Aside0.mk (HT3.out.to hW7)
          clear hW7
          obtain ⟨f1, f2, f3, f4, f5, f6⟩ := HT7.out.facts
          gi_wp2
          have hbt : But (fun k => k = w.heap.size + 2 ∨ k = w.heap.size + 3) W3 (w7.setCell ⟨w.heap.size + 3, 0, none⟩ (.int .i64 ((n : Int) + 1))) := But.setCell (p := ⟨w.heap.size + 3, 0, none⟩) (But.of_below HB7.out) (.inr rfl) _
          exact BodyPost.normal hbt ⟨by rw [HLEN.out]; exact HT7.out.setN ((n : Int) + 1), Nat.le_trans HSZ.out hbt.size⟩
        · have e3 : (r.2 != y.2) = true := bne_iff_ne.2 e2
          have e4 : (r.2 == y.2) = false := beq_eq_false_iff_ne.2 e2
          have e5 : decide (r.2 = y.2) = false := decide_eq_false e2
          have HNP := Aside0.mk (show ¬ (fstOf (pre ++ [(⟨r, hrm⟩ : Sub rows)]) <+: rows) from fun h => e2 (by have h3 := HPG.out h; rw [h3]))
          clear e1 e2 HPG
          gi_wp2
          refine qIn_region (fun W => Below W3.heap.size W3 W) (by kernel_rfl) (by kernel_rfl) (by kernel_rfl) ((Below.refl _ _).drew) ?_
          repeat (first
            | go_big_quiet_skip
            | (go_big_quiet_want; first
              | (go_big_quiet_op; first
                | go_big_quiet_on
                | (apply Exists.intro; refine ⟨?_, ?_⟩; (· (intros; with_reducible rfl)); go_big_quiet_on))
              | (refine q_op (v := ?_) ?_ ?_; rotate_left 1; (· (intro W hW; obtain ⟨t1, t2, t3, t4, t5, t6, t7⟩ := HKF.out W hW; go_simp; (try with_reducible rfl))); (try simp only [Act.put, List.setIfInBounds_toArray, List.set_cons_zero, List.set_cons_succ]); go_big_quiet_on)))
          refine wpQuiet_nil ?_
          intro w7 hW7
          have HB7 := Aside0.mk hW7
          have HT7 := Aside0.mk (HT3.out.to hW7)
          clear hW7
          obtain ⟨f1, f2, f3, f4, f5, f6⟩ := HT7.out.facts
          gi_wp2
          exact BodyPost.ret (But.setCell (p := ⟨w.heap.size + 2, 0, none⟩) (But.of_below HB7.out) (.inl rfl) _) HNP.out
      · have hne : ∀ W, (binOp BinOp.neq 26 (.agg #[.int .u32 r.1.1, .int .i64 r.1.2]) (.agg #[.int .u32 y.1.1, .int .i64 y.1.2])).run Try.prog W = .ok (.bool true) W := fun W => by have := neq_P r.1 y.1 W; rw [beq_P, decide_eq_false e1] at this; exact this
        have HNP := Aside0.mk (show ¬ (fstOf (pre ++ [(⟨r, hrm⟩ : Sub rows)]) <+: rows) from fun h => e1 (by have h3 := HPG.out h; rw [h3]))
        clear e1 HPG
        gi_wp2
        refine qIn_region (fun W => Below W3.heap.size W3 W) (by kernel_rfl) (by kernel_rfl) (by kernel_rfl) ((Below.refl _ _).drew) ?_
        repeat (first
          | go_big_quiet_skip
          | (go_big_quiet_want; first
            | (go_big_quiet_op; first
              | go_big_quiet_on
              | (apply Exists.intro; refine ⟨?_, ?_⟩; (· (intros; with_reducible rfl)); go_big_quiet_on))
            | (refine q_op (v := ?_) ?_ ?_; rotate_left 1; (· (intro W hW; obtain ⟨t1, t2, t3, t4, t5, t6, t7⟩ := HKF.out W hW; go_simp; (try with_reducible rfl))); (try simp only [Act.put, List.setIfInBounds_toArray, List.set_cons_zero, List.set_cons_succ]); go_big_quiet_on)))
        refine wpQuiet_nil ?_
        intro w7 hW7
        have HB7 := Aside0.mk hW7
        have HT7 := Aside0.mk (HT3.out.to hW7)
        clear hW7
        obtain ⟨f1, f2, f3, f4, f5, f6⟩ := HT7.out.facts
        gi_wp2
        exact BodyPost.ret (But.setCell (p := ⟨w.heap.size + 2, 0, none⟩) (But.of_below HB7.out) (.inl rfl) _) HNP.out
    · intro D2 xs W2 hD2 hxs hI hK
      have hlen : xs.length = rows.length := all_len hxs
      have hT := hI.1.mark (Nat.le_trans HT0.out.size hD2) hK
      rw [hlen] at hT
      have HT := Aside0.mk hT
      clear hlen hT hxs hI hK HT0 hD2
      obtain ⟨f1, f2, f3, f4, f5, f6⟩ := HT.out.facts
      go_wp2
      refine leaves_taken [D2, D] _ HT.out.nd (fun D' hD' => (Below.heap_setCell _ _ _ _ (by have h1 := (HT.out.ds D' hD').1; show D' ≠ w.heap.size + 2; omega)).trans (HT.out.ds D' hD').2.2) ?_
      intro W' hb
      have hds : ∀ k, k ∈ [D2, D] → w.heap.size + 3 < k := fun k hk => (HT.out.ds k hk).1
      have hb2 := blk_put HT.out.br 0 (.bool true) rfl
      have hsz := (Array.getElem?_eq_some_iff.1 hb2).1
      have hb3 := (hb.block _ hsz (fun h => by have := hds _ h; omega)).trans hb2
      have hc : W'.cell? ⟨w.heap.size + 2, 0, none⟩ = some (.bool true) := by rw [blk_cell hb3]; rfl
      refine ⟨.bool true, ?_, rfl, ?_⟩
      · simp [results, Try.f35, go_sem, hc]
      · exact (HT.out.below.setCell (p := ⟨w.heap.size + 2, 0, none⟩) (by simp) _).trans (hb.below (by have := HT.out.below.size; simp [World.setCell]; omega) (fun k hk => by have := hds k hk; omega))
  · rintro D c' pre W hD hpre ⟨rfl, n, hI⟩ hK
    have HT := Aside0.mk (hI.mark (Nat.le_trans HG.out.size hD) hK)
    clear hpre hI hK
    obtain ⟨f1, f2, f3, f4, f5, f6⟩ := HT.out.facts
    have HT0 := Aside0.mk (HT.out.setN 0)
    have HD1 := Aside0.mk (show w.heap.size + 4 ≤ D from Nat.le_trans HG.out.size hD)
    clear HG hD
    go_wp2
    clear f1 f2 f3 f4 f5 f6
    generalize (W.setCell ⟨w.heap.size + 3, 0, none⟩ (.int .i64 0)) = w2 at HT0 ⊢
    clear HT
    refine range_boxF (b1 := 8) (v2 := 9) (fun k => k = w.heap.size + 2 ∨ k = w.heap.size + 3) (fun k hk => by have := HT0.out.size; have := HD1.out; omega) rfl (HIT.out.free HT0.out.below _ (fun k hk => .inr (by omega))) (by have := HL.out; omega)
      (fun pre W => RW w (.slice A rows.length c) leave (pre.length : Int) (D + 1) [D] W ∧ w2.heap.size ≤ W.heap.size) (fun _ pre _ => ¬ (fstOf pre <+: rows))
      ((RW.own HT0.out.size _).and (fun s W W' row hs hg hr => Nat.le_trans hs hg.size)) (fun _ _ _ _ _ h _ _ => h) ⟨by simpa using HT0.out, Nat.le_refl _⟩ (fun pre W h => h.2) (fun pre W W' h hb => ⟨h.1.to hb, Nat.le_trans h.2 hb.size⟩) ?_ ?_ ?_ (fun _ _ _ _ _ h1 h2 _ => absurd h1 h2)
    · intro l x W Bx K hBx hK
      simp only [frameOf, List.setIfInBounds_toArray, List.set_cons_zero, List.set_cons_succ] at hK ⊢
      gi_wp2
      (try simp only [hBx])
      exact hK
    · intro l pre r hrm Bx W3 hI hBx hbx hlt
      obtain ⟨hT, hsz⟩ := hI
      obtain ⟨ad, ea, _, _, _⟩ := at_R HR.out (pre.length : Int) (by omega) (by omega)
      cases ea
      have e1 : rdR rows (pre.length : Int) = rows[pre.length] := by unfold rdR; rw [List.getD_eq_getElem?_getD, Int.toNat_natCast, List.getElem?_eq_getElem hlt]; rfl
      have HPG := Aside0.mk (fun h => pre_get (pre := pre) (x := ⟨r, hrm⟩) h hlt)
      obtain ⟨y, hy⟩ : ∃ y, rows[pre.length] = y := ⟨_, rfl⟩
      rw [hy] at e1 HPG
      have HCL := Aside0.mk (fun W (hb : Below w.heap.size w W) => (show W.cell? (ad.add (pre.length * 3)) = some (.int .u32 y.1.1) ∧ W.cell? ⟨(ad.add (pre.length * 3)).block, (ad.add (pre.length * 3)).off + 1, none⟩ = some (.int .i64 y.1.2) ∧ W.cell? ⟨(ad.add (pre.length * 3)).block, (ad.add (pre.length * 3)).off + 2, none⟩ = some (.int .i64 y.2) from by
        obtain ⟨ad2, e2, d0, d1, d2⟩ := at_R (Kd.C_below HR.out hb) (pre.length : Int) (by omega) (by omega)
        cases e2
        rw [e1] at d0 d1 d2
        exact ⟨d0, d1, d2⟩))
      clear e1 hy
      have HLEN := Aside0.mk (show (((pre ++ [(⟨r, hrm⟩ : Sub rows)]).length : Nat) : Int) = (pre.length : Int) + 1 from by simp)
      obtain ⟨n, hn⟩ : ∃ n, pre.length = n := ⟨_, rfl⟩
      rw [hn] at hT HCL HLEN
      have hq1 : (0 : Int) ≤ (n : Int) := by omega
      have hq2 : (n : Int) < (rows.length : Int) := by omega
      have hq3 : (n : Int) ≤ 1000 := by have := HL.out; omega
      have hq4 : n < rows.length := by omega
      have h1 : decide ((n : Int) ≥ (rows.length : Int)) = false := decide_eq_false (by omega)
      have h2 : decide ((rows.length : Int) ≤ (n : Int)) = false := decide_eq_false (by omega)
      have h3 : decide (rows.length ≤ n) = false := decide_eq_false (by omega)
      have HT3 := Aside0.mk hT
      have HSZ := Aside0.mk hsz
      have HKF := Aside0.mk (fun W (hb : Below W3.heap.size W3 W) => (show W.cell? ⟨w.heap.size, 0, none⟩ = some (.slice (some ad) rows.length c) ∧ W.cell? ⟨w.heap.size + 3, 0, none⟩ = some (.int .i64 n) ∧ W.cell? ⟨Bx, 0, none⟩ = some (.int .u32 r.1.1) ∧ W.cell? ⟨Bx, 1, none⟩ = some (.int .i64 r.1.2) ∧
          W.cell? (ad.add (n * 3)) = some (.int .u32 y.1.1) ∧ W.cell? ⟨(ad.add (n * 3)).block, (ad.add (n * 3)).off + 1, none⟩ = some (.int .i64 y.1.2) ∧ W.cell? ⟨(ad.add (n * 3)).block, (ad.add (n * 3)).off + 2, none⟩ = some (.int .i64 y.2) from by
        have hT' := hT.to hb
        have hb' := blk_below hbx hb
        exact ⟨hT'.facts.1, hT'.facts.2.2.2.1, by rw [blk_cell hb']; rfl, by rw [blk_cell hb']; rfl, (HCL.out W hT'.below).1, (HCL.out W hT'.below).2.1, (HCL.out W hT'.below).2.2⟩))
      clear hn hT hsz hbx hBx hlt HCL
      simp only [frameOf, List.setIfInBounds_toArray, List.set_cons_zero, List.set_cons_succ]
      by_cases e1 : r.1 = y.1
      · have hne : ∀ W, (binOp BinOp.neq 26 (.agg #[.int .u32 r.1.1, .int .i64 r.1.2]) (.agg #[.int .u32 y.1.1, .int .i64 y.1.2])).run Try.prog W = .ok (.bool false) W := fun W => by have := neq_P r.1 y.1 W; rw [beq_P, decide_eq_true e1] at this; exact this
        by_cases e2 : r.2 = y.2
        · have e3 : (r.2 != y.2) = false := by rw [e2]; simp
          have e4 : (r.2 == y.2) = true := by rw [e2]; simp
          have e5 : decide (r.2 = y.2) = true := decide_eq_true e2
          clear e1 e2 HPG
          gi_wp2
          refine qIn_region (fun W => Below W3.heap.size W3 W) (by kernel_rfl) (by kernel_rfl) (by kernel_rfl) ((Below.refl _ _).drew) ?_
          repeat (first
            | go_big_quiet_skip
            | (go_big_quiet_want; first
              | (go_big_quiet_op; first
                | go_big_quiet_on
                | (apply Exists.intro; refine ⟨?_, ?_⟩; (· (intros; with_reducible rfl)); go_big_quiet_on))
              | (refine q_op (v := ?_) ?_ ?_; rotate_left 1; (· (intro W hW; obtain ⟨t1, t2, t3, t4, t5, t6, t7⟩ := HKF.out W hW; go_simp; (try with_reducible rfl))); (try simp only [Act.put, List.setIfInBounds_toArray, List.set_cons_zero, List.set_cons_succ]); go_big_quiet_on)))
          refine wpQuiet_nil ?_
          intro w7 hW7
          have HB7 := Aside0.mk hW7
          have HT7 := Aside0.mk (HT3.out.to hW7)
          clear hW7
          obtain ⟨f1, f2, f3, f4, f5, f6⟩ := HT7.out.facts
          gi_wp2
          have hbt : But (fun k => k = w.heap.size + 2 ∨ k = w.heap.size + 3) W3 (w7.setCell ⟨w.heap.size + 3, 0, none⟩ (.int .i64 ((n : Int) + 1))) := But.setCell (p := ⟨w.heap.size + 3, 0, none⟩) (But.of_below HB7.out) (.inr rfl) _
          exact BodyPost.normal hbt ⟨by rw [HLEN.out]; exact HT7.out.setN ((n : Int) + 1), Nat.le_trans HSZ.out hbt.size⟩
        · have e3 : (r.2 != y.2) = true := bne_iff_ne.2 e2
          have e4 : (r.2 == y.2) = false := beq_eq_false_iff_ne.2 e2
          have e5 : decide (r.2 = y.2) = false := decide_eq_false e2
          have HNP := Aside0.mk (show ¬ (fstOf (pre ++ [(⟨r, hrm⟩ : Sub rows)]) <+: rows) from fun h => e2 (by have h3 := HPG.out h; rw [h3]))
          clear e1 e2 HPG
          gi_wp2
          refine qIn_region (fun W => Below W3.heap.size W3 W) (by kernel_rfl) (by kernel_rfl) (by kernel_rfl) ((Below.refl _ _).drew) ?_
          repeat (first
            | go_big_quiet_skip
            | (go_big_quiet_want; first
              | (go_big_quiet_op; first
                | go_big_quiet_on
                | (apply Exists.intro; refine ⟨?_, ?_⟩; (· (intros; with_reducible rfl)); go_big_quiet_on))
              | (refine q_op (v := ?_) ?_ ?_; rotate_left 1; (· (intro W hW; obtain ⟨t1, t2, t3, t4, t5, t6, t7⟩ := HKF.out W hW; go_simp; (try with_reducible rfl))); (try simp only [Act.put, List.setIfInBounds_toArray, List.set_cons_zero, List.set_cons_succ]); go_big_quiet_on)))
          refine wpQuiet_nil ?_
          intro w7 hW7
          have HB7 := Aside0.mk hW7
          have HT7 := Aside0.mk (HT3.out.to hW7)
          clear hW7
          obtain ⟨f1, f2, f3, f4, f5, f6⟩ := HT7.out.facts
          gi_wp2
          exact BodyPost.ret (But.setCell (p := ⟨w.heap.size + 2, 0, none⟩) (But.of_below HB7.out) (.inl rfl) _) HNP.out
      · have hne : ∀ W, (binOp BinOp.neq 26 (.agg #[.int .u32 r.1.1, .int .i64 r.1.2]) (.agg #[.int .u32 y.1.1, .int .i64 y.1.2])).run Try.prog W = .ok (.bool true) W := fun W => by have := neq_P r.1 y.1 W; rw [beq_P, decide_eq_false e1] at this; exact this
        have HNP := Aside0.mk (show ¬ (fstOf (pre ++ [(⟨r, hrm⟩ : Sub rows)]) <+: rows) from fun h => e1 (by have h3 := HPG.out h; rw [h3]))
        clear e1 HPG
        gi_wp2
        refine qIn_region (fun W => Below W3.heap.size W3 W) (by kernel_rfl) (by kernel_rfl) (by kernel_rfl) ((Below.refl _ _).drew) ?_
        repeat (first
          | go_big_quiet_skip
          | (go_big_quiet_want; first
            | (go_big_quiet_op; first
              | go_big_quiet_on
              | (apply Exists.intro; refine ⟨?_, ?_⟩; (· (intros; with_reducible rfl)); go_big_quiet_on))
            | (refine q_op (v := ?_) ?_ ?_; rotate_left 1; (· (intro W hW; obtain ⟨t1, t2, t3, t4, t5, t6, t7⟩ := HKF.out W hW; go_simp; (try with_reducible rfl))); (try simp only [Act.put, List.setIfInBounds_toArray, List.set_cons_zero, List.set_cons_succ]); go_big_quiet_on)))
        refine wpQuiet_nil ?_
        intro w7 hW7
        have HB7 := Aside0.mk hW7
        have HT7 := Aside0.mk (HT3.out.to hW7)
        clear hW7
        obtain ⟨f1, f2, f3, f4, f5, f6⟩ := HT7.out.facts
        gi_wp2
        exact BodyPost.ret (But.setCell (p := ⟨w.heap.size + 2, 0, none⟩) (But.of_below HB7.out) (.inl rfl) _) HNP.out
    · intro D2 xs W2 hD2 hxs hI hK
      have hlen : xs.length = rows.length := all_len hxs
      have hT := hI.1.mark (Nat.le_trans HT0.out.size hD2) hK
      rw [hlen] at hT
      have HT := Aside0.mk hT
      clear hlen hT hxs hI hK HT0 hD2
      obtain ⟨f1, f2, f3, f4, f5, f6⟩ := HT.out.facts
      go_wp2
      refine leaves_taken [D2, D] _ HT.out.nd (fun D' hD' => (Below.heap_setCell _ _ _ _ (by have h1 := (HT.out.ds D' hD').1; show D' ≠ w.heap.size + 2; omega)).trans (HT.out.ds D' hD').2.2) ?_
      intro W' hb
      have hds : ∀ k, k ∈ [D2, D] → w.heap.size + 3 < k := fun k hk => (HT.out.ds k hk).1
      have hb2 := blk_put HT.out.br 0 (.bool true) rfl
      have hsz := (Array.getElem?_eq_some_iff.1 hb2).1
      have hb3 := (hb.block _ hsz (fun h => by have := hds _ h; omega)).trans hb2
      have hc : W'.cell? ⟨w.heap.size + 2, 0, none⟩ = some (.bool true) := by rw [blk_cell hb3]; rfl
      refine ⟨.bool true, ?_, rfl, ?_⟩
      · simp [results, Try.f35, go_sem, hc]
      · exact (HT.out.below.setCell (p := ⟨w.heap.size + 2, 0, none⟩) (by simp) _).trans (hb.below (by have := HT.out.below.size; simp [World.setCell]; omega) (fun k hk => by have := hds k hk; omega))
end Go.Proofs.Ytaplkfnolimdmaa.Table
namespace Go.Proofs.Ytaplkfnolimdmaa.Table
open Go.RowKit Go.Proofs.Ytaplkfnolimdmaa.PC Go.Proofs.YtaplkfnolimdmaaW.PrintWords Go.Proofs.YtaplkfnolimdmaaW.PrintLast Go.Proofs.YtaplkfnolimdmaaW.PrintMore Go.Proofs.YtaplkfnolimdmaaW.Bits Go.Proofs.YtaplkfnolimdmaaW.MapRaw
set_option linter.unusedVariables false
set_option linter.unusedSimpArgs false

/-- These entries have been taken over. -/
def Took (L Lc : List (Pf × Int)) (js : List Nat) : Prop := ∀ p v, lkL Lc p = some v ↔ ∃ j, j ∈ js ∧ L[j]? = some (p, v)
theorem key_inj {L : List (Pf × Int)} (hn : (L.map Prod.fst).Nodup) {i j : Nat} {p : Pf} {u v : Int} (h1 : L[i]? = some (p, u)) (h2 : L[j]? = some (p, v)) : u = v := by
  have e1 := lk_some hn h1 rfl
  have e2 := lk_some hn h2 rfl
  rw [e1] at e2
  exact Option.some.inj e2
theorem Took.put {L Lc : List (Pf × Int)} {js : List Nat} (h : Took L Lc js) (hn : (L.map Prod.fst).Nodup) {j : Nat} {p : Pf} {v : Int} (hj : L[j]? = some (p, v)) : Took L (putL Lc p v) (js ++ [j]) := fun q u => by
  rw [lk_put]
  by_cases e : q = p
  · subst e
    rw [if_pos rfl]
    constructor
    · intro h1
      cases h1
      exact ⟨j, by simp, hj⟩
    · rintro ⟨i, _, hi⟩
      rw [key_inj hn hi hj]
  · rw [if_neg e, h q u]
    constructor
    · rintro ⟨i, hi, h1⟩
      exact ⟨i, by simp [hi], h1⟩
    · rintro ⟨i, hi, h1⟩
      rcases List.mem_append.1 hi with h2 | h2
      · exact ⟨i, h2, h1⟩
      · obtain rfl : i = j := by simpa using h2
        rw [hj] at h1
        cases h1
        exact absurd rfl e
theorem Took.all {L Lc : List (Pf × Int)} {js : List Nat} (h : Took L Lc js) (hn : (L.map Prod.fst).Nodup) (ha : ∀ j, j < L.length → j ∈ js) : ∀ p, lkL Lc p = lkL L p := fun p => by
  cases hp : lkL L p with
  | some v =>
    obtain ⟨j, hj⟩ := List.mem_iff_getElem?.1 (lk_mem hp)
    exact (h p v).2 ⟨j, ha j (List.getElem?_eq_some_iff.1 hj).1, hj⟩
  | none =>
    cases hq : lkL Lc p with
    | none => rfl
    | some v =>
      obtain ⟨j, _, hj⟩ := (h p v).1 hq
      have := lk_some hn hj rfl
      rw [hp] at this
      cases this
theorem cnt_same {L L' : List (Pf × Int)} (hn : (L.map Prod.fst).Nodup) (hn' : (L'.map Prod.fst).Nodup) (h : ∀ p, lkL L p = lkL L' p) (i : Nat) : cnt L i = cnt L' i := by
  have hp : (L.map Prod.fst).Perm (L'.map Prod.fst) := (List.perm_ext_iff_of_nodup hn hn').2 fun p => by rw [← lk_mem_iff, ← lk_mem_iff, h p]
  have e : ∀ M : List (Pf × Int), cnt M i = (((M.map Prod.fst).filter (fun p => decide (p.2 = (i : Int)))).length : Int) := fun M => by
    unfold cnt
    rw [List.filter_map, List.length_map]
    rfl
  rw [e, e, (hp.filter _).length_eq]
theorem bits_same {L L' : List (Pf × Int)} (hn : (L.map Prod.fst).Nodup) (h : ∀ p, lkL L p = lkL L' p) (hb : ∀ x ∈ L', 0 ≤ x.1.2 ∧ x.1.2 ≤ 32) : ∀ x ∈ L, 0 ≤ x.1.2 ∧ x.1.2 ≤ 32 := fun x hx => by
  obtain ⟨j, hj⟩ := List.mem_iff_getElem?.1 hx
  have h1 := lk_some hn hj rfl
  rw [h x.1] at h1
  exact hb (x.1, x.2) (lk_mem h1)
/-- Several cells written, one after the other. -/
def putAll (cs : Array Value) : Nat → List Value → Array Value
  | _, [] => cs
  | o, v :: vs => putAll (cs.setIfInBounds o v) (o + 1) vs
theorem blk_puts {g : Nat} {t : TypeId} : ∀ (vs : List Value) (o : Nat) (w : World) (cs : Array Value), w.heap[g]? = some (.cells cs t (0, 0)) → (w.setCells g o vs).heap[g]? = some (.cells (putAll cs o vs) t (0, 0))
  | [], o, w, cs, h => h
  | v :: vs, o, w, cs, h => blk_puts vs (o + 1) _ _ (blk_put h o v rfl)
theorem far_puts {g k : Nat} (hk : k ≠ g) : ∀ (vs : List Value) (o : Nat) (w : World), (w.setCells g o vs).heap[k]? = w.heap[k]?
  | [], o, w => rfl
  | v :: vs, o, w => (far_puts hk vs (o + 1) _).trans (Below.heap_setCell _ _ _ _ hk)
theorem below_puts {g B : Nat} (hB : B ≤ g) : ∀ (vs : List Value) (o : Nat) (w0 w : World), Below B w0 w → Below B w0 (w.setCells g o vs)
  | [], o, w0, w, h => h
  | v :: vs, o, w0, w, h => below_puts hB vs (o + 1) w0 _ (h.setCell (p := ⟨g, o, none⟩) hB v)
set_option maxRecDepth 100000 in
theorem cells_used (bm : Nat) (L : List (Pf × Int)) : putAll (tabCells bm []) 1 (usedV L) = tabCells bm L := by kernel_rfl

/-- What a world keeps in Copy's loop. -/
structure CP (w0 : World) (bt bm : Nat) (L : List (Pf × Int)) (ct cm r : Nat) (Lc : List (Pf × Int)) (js : List Nat) (W : World) : Prop where
  tt : TabIs W bt bm L
  cc : W.heap[ct]? = some (.cells (tabCells cm []) 110 (0, 0))
  mc : MapIs W eP wfP eV cm Lc
  rg : RangeIs W eP wfP eV bm r L js
  below : Below w0.heap.size w0 W
  ne : ct ≠ cm ∧ w0.heap.size ≤ ct ∧ w0.heap.size ≤ cm ∧ bt < w0.heap.size ∧ bm < w0.heap.size ∧ ct < r ∧ cm < r
section
variable {w0 : World} {bt bm : Nat} {L : List (Pf × Int)} {ct cm r : Nat} {Lc : List (Pf × Int)} {js : List Nat} {W W' : World}
theorem CP.to (h : CP w0 bt bm L ct cm r Lc js W) (hb : Below W.heap.size W W') : CP w0 bt bm L ct cm r Lc js W' :=
  ⟨h.tt.below hb, blk_below h.cc hb, h.mc.at (hb.block _ h.mc.lt), h.rg.at (hb.block _ h.rg.lt.1) (hb.block _ h.rg.lt.2), h.below.trans (hb.mono h.below.size), h.ne⟩
theorem CP.next {j : Nat} (h : CP w0 bt bm L ct cm r Lc js W) (hr : RangeIs W' eP wfP eV bm r L (js ++ [j])) (hg : W.grownBy W' (some r)) : CP w0 bt bm L ct cm r Lc (js ++ [j]) W' := by
  have hn := h.ne
  have e : ∀ k, k < W.heap.size → k ≠ r → W'.heap[k]? = W.heap[k]? := fun k hk hne => hg.block k hk (fun e => hne (Option.some.inj e))
  have l1 := h.tt.lt
  have l2 := (Array.getElem?_eq_some_iff.1 h.cc).1
  have l3 := h.mc.lt
  exact ⟨h.tt.at (e _ l1.1 (by omega)) (e _ l1.2 (by omega)), (e _ l2 (by omega)).trans h.cc, h.mc.at (e _ l3 (by omega)), hr, h.below.grown hg h.below.size (fun k e => by cases e; omega), hn⟩
theorem CP.put {Lc' : List (Pf × Int)} (h : CP w0 bt bm L ct cm r Lc js W) (hm : MapIs W' eP wfP eV cm Lc') (hg : W.grownBy W' (some cm)) : CP w0 bt bm L ct cm r Lc' js W' := by
  have hn := h.ne
  have e : ∀ k, k < W.heap.size → k ≠ cm → W'.heap[k]? = W.heap[k]? := fun k hk hne => hg.block k hk (fun e => hne (Option.some.inj e))
  have l1 := h.tt.lt
  have l2 := (Array.getElem?_eq_some_iff.1 h.cc).1
  have l4 := h.rg.lt
  exact ⟨h.tt.at (e _ l1.1 (by omega)) (e _ l1.2 (by omega)), (e _ l2 (by omega)).trans h.cc, hm, h.rg.at (e _ l4.1 (by omega)) (e _ l4.2 (by omega)), h.below.grown hg h.below.size (fun k e => by cases e; omega), hn⟩
end

set_option maxRecDepth 100000 in
set_option maxHeartbeats 4000000 in
theorem copy_calls (w : World) (bt bm : Nat) (L : List (Pf × Int)) (hT : TabIs w bt bm L) :
    Calls Try.prog 33 #[.pointer (some ⟨bt, 0, none⟩)] w fun e w' => ∃ ct cm Lc, e = .returned (.pointer (some ⟨ct, 0, none⟩)) ∧ TabIs w' ct cm Lc ∧ (∀ p, lkL Lc p = lkL L p) ∧ w.heap.size ≤ ct ∧ w.heap.size ≤ cm ∧ Below w.heap.size w w' := by
  have hu26 := Try.underlying26
  have HT := Aside0.mk hT
  have HND := Aside0.mk (hT.map.nodup keyP)
  clear hT
  obtain ⟨M, hM⟩ : ∃ M : Nat, M = L.length + 2 := ⟨_, rfl⟩
  have HMM := Aside0.mk hM
  clear hM
  go_enter Try.func33, Try.ntmps33
  go_wp2_with (first
    | (go_at_call 26; refine (new_calls _).mono ?_; rintro e w1 ⟨ct, cm, rfl, hC, h1, h2, hb⟩; have HC := Aside0.mk (show TabIs w1 ct cm [] ∧ w.heap.size ≤ ct ∧ w.heap.size ≤ cm from ⟨hC, h1, h2⟩); have HB := Aside0.mk hb; have hc0 := (HT.out.below hb).cell0; have HM := Aside0.mk (HT.out.below hb).map; clear hC h1 h2 hb)
    | (at_range; refine wpList_range_raw rfl _ 107 rfl rfl HM.out Try.underlying107 ?_; intro ob hrg; have HRG := Aside0.mk hrg; clear hrg))
  go_frame
  have HG := Aside0.mk (show CP w bt bm L ct cm w1.heap.size [] [] (w1.alloc ob) from by
    have hb := (Below.refl w1.heap.size w1).alloc (Nat.le_refl _) ob
    have l1 := HC.out.1.lt
    have l2 := HT.out.lt
    have n1 := HC.out.1.ne
    exact ⟨(HT.out.below HB.out).below hb, blk_below HC.out.1.cells hb, HC.out.1.map.at (hb.block _ l1.2), HRG.out, HB.out.trans (hb.mono HB.out.size), n1, HC.out.2.1, HC.out.2.2, l2.1, l2.2, l1.1, l1.2⟩)
  clear HC HB hc0 HM HRG
  go_loopg [5] M (fun kq v5 wr => ∃ js Lc, Aside0 (CP w bt bm L ct cm w1.heap.size Lc js wr ∧ L.length + 2 ≤ kq + js.length) ∧ Aside0 (kq ≤ M) ∧ Aside0 (Took L Lc js))
  case atStart => exact ⟨[], [], ⟨HG.out, by have := HMM.out; simp; omega⟩, ⟨Nat.le_refl _⟩, ⟨fun p v => by simp [lkL]⟩⟩
  case round =>
    clear HG
    obtain ⟨js, Lc, HG, HK, HO⟩ := hrel
    have hle := HG.out.1.rg.le
    cases gk with
    | zero => exact absurd HG.out.2 (by omega)
    | succ k1 =>
      go_wp2_with (first | (at_next; refine wpList_next_raw rfl _ rfl rfl HG.out.1.rg ?_ ?_))
      · intro hall
        have hlk := HO.out.all HND.out hall
        have HLK := Aside0.mk hlk
        have hu := HG.out.1.tt.used
        have HTH := Aside0.mk (show wr.there ct 1 (usedV L).toArray.size from fun j hj => by
          have hj' : j < 33 := by simpa [usedV] using hj
          refine ⟨?_, blk_frozen HG.out.1.cc _⟩
          rw [blk_cell HG.out.1.cc]
          unfold tabCells
          rw [Nat.add_comm 1 j]
          simp [List.getElem?_map, List.getElem?_range hj'])
        clear hall hlk hle
        obtain ⟨U, hU⟩ : ∃ U, (usedV L).toArray = U := ⟨_, rfl⟩
        rw [hU] at hu HTH
        have HU := Aside0.mk hU
        clear hU
        go_wp2_with (first
          | (refine wpList_load_raw _ rfl 108 (.tmp 28) rfl _ rfl _ hu ?_)
          | (refine wpList_store_mid rfl 108 (.tmp 31) (.tmp 29) rfl ct 1 U rfl rfl HTH.out (by rw [← HU.out, infoU]; simp [usedV]) (by rw [← HU.out]; exact all_oneCell_toArray (fun v hv => by unfold usedV at hv; obtain ⟨i, _, rfl⟩ := List.mem_map.1 hv; rfl)) ?_))
        clear hu
        go_wp2
        go_ret
        have hne := HG.out.1.ne
        have hcc := blk_puts U.toList 1 wr _ HG.out.1.cc
        have hnd2 := HG.out.1.mc.nodup keyP
        rw [← HU.out, cells_used] at hcc
        refine ⟨ct, cm, Lc, rfl, ⟨?_, HG.out.1.mc.at (far_puts (fun e => hne.1 e.symm) _ _ _), bits_same hnd2 HLK.out HG.out.1.tt.bits⟩, HLK.out, hne.2.1, hne.2.2.1, below_puts hne.2.1 _ _ _ _ HG.out.1.below⟩
        rw [← HU.out]
        have e : tabCells cm Lc = tabCells cm L := by
          unfold tabCells
          simp only [cnt_same hnd2 HND.out HLK.out]
        rw [e]
        exact hcc
      · intro j p0 p1 v w2 hj hn hrg2 hg2 hs2 hen
        have hwf : wfP (p0, p1) := hrg2.okAt hj
        have hG2 := HG.out.1.next hrg2 hg2
        have HG3 := Aside0.mk (hG2.to ((Below.refl w2.heap.size w2).alloc (Nat.le_refl _) (Obj.cells #[Value.int .u32 p0, Value.int .i64 p1] 26)))
        have HX3 := Aside0.mk (blk_new w2 (Obj.cells #[Value.int .u32 p0, Value.int .i64 p1] 26))
        have HO3 := Aside0.mk (HO.out.put HND.out hj)
        have HWF := Aside0.mk hwf
        have HKQ := Aside0.mk (show L.length + 2 ≤ k1 + 1 + js.length from HG.out.2)
        simp only [eP, eV] at hen
        clear hj hn hrg2 hg2 hs2 hG2 HG hwf hle
        go_wp2
        generalize (w2.alloc (Obj.cells #[Value.int .u32 p0, Value.int .i64 p1] 26)) = w3 at HG3 HX3 ⊢
        have c0 : w3.cell? ⟨ct, 0, none⟩ = some (.map (some cm)) := by rw [blk_cell HG3.out.cc]; rfl
        have b0 : w3.cell? ⟨w2.heap.size, 0, none⟩ = some (.int .u32 p0) := by rw [blk_cell HX3.out]; rfl
        have b1 : w3.cell? ⟨w2.heap.size, 1, none⟩ = some (.int .i64 p1) := by rw [blk_cell HX3.out]; rfl
        refine wp_region_still_tail 6 (by kernel_rfl) (by kernel_rfl) ?_
        simp only [List.take_succ_cons, List.take_zero, List.drop_succ_cons, List.drop_zero]
        rw [show ({ heap := w3.heap, tape := w3.tape, drawn := w3.drawn + 1, os := w3.os, output := w3.output } : World) = w3.drewN 1 from rfl]
        repeat still_step
        refine wpStill_nil ?_
        have HG4 := Aside0.mk (HG3.out.to (pw_below_drewN (Below.refl _ _) 1))
        obtain ⟨w4, hrun, hM4, hg4, hs4⟩ := HG4.out.mc.store keyP Try.underlying107 HWF.out v
        simp only [eP, eV] at hrun
        have HG5 := Aside0.mk (HG4.out.put hM4 hg4)
        clear hM4 hg4 hs4 c0 b0 b1
        go_wp2
        go_roundg k1
        case measure => have := HK.out; omega
        case rel => exact ⟨js ++ [j], putL Lc (p0, p1) v, ⟨HG5.out, by have := HKQ.out; simp; omega⟩, ⟨by have := HK.out; omega⟩, HO3⟩
end Go.Proofs.Ytaplkfnolimdmaa.Table
namespace Go.Proofs.Ytaplkfnolimdmaa.Table
open Go.RowKit Go.Proofs.Ytaplkfnolimdmaa.PC Go.Proofs.YtaplkfnolimdmaaW.PrintWords Go.Proofs.YtaplkfnolimdmaaW.PrintLast Go.Proofs.YtaplkfnolimdmaaW.PrintMore Go.Proofs.YtaplkfnolimdmaaW.Bits Go.Proofs.YtaplkfnolimdmaaW.MapRaw
set_option linter.unusedVariables false
set_option linter.unusedSimpArgs false

theorem CanonOf.nodup {R : List Row} {L : List (Pf × Int)} (h : CanonOf R L) : (R.map Prod.fst).Nodup := by
  have := h.ord
  refine (List.pairwise_map.2 this).imp ?_
  intro a b hab e
  rw [e] at hab
  exact ltP_irrefl _ hab
theorem CanonOf.lk {R : List Row} {L : List (Pf × Int)} (h : CanonOf R L) (p : Pf) : lkL R p = lkL L p := by
  cases hp : lkL L p with
  | some v =>
    obtain ⟨j, hj⟩ := List.mem_iff_getElem?.1 ((h.mem p v).2 hp)
    exact lk_some h.nodup hj rfl
  | none =>
    refine lk_none fun x hx e => ?_
    have := (h.mem x.1 x.2).1 hx
    rw [e, hp] at this
    cases this
/-- What Longest tells, by the rows over the address. -/
theorem long_last (L : List (Pf × Int)) (x : Int) : (rowsOf L (overL L x 33) = [] ∧ longest L x = ((0, 0), 0, false)) ∨ (∃ (q : Pf) (v : Int), longest L x = (q, v, true) ∧ 0 < (rowsOf L (overL L x 33)).length ∧ rdR (rowsOf L (overL L x 33)) (((rowsOf L (overL L x 33)).length : Int) - 1) = (q, v)) := by
  rcases List.eq_nil_or_concat (overL L x 33) with h | ⟨m, p, h⟩
  · left
    unfold longest
    rw [h]
    exact ⟨rfl, rfl⟩
  · right
    rw [List.concat_eq_append] at h
    refine ⟨p, (lkL L p).getD 0, ?_, ?_, ?_⟩
    · unfold longest
      rw [h, List.getLast?_append]
      simp
    · rw [rowsOf_length, h]; simp
    · unfold rdR
      rw [rowsOf_length, h]
      unfold rowsOf
      rw [List.map_append, show (((m ++ [p]).length : Int) - 1).toNat = m.length from by simp, List.getD_eq_getElem?_getD, List.getElem?_append_right (by simp)]
      simp
/-- What 'told' is told of a table and a list. -/
structure Same (R : List Row) (L : List (Pf × Int)) : Prop where
  can : CanonOf R L
  nd : (L.map Prod.fst).Nodup
  wf : ∀ p ∈ L.map Prod.fst, wfP p
  ok : ∀ p v, lkL L p = some v → chk p.1 p.2 = 0
  len : R.length ≤ 1000
theorem Same.wfR {R : List Row} {L : List (Pf × Int)} (h : Same R L) : ∀ r ∈ R, wfP r.1 := fun r hr => h.wf r.1 (lk_mem_iff.1 (by rw [(h.can.mem r.1 r.2).1 hr]; rfl))
theorem Same.lenL {R : List Row} {L : List (Pf × Int)} (h : Same R L) : L.length ≤ 1000 := by rw [← h.can.len h.nd]; exact h.len
/-- The table and the prefix's box. -/
structure TD (w0 : World) (p : Pf) (bt bm : Nat) (L : List (Pf × Int)) (W : World) : Prop where
  tt : TabIs W bt bm L
  bp : W.heap[w0.heap.size]? = some (.cells #[.int .u32 p.1, .int .i64 p.2] 26 (0, 0))
  below : Below w0.heap.size w0 W
section
variable {w0 w5 : World} {p : Pf} {bt bm : Nat} {L : List (Pf × Int)} {W W' : World} {A B : Prop}
theorem TD.to (h : TD w0 p bt bm L W) (hb : Below W.heap.size W W') : TD w0 p bt bm L W' := ⟨h.tt.below hb, blk_below h.bp hb, h.below.trans (hb.mono h.below.size)⟩
theorem TD.cells (h : TD w0 p bt bm L W) : W.cell? ⟨w0.heap.size, 0, none⟩ = some (.int .u32 p.1) ∧ W.cell? ⟨w0.heap.size, 1, none⟩ = some (.int .i64 p.2) := ⟨by rw [blk_cell h.bp]; rfl, by rw [blk_cell h.bp]; rfl⟩
theorem pickB (h : A ∧ B ∧ Aside0 (Below w5.heap.size w5 W)) : Below w5.heap.size w5 W := h.2.2.out
theorem keepB5 (h : A ∧ B ∧ Aside0 (Below w5.heap.size w5 W)) (hb : Below W.heap.size W W') : Below w5.heap.size w5 W' := h.2.2.out.trans (hb.mono h.2.2.out.size)
end

set_option maxRecDepth 100000 in
set_option maxHeartbeats 20000000 in
theorem told_calls (bt bm : Nat) (L : List (Pf × Int)) (A : Option Addr) (c : Nat) (R : List Row) (p : Pf) (a leave : Int) (w : World) (hT : TabIs w bt bm L) (hr : Kd.C kRow w A R.length R) (hs : Same R L) (hp : wfP p) (ha : 0 ≤ a ∧ a < 4294967296) :
    Calls Try.prog 34 #[.pointer (some ⟨bt, 0, none⟩), .slice A R.length c, .agg #[.int .u32 p.1, .int .i64 p.2], .int .u32 a, .int .i64 leave] w fun e w' => e = .returned (.bool true) ∧ Below w.heap.size w w' := by
  have hu26 := Try.underlying26
  have hu101 := Try.underlying101
  have HR := Aside0.mk hr
  have HS := Aside0.mk hs
  have HP := Aside0.mk hp
  have HA := Aside0.mk ha
  have HG := Aside0.mk (show TD w p bt bm L (w.alloc (.cells #[.int .u32 p.1, .int .i64 p.2] 26)) from ⟨hT.below ((Below.refl w.heap.size w).alloc (Nat.le_refl _) _), blk_new w _, (Below.refl w.heap.size w).alloc (Nat.le_refl _) _⟩)
  obtain ⟨t1, t2⟩ := HG.out.cells
  have HAT := Aside0.mk (fun W h => at_calls p hp W bt bm L h)
  have HRA := Aside0.mk (fun W (h : Below w.heap.size w W) => by have := refAt_calls A c R p W (Kd.C_below hr h) (by have := hs.len; omega); rw [hs.can.lk] at this; exact this)
  have HRO := Aside0.mk (fun W (h : Below w.heap.size w W) => by have := refOver_calls A c R a W (Kd.C_below hr h) hs.len ha hs.wfR; rw [hs.can.over ha hs.wf hs.ok 33 (Nat.le_refl _)] at this; exact this)
  have HLG := Aside0.mk (fun W h => longest_calls a ha W bt bm L h)
  have HLE := Aside0.mk (fun W h => by have := len_calls W bt bm L h; rw [← hs.can.len hs.nd] at this; exact this)
  have HLL := Aside0.mk (long_last L a)
  have HOL := Aside0.mk (show (rowsOf L (overL L a 33)).length ≤ 1000 from by rw [rowsOf_length]; have := overL_len L a 33; omega)
  obtain ⟨vd, hvd⟩ : ∃ v, (lkL L p).getD 0 = v := ⟨_, rfl⟩
  obtain ⟨vb, hvb⟩ : ∃ v, (lkL L p).isSome = v := ⟨_, rfl⟩
  rw [hvd, hvb] at HAT HRA
  obtain ⟨ov, hov⟩ : ∃ ov, rowsOf L (overL L a 33) = ov := ⟨_, rfl⟩
  rw [hov] at HRO HLL HOL
  have HOV := Aside0.mk hov
  obtain ⟨q, vq, bq, hlq⟩ : ∃ q v b, longest L a = (q, v, b) := ⟨_, _, _, rfl⟩
  rw [hlq] at HLG HLL
  simp only [eP] at HLG
  clear hr hs hp ha hT hvd hvb hov hlq
  go_enter Try.func34, Try.ntmps34
  go_upto_region 5 with (first
    | (go_at_call 23; refine (HAT.out _ HG.out.tt).mono ?_; rintro e w1 ⟨rfl, hb⟩; have n_ := Aside0.mk (HG.out.to hb); clear HG t1 t2 hb; have HG := n_; clear n_; obtain ⟨t1, t2⟩ := HG.out.cells)
    | (go_at_call 68; refine (HRA.out _ HG.out.below).mono ?_; rintro e w2 ⟨rfl, hb⟩; have n_ := Aside0.mk (HG.out.to hb); clear HG t1 t2 hb; have HG := n_; clear n_; obtain ⟨t1, t2⟩ := HG.out.cells)
    | (go_at_call 36; refine (HRO.out _ HG.out.below).mono ?_; rintro e w3 ⟨v0, rfl, hro, hb⟩; obtain ⟨Ao, co, ev⟩ := Kd.R_slice hro; subst ev; have HO := Aside0.mk (Kd.R_reads' hro).2.2; have n_ := Aside0.mk (HG.out.to hb); clear HG t1 t2 hb hro; have HG := n_; clear n_; obtain ⟨t1, t2⟩ := HG.out.cells)
    | (go_at_call 21; refine (HLG.out _ HG.out.tt).mono ?_; rintro e w4 ⟨rfl, hb⟩; have HO4 := Aside0.mk (Kd.C_below HO.out hb); have n_ := Aside0.mk (HG.out.to hb); clear HG t1 t2 hb HO; have HG := n_; clear n_; obtain ⟨t1, t2⟩ := HG.out.cells))
  have HG5 := Aside0.mk (HG.out.to ((Below.refl _ w4).alloc (Nat.le_refl _) (Obj.cells #[Value.int .u32 q.1, Value.int .i64 q.2] 26)))
  have HO5 := Aside0.mk (Kd.C_below HO4.out ((Below.refl _ w4).alloc (Nat.le_refl _) (Obj.cells #[Value.int .u32 q.1, Value.int .i64 q.2] 26)))
  have HQ5 := Aside0.mk (blk_new w4 (Obj.cells #[Value.int .u32 q.1, Value.int .i64 q.2] 26))
  obtain ⟨gq, hgq⟩ : ∃ g, w4.heap.size = g := ⟨_, rfl⟩
  rw [hgq] at HQ5
  simp only [hgq]
  clear hgq HG HO4 t1 t2 HAT HRA HRO HLG
  generalize (w4.alloc (Obj.cells #[Value.int .u32 q.1, Value.int .i64 q.2] 26)) = w5 at HG5 HO5 HQ5 ⊢
  go_cut [62] from 19 to 61 (fun s wx => s = .bool false ∧ wx = w5)
  case first =>
    rcases HLL.out with ⟨e1, e2⟩ | ⟨q', v', e2, e3, e4⟩
    · cases e2
      have e0 : ov.length = 0 := by rw [e1]; rfl
      have g1 : decide ((ov.length : Int) > 0) = false := decide_eq_false (by omega)
      have g2 : decide (0 < (ov.length : Int)) = false := decide_eq_false (by omega)
      have g3 : decide (0 < ov.length) = false := decide_eq_false (by omega)
      clear e1 e0
      go_wp2_with (first
        | (go_at_call 30; refine (HLE.out _ HG5.out.tt).mono ?_; rintro e w6 ⟨rfl, rfl⟩))
      go_meet
      exact ⟨rfl, rfl⟩
    · cases e2
      have g1 : decide ((ov.length : Int) > 0) = true := decide_eq_true (by omega)
      have g2 : decide (0 < (ov.length : Int)) = true := decide_eq_true (by omega)
      have g3 : decide (0 < ov.length) = true := decide_eq_true (by omega)
      clear e3 e4
      go_wp2_with (first
        | (go_at_call 30; refine (HLE.out _ HG5.out.tt).mono ?_; rintro e w6 ⟨rfl, rfl⟩))
      go_meet
      exact ⟨rfl, rfl⟩
  case rest =>
    obtain ⟨rfl, hwc⟩ := hcut
    rw [hwc]
    clear hwc wc
    go_upto_region 7 with fail
    go_cut [98] from 63 to 97 (fun s wx => s = .bool false ∧ Aside0 (Below w5.heap.size w5 wx))
    case first =>
      rcases HLL.out with ⟨e1, e2⟩ | ⟨q', v', e2, e3, e4⟩
      · cases e2
        have HCE := Aside0.mk (fun W (hb : Below w5.heap.size w5 W) => (show W.cell? ⟨gq, 0, none⟩ = some (.int .u32 0) ∧ W.cell? ⟨gq, 1, none⟩ = some (.int .i64 0) from ⟨by rw [blk_cell (blk_below HQ5.out hb)]; rfl, by rw [blk_cell (blk_below HQ5.out hb)]; rfl⟩))
        have hne : ∀ W, (binOp BinOp.neq 26 (.agg #[.int .u32 0, .int .i64 0]) (.agg #[.int .u32 0, .int .i64 0])).run Try.prog W = .ok (.bool false) W := fun W => neq_P (0, 0) (0, 0) W
        clear e1
        refine q_region (fun W => Below w5.heap.size w5 W) (by kernel_rfl) (by kernel_rfl) ((Below.refl _ _).drew) ?_
        repeat (first
          | go_big_quiet_skip
          | (go_big_quiet_want; first
            | (go_big_quiet_op; first
              | go_big_quiet_on
              | (apply Exists.intro; refine ⟨?_, ?_⟩; (· (intros; with_reducible rfl)); go_big_quiet_on))
            | (refine q_op (v := ?_) ?_ ?_; rotate_left 1; (· (intro W hW; obtain ⟨t1, t2⟩ := HCE.out W hW; go_simp; (try with_reducible rfl))); (try simp only [Act.put, List.setIfInBounds_toArray, List.set_cons_zero, List.set_cons_succ]); go_big_quiet_on)))
        refine wpQuiet_nil ?_
        intro w7 hW7
        have HB7 := Aside0.mk hW7
        clear hW7
        go_wp2
        go_meet
        exact ⟨rfl, HB7⟩
      · cases e2
        obtain ⟨m, hm⟩ : ∃ m : Nat, ov.length = m + 1 := ⟨ov.length - 1, by omega⟩
        obtain ⟨ad, ea, _⟩ := at_R HO5.out (m : Int) (by omega) (by omega)
        cases ea
        have e5 : rdR ov (m : Int) = (q, vq) := by rw [← e4]; congr 1; omega
        have HCE := Aside0.mk (fun W (hb : Below w5.heap.size w5 W) => (show W.cell? ⟨gq, 0, none⟩ = some (.int .u32 q.1) ∧ W.cell? ⟨gq, 1, none⟩ = some (.int .i64 q.2) ∧ W.cell? (ad.add (m * 3)) = some (.int .u32 q.1) ∧ W.cell? ⟨(ad.add (m * 3)).block, (ad.add (m * 3)).off + 1, none⟩ = some (.int .i64 q.2) ∧ W.cell? ⟨(ad.add (m * 3)).block, (ad.add (m * 3)).off + 2, none⟩ = some (.int .i64 vq) from by
          obtain ⟨ad2, e2, d0, d1, d2⟩ := at_R (Kd.C_below HO5.out hb) (m : Int) (by omega) (by omega)
          cases e2
          rw [e5] at d0 d1 d2
          exact ⟨by rw [blk_cell (blk_below HQ5.out hb)]; rfl, by rw [blk_cell (blk_below HQ5.out hb)]; rfl, d0, d1, d2⟩))
        have hne : ∀ W, (binOp BinOp.neq 26 (.agg #[.int .u32 q.1, .int .i64 q.2]) (.agg #[.int .u32 q.1, .int .i64 q.2])).run Try.prog W = .ok (.bool false) W := fun W => by have := neq_P q q W; simpa using this
        have g1 : IntKind.i64.wrap ((ov.length : Int) - 1) = (m : Int) := by rw [i64_w]; unfold wrap64; have := HOL.out; omega
        have g2 : (0 : Int) ≤ (m : Int) := by omega
        have g3 : (m : Int) < (ov.length : Int) := by omega
        clear e3 e4 e5 hm
        refine q_region (fun W => Below w5.heap.size w5 W) (by kernel_rfl) (by kernel_rfl) ((Below.refl _ _).drew) ?_
        repeat (first
          | go_big_quiet_skip
          | (go_big_quiet_want; first
            | (go_big_quiet_op; first
              | go_big_quiet_on
              | (apply Exists.intro; refine ⟨?_, ?_⟩; (· (intros; with_reducible rfl)); go_big_quiet_on))
            | (refine q_op (v := ?_) ?_ ?_; rotate_left 1; (· (intro W hW; obtain ⟨t1, t2, t3, t4, t5⟩ := HCE.out W hW; go_simp; (try with_reducible rfl))); (try simp only [Act.put, List.setIfInBounds_toArray, List.set_cons_zero, List.set_cons_succ]); go_big_quiet_on)))
        refine wpQuiet_nil ?_
        intro w7 hW7
        have HB7 := Aside0.mk hW7
        clear hW7
        go_wp2
        go_meet
        exact ⟨rfl, HB7⟩
    case rest =>
      obtain ⟨rfl, HB6⟩ := hcut
      obtain ⟨w6, hw6⟩ : ∃ w6, wc = w6 := ⟨_, rfl⟩
      have HG6 := Aside0.mk (HG5.out.to HB6.out)
      have HO6 := Aside0.mk (Kd.C_below HO5.out HB6.out)
      rw [hw6] at HG6 HO6
      rw [hw6]
      clear hw6 HB6 HG5 HO5 HQ5 HLE HLL
      have HCE := Aside0.mk (fun W (hb : Below w6.heap.size w6 W) => (show W.cell? ⟨w.heap.size, 0, none⟩ = some (.int .u32 p.1) ∧ W.cell? ⟨w.heap.size, 1, none⟩ = some (.int .i64 p.2) ∧ Aside0 (Below w6.heap.size w6 W) from ⟨(HG6.out.to hb).cells.1, (HG6.out.to hb).cells.2, ⟨hb⟩⟩))
      have HTW := Aside0.mk (fun W (hb : Below w6.heap.size w6 W) => (HG6.out.to hb).tt)
      have HWW := Aside0.mk (fun W (hb : Below w6.heap.size w6 W) => Kd.C_below HR.out (HG6.out.to hb).below)
      have HOW := Aside0.mk (fun W (hb : Below w6.heap.size w6 W) => Kd.C_below HO6.out hb)
      have HAL := Aside0.mk (fun W (hb : Below w6.heap.size w6 W) => (All_calls W bt bm L (HTW.out W hb) (by have := HS.out.lenL; omega)).mono (fun e w' ⟨f, l, h1, h2, h3, h4⟩ => (show ∃ f, e = Ending.returned f ∧ IterAt W.heap.size w' f R ∧ Below W.heap.size W w' from ⟨f, h1, by rw [HS.out.can.all HS.out.nd h2] at h3; exact h3, h4⟩)))
      have HOV2 := Aside0.mk (fun W (hb : Below w6.heap.size w6 W) => by have := Over_calls a HA.out W bt bm L (HTW.out W hb); rw [HOV.out] at this; exact this)
      have HWI := Aside0.mk (fun W (hb : Below w6.heap.size w6 W) => (Within_calls p HP.out W bt bm L (HTW.out W hb) (by have := HS.out.lenL; omega)).mono (fun e w' ⟨f, l, h1, h2, h3, h4⟩ => (show ∃ f, e = Ending.returned f ∧ IterAt W.heap.size w' f (withinR R p) ∧ Below W.heap.size W w' from ⟨f, h1, by rw [← HS.out.can.within HS.out.nd h2] at h3; exact h3, h4⟩)))
      have HRW := Aside0.mk (fun W (hb : Below w6.heap.size w6 W) => refIn4_calls A c R p W (HWW.out W hb) (by have := HS.out.len; omega) HP.out HS.out.wfR)
      have HWL := Aside0.mk (show (withinR R p).length ≤ 1000 from Nat.le_trans (List.length_filter_le _ _) HS.out.len)
      have HRL := Aside0.mk HS.out.len
      have HGB := Aside0.mk HG6.out.below
      clear HG6 HO6 HS HP HA HR HOV
      have HBW := Aside0.mk (Below.refl w6.heap.size w6).drew
      go_wp2
      go_region_held3 (fun W => W.cell? ⟨w.heap.size, 0, none⟩ = some (.int .u32 p.1) ∧ W.cell? ⟨w.heap.size, 1, none⟩ = some (.int .i64 p.2) ∧ Aside0 (Below w6.heap.size w6 W))
        (exact HCE.out _ HBW.out)
        (first
          | (go_at_call 22; refine (HAL.out _ HBW.out).mono ?_; rintro e w10 ⟨f1, rfl, hit, hb⟩; have HITa := Aside0.mk hit; clear hit; have n_ := Aside0.mk (HBW.out.trans (hb.mono HBW.out.size)); clear HBW; have HBW := n_; clear n_)
          | (go_at_call 24; refine (HOV2.out _ HBW.out).mono ?_; rintro e w11 ⟨f2, rfl, hit, hb⟩; have HITb := Aside0.mk hit; clear hit; have n_ := Aside0.mk (HBW.out.trans (hb.mono HBW.out.size)); clear HBW; have HBW := n_; clear n_)
          | (go_at_call 25; refine (HWI.out _ HBW.out).mono ?_; rintro e w12 ⟨f3, rfl, hit, hb⟩; have HITc := Aside0.mk hit; have HBc := Aside0.mk hb; clear hit; have n_ := Aside0.mk (HBW.out.trans (hb.mono HBW.out.size)); clear HBW; have HBW := n_; clear n_)
          | (go_at_call 69; refine (HRW.out _ HBW.out).mono ?_; rintro e w13 ⟨v3, rfl, hr3, hb⟩; obtain ⟨A3, c3, e3⟩ := Kd.R_slice hr3; subst e3; have HR3 := Aside0.mk hr3; have HBd := Aside0.mk hb; clear hr3; have n_ := Aside0.mk (HBW.out.trans (hb.mono HBW.out.size)); clear HBW; have HBW := n_; clear n_)
          | (go_at_call 35; have tok := HITa; refine (rows_calls _ R _ A c leave _ HITa.out (HWW.out _ HBW.out) HRL.out).mono ?_; rintro e w14 ⟨rfl, hb⟩; clear tok HITa; have n_ := Aside0.mk (HBW.out.trans (hb.mono HBW.out.size)); clear HBW; have HBW := n_; clear n_)
          | (go_at_call 35; have tok := HITb; refine (rows_calls _ ov _ Ao co leave _ HITb.out (HOW.out _ HBW.out) HOL.out).mono ?_; rintro e w15 ⟨rfl, hb⟩; clear tok HITb; have n_ := Aside0.mk (HBW.out.trans (hb.mono HBW.out.size)); clear HBW; have HBW := n_; clear n_)
          | (go_at_call 35; have tok := HITc; (with_reducible refine (rows_calls _ (withinR R p) _ A3 c3 leave _ (HITc.out.below HBd.out) (Kd.R_reads' HR3.out).2.2 HWL.out).mono ?_); rintro e w16 ⟨rfl, hb⟩; clear tok HITc; have n_ := Aside0.mk (HBW.out.trans (hb.mono HBW.out.size)); clear HBW; have HBW := n_; clear n_)
          | (go_at_call 35; have tok := HITc; (with_reducible refine (rows_calls _ (withinR R p) _ A3 c3 leave _ HITc.out (Kd.R_reads' (Kd.R_below HR3.out HBc.out)).2.2 HWL.out).mono ?_); rintro e w16 ⟨rfl, hb⟩; clear tok HITc; have n_ := Aside0.mk (HBW.out.trans (hb.mono HBW.out.size)); clear HBW; have HBW := n_; clear n_)
          | fail)
      all_goals (
        have HF := Aside0.mk (HGB.out.trans (HBW.out.mono HGB.out.size))
        clear HBW
        go_wp2
        go_ret
        exact ⟨rfl, HF.out⟩)
end Go.Proofs.Ytaplkfnolimdmaa.Table
namespace Go.Proofs.Ytaplkfnolimdmaa.Table
open Go.RowKit Go.Proofs.Ytaplkfnolimdmaa.PC Go.Proofs.YtaplkfnolimdmaaW.PrintWords Go.Proofs.YtaplkfnolimdmaaW.PrintLast Go.Proofs.YtaplkfnolimdmaaW.PrintMore Go.Proofs.YtaplkfnolimdmaaW.Bits Go.Proofs.YtaplkfnolimdmaaW.MapRaw
set_option linter.unusedVariables false
set_option linter.unusedSimpArgs false

set_option maxRecDepth 100000 in
theorem refPut_bad (v0 : Value) (p : Pf) (v : Int) (w : World) (hp : wfP p) (hq : chk p.1 p.2 ≠ 0) :
    Calls Try.prog 31 #[v0, .agg #[.int .u32 p.1, .int .i64 p.2], .int .i64 v] w fun e w' => e = .returned (.tuple #[v0, .int .i64 (chk p.1 p.2)]) ∧ Below w.heap.size w w' := by
  have hu26 := Try.underlying26
  have HCK := Aside0.mk (fun W => refCheck_calls hp W)
  have hb0 := (Below.refl w.heap.size w).alloc (Nat.le_refl _) (.cells #[.int .u32 p.1, .int .i64 p.2] 26)
  have hx := blk_new w (.cells #[.int .u32 p.1, .int .i64 p.2] 26)
  have c0 : (w.alloc (.cells #[.int .u32 p.1, .int .i64 p.2] 26)).cell? ⟨w.heap.size, 0, none⟩ = some (.int .u32 p.1) := by rw [blk_cell hx]; rfl
  have c1 : (w.alloc (.cells #[.int .u32 p.1, .int .i64 p.2] 26)).cell? ⟨w.heap.size, 1, none⟩ = some (.int .i64 p.2) := by rw [blk_cell hx]; rfl
  obtain ⟨q, hqq⟩ : ∃ q, chk p.1 p.2 = q := ⟨_, rfl⟩
  rw [hqq] at hq HCK ⊢
  have q1 : (q == 0) = false := beq_eq_false_iff_ne.2 hq
  have q2 : (q != 0) = true := bne_iff_ne.2 hq
  have HB := Aside0.mk hb0
  clear hqq hq hx hb0
  go_enter Try.func31, Try.ntmps31
  go_wp2_with (first
    | (go_at_call 28; refine (HCK.out _).mono ?_; rintro e w1 ⟨rfl, hb⟩; have HB1 := Aside0.mk (HB.out.trans (hb.mono HB.out.size)); clear hb HB c0 c1))
  go_ret2
  exact ⟨rfl, HB1.out⟩
set_option maxRecDepth 100000 in
theorem refDrop_bad (v0 : Value) (p : Pf) (w : World) (hp : wfP p) (hq : chk p.1 p.2 ≠ 0) :
    Calls Try.prog 32 #[v0, .agg #[.int .u32 p.1, .int .i64 p.2]] w fun e w' => e = .returned (.tuple #[v0, .int .i64 (chk p.1 p.2)]) ∧ Below w.heap.size w w' := by
  have hu26 := Try.underlying26
  have HCK := Aside0.mk (fun W => refCheck_calls hp W)
  have hb0 := (Below.refl w.heap.size w).alloc (Nat.le_refl _) (.cells #[.int .u32 p.1, .int .i64 p.2] 26)
  have hx := blk_new w (.cells #[.int .u32 p.1, .int .i64 p.2] 26)
  have c0 : (w.alloc (.cells #[.int .u32 p.1, .int .i64 p.2] 26)).cell? ⟨w.heap.size, 0, none⟩ = some (.int .u32 p.1) := by rw [blk_cell hx]; rfl
  have c1 : (w.alloc (.cells #[.int .u32 p.1, .int .i64 p.2] 26)).cell? ⟨w.heap.size, 1, none⟩ = some (.int .i64 p.2) := by rw [blk_cell hx]; rfl
  obtain ⟨q, hqq⟩ : ∃ q, chk p.1 p.2 = q := ⟨_, rfl⟩
  rw [hqq] at hq HCK ⊢
  have q1 : (q == 0) = false := beq_eq_false_iff_ne.2 hq
  have q2 : (q != 0) = true := bne_iff_ne.2 hq
  have HB := Aside0.mk hb0
  clear hqq hq hx hb0
  go_enter Try.func32, Try.ntmps32
  go_wp2_with (first
    | (go_at_call 28; refine (HCK.out _).mono ?_; rintro e w1 ⟨rfl, hb⟩; have HB1 := Aside0.mk (HB.out.trans (hb.mono HB.out.size)); clear hb HB c0 c1))
  go_ret2
  exact ⟨rfl, HB1.out⟩
set_option maxRecDepth 100000 in
theorem drop_bad (p : Pf) (w : World) (bt : Nat) (hp : wfP p) (hq : chk p.1 p.2 ≠ 0) :
    Calls Try.prog 29 #[.pointer (some ⟨bt, 0, none⟩), .agg #[.int .u32 p.1, .int .i64 p.2]] w fun e w' => e = .returned (.int .i64 (chk p.1 p.2)) ∧ Below w.heap.size w w' := by
  have hu26 := Try.underlying26
  have HCK := Aside0.mk (fun W => check_calls p hp W)
  have hb0 := (Below.refl w.heap.size w).alloc (Nat.le_refl _) (.cells #[.int .u32 p.1, .int .i64 p.2] 26)
  have hx := blk_new w (.cells #[.int .u32 p.1, .int .i64 p.2] 26)
  have c0 : (w.alloc (.cells #[.int .u32 p.1, .int .i64 p.2] 26)).cell? ⟨w.heap.size, 0, none⟩ = some (.int .u32 p.1) := by rw [blk_cell hx]; rfl
  have c1 : (w.alloc (.cells #[.int .u32 p.1, .int .i64 p.2] 26)).cell? ⟨w.heap.size, 1, none⟩ = some (.int .i64 p.2) := by rw [blk_cell hx]; rfl
  obtain ⟨q, hqq⟩ : ∃ q, chk p.1 p.2 = q := ⟨_, rfl⟩
  rw [hqq] at hq HCK ⊢
  have q1 : (q == 0) = false := beq_eq_false_iff_ne.2 hq
  have q2 : (q != 0) = true := bne_iff_ne.2 hq
  have HB := Aside0.mk hb0
  clear hqq hq hx hb0
  go_enter Try.func29, Try.ntmps29
  go_wp2_with (first
    | (go_at_call 56; refine (HCK.out _).mono ?_; rintro e w1 ⟨rfl, hb⟩; have HB1 := Aside0.mk (HB.out.trans (hb.mono HB.out.size)); clear hb HB c0 c1))
  go_ret
  exact ⟨rfl, HB1.out⟩
set_option maxRecDepth 100000 in
set_option maxHeartbeats 2000000 in
theorem drop_none (p : Pf) (hp : wfP p) (w : World) (bt bm : Nat) (L : List (Pf × Int)) (hT : TabIs w bt bm L) (hL : lkL L p = none) (hq : chk p.1 p.2 = 0) :
    Calls Try.prog 29 #[.pointer (some ⟨bt, 0, none⟩), .agg #[.int .u32 p.1, .int .i64 p.2]] w fun e w' => e = .returned (.int .i64 5) ∧ Below w.heap.size w w' := by
  have HC := Aside0.mk (fun W => by have := check_calls p hp W; rw [hq] at this; exact this)
  have HT := Aside0.mk hT
  clear hT hq
  obtain ⟨p0, p1⟩ := p
  go_enter Try.func29, Try.ntmps29
  go_wp2_with (first | (go_at_call 56; refine (HC.out _).mono ?_; rintro e w2 ⟨rfl, hb⟩))
  have hsz : w.heap.size < (w.alloc (Obj.cells #[Value.int IntKind.u32 p0, Value.int IntKind.i64 p1] 26)).heap.size := by simp
  have hT1 := HT.out.below ((Below.refl w.heap.size w).alloc (Nat.le_refl _) (Obj.cells #[Value.int IntKind.u32 p0, Value.int IntKind.i64 p1] 26))
  have hT2 := hT1.below hb
  have hbox : w2.heap[w.heap.size]? = some (Obj.cells #[Value.int IntKind.u32 p0, Value.int IntKind.i64 p1] 26) := (hb.block _ hsz).trans (Go.MapKept.heap_alloc w _).1
  have b0 : w2.cell? ⟨w.heap.size, 0, none⟩ = some (.int .u32 p0) := by rw [blk_cell hbox]; rfl
  have b1 : w2.cell? ⟨w.heap.size, 1, none⟩ = some (.int .i64 p1) := by rw [blk_cell hbox]; rfl
  have c0 := hT2.cell0
  have hlook := fun n => (hT2.map.at (w' := w2.drewN n) rfl).look keyP true Try.underlying107 (z := .int .i64 0) (e := 3) (by kernel_rfl) hp
  have HB := Aside0.mk (((Below.refl w.heap.size w).alloc (Nat.le_refl _) (Obj.cells #[Value.int IntKind.u32 p0, Value.int IntKind.i64 p1] 26)).trans (hb.mono (by simp)))
  clear hb hT1 hT2 hsz hbox
  simp only [eP] at hlook
  rw [hL] at hlook
  simp only [if_true, eV] at hlook
  clear hL
  go_quiet (fail)
  go_wp2
  go_ret
  exact ⟨rfl, pw_below_drewN HB.out _⟩

/-- What was written were the table's two blocks: rows and iterators lie elsewhere. -/
theorem R_but {d : Kd Row} {e base : Nat} {ok : Nat → Prop} {v : Value} {R : List Row} {W W' : World} {bt bm : Nat} {L : List (Pf × Int)} (h : d.R e W base ok v R) (hT : TabIs W bt bm L) (hb : But (fun k => k = bt ∨ k = bm) W W') (he : ∀ q, q ∈ e :: d.E → q ≠ 110) : d.R e W' base ok v R := by
  refine Kd.R_mono (Kd.R_step (Kd.R_bound h) (fun k hk hlt => hb.block k hlt ?_)) (fun k hk => hk.1)
  obtain ⟨_, _, _, q, hq, cells, hc⟩ := hk
  rintro (rfl | rfl)
  · rw [hT.cells] at hc
    cases hc
    exact he _ hq rfl
  · obtain ⟨es, clock, hm, _⟩ := hT.map
    rw [hm] at hc
    cases hc
theorem IterAt.but {n₀ : Nat} {W W' : World} {f : Value} {rows : List Row} {bt bm : Nat} {L : List (Pf × Int)} (h : IterAt n₀ W f rows) (hT : TabIs W bt bm L) (hb : But (fun k => k = bt ∨ k = bm) W W') : IterAt n₀ W' f rows := by
  obtain ⟨g, A, c, e, hg, hx, hr⟩ := h
  refine ⟨g, A, c, e, hg, (hb.block g (Array.getElem?_eq_some_iff.1 hx).1 ?_).trans hx, R_but hr hT hb (by decide)⟩
  rintro (rfl | rfl)
  · rw [hT.cells] at hx
    have := congrArg (fun o => match o with | some (Obj.cells _ t _) => t | _ => 0) hx
    exact absurd (show (110 : Nat) = 142 from this) (by decide)
  · obtain ⟨es, clock, hm, _⟩ := hT.map
    rw [hm] at hx
    cases hx

theorem CanonOf.lkeq {R : List Row} {L L' : List (Pf × Int)} (h : CanonOf R L) (he : ∀ p, lkL L' p = lkL L p) : CanonOf R L' := ⟨h.ord, fun p v => by rw [he]; exact h.mem p v⟩
theorem Same.lkeq {R : List Row} {L L' : List (Pf × Int)} (h : Same R L) (hn : (L'.map Prod.fst).Nodup) (he : ∀ p, lkL L' p = lkL L p) : Same R L' :=
  ⟨h.can.lkeq he, hn, fun p hp => h.wf p (lk_mem_iff.1 (by rw [← he]; exact lk_mem_iff.2 hp)), fun p v hv => h.ok p v (by rw [← he]; exact hv), h.len⟩
theorem putR_len (R : List Row) (p : Pf) (v : Int) : (putR R p v).length ≤ R.length + 1 := by
  rw [putR_ins]
  induction R with
  | nil => simp [insR]
  | cons r t ih =>
    unfold insR
    split
    · have := List.length_filter_le (fun x : Row => decide (cmp3 p x.1 ≠ 0)) (r :: t)
      simp only [List.length_cons] at this ⊢
      omega
    · simp only [List.length_cons]
      omega
theorem Same.put {R : List Row} {L : List (Pf × Int)} (h : Same R L) {p : Pf} {v : Int} (hp : wfP p) (hc : chk p.1 p.2 = 0) (hn : ((putL L p v).map Prod.fst).Nodup) (hl : R.length < 1000) : Same (putR R p v) (putL L p v) := by
  refine ⟨h.can.put p v, hn, fun q hq => ?_, fun q u hu => ?_, by have := putR_len R p v; omega⟩
  · have := lk_mem_iff.2 hq
    rw [lk_put] at this
    by_cases e : q = p
    · rw [e]; exact hp
    · rw [if_neg e] at this
      exact h.wf q (lk_mem_iff.1 this)
  · rw [lk_put] at hu
    by_cases e : q = p
    · rw [e]; exact hc
    · rw [if_neg e] at hu
      exact h.ok q u hu
theorem Same.drop {R : List Row} {L : List (Pf × Int)} (h : Same R L) (p : Pf) (hn : ((delL L p).map Prod.fst).Nodup) : Same (dropR R p) (delL L p) := by
  refine ⟨h.can.drop h.nd p, hn, fun q hq => ?_, fun q u hu => ?_, Nat.le_trans (List.length_filter_le _ _) h.len⟩
  · have := lk_mem_iff.2 hq
    rw [lk_del h.nd] at this
    by_cases e : q = p
    · rw [if_pos e] at this; cases this
    · rw [if_neg e] at this
      exact h.wf q (lk_mem_iff.1 this)
  · rw [lk_del h.nd] at hu
    by_cases e : q = p
    · rw [if_pos e] at hu; cases hu
    · rw [if_neg e] at hu
      exact h.ok q u hu
/-- Whether the reference finds the prefix. -/
theorem dropR_len {R : List Row} {L : List (Pf × Int)} (h : CanonOf R L) (p : Pf) : (dropR R p).length = R.length ↔ lkL L p = none := by
  rw [← h.lk p]
  unfold dropR
  clear h
  induction R with
  | nil => simp [lkL]
  | cons r t ih =>
    unfold lkL
    by_cases e : r.1 = p
    · rw [if_pos e]
      have := List.length_filter_le (fun x : Row => !decide (x.1 = p)) t
      simp [e]
      omega
    · rw [if_neg e]
      simp [e]
      simpa using ih
end Go.Proofs.Ytaplkfnolimdmaa.Table
