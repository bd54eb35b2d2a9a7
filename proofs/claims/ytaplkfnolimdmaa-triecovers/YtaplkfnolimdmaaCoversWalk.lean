/- What the law's own function does, when both covers are one list. Began as a printed text; 'in' is carried whole through the loops by hand. -/
import Derived.Test.YtaplkfnolimdmaaPCx8
import Derived.Test.YtaplkfnolimdmaaPCx7
import Derived.Test.YtaplkfnolimdmaaPCx4
namespace Go.Proofs.Ytaplkfnolimdmaa.PC
open Go.RowKit Go.Proofs.YtaplkfnolimdmaaW.PrintWords Go.Proofs.YtaplkfnolimdmaaW.PrintLast Go.Proofs.YtaplkfnolimdmaaW.PrintMore
attribute [local go_sem] max2_int min2_int max_two min_two max_three min_three max_four min_four   -- for this text's walks alone
set_option linter.unusedVariables false
set_option linter.unusedSimpArgs false

theorem cut_over (t e : TypeId) (kh : IntKind) {P : Program} {i : TypeInfo} (ht : P.underlying t = some (.slice e)) (hi : P.info? e = some i) (A : Option Addr) (n c : Nat) (j : Int) (h0 : 0 ≤ j) (hc : j ≤ c) :
    ∀ W : World, (Instr.slice t (.slice A n c) none (some (.int kh j)) none).run P W = .ok (.slice A j.toNat c) W := by
  intro W
  have hel : P.elem t = e := by simp [Program.elem, ht]
  have hu : P.underlying t = some (.slice (P.elem t)) := by rw [hel]; exact ht
  have ha : (A.map fun x => x.add 0) = A := by cases A <;> simp [Addr.add]
  rw [run_slice_h W t A n c hu kh j h0 (by omega), hel]
  simp [sizeOf, typeInfo, hi, sliced, Result.andThen, ha]

set_option maxHeartbeats 8000000 in
set_option maxRecDepth 100000 in
theorem covers_walk (k : Nat) (A0 : Option Addr) (c0 : Nat) (l0 : List (S26)) (w : World) (hr0 : Kd.C k26 w A0 l0.length l0) (hc0 : l0.length ≤ c0) (t263 t266 t269 : List S26)
  (g1 : waymarkref04_Cover.f k (l0.take 80) = some t263) (g2 : trie_Cover.f k (l0.take 80) = some t266) (g3 : trie_Cover.f k (l0.take 80) = some t269)
  (g4 : waymarkref01_Same.f k t266 t263 = some true) (g5 : waymarkref01_Same.f k t269 t263 = some true) (g6 : waymarkref01_Same.f k (l0.take 80) (l0.take 80) = some true) (gl : t266.length = t263.length) (gb : t263.length ≤ 200) :
  Calls Try.prog 3 #[.slice A0 l0.length c0] w fun e w' => e = .returned (.bool true) ∧ Below w.heap.size w w' := by
 have hu26 := Try.underlying26
 have HR0 := Aside0.mk hr0
 have HC0 := Aside0.mk hc0
 clear hr0 hc0
 have HB := Aside0.mk (Below.refl w.heap.size w)
 obtain ⟨ji2, hji2⟩ : ∃ j_ : Int, (mn (l0.length : Int) 80) = j_ := ⟨_, rfl⟩
 have hjb : 0 ≤ ji2 ∧ ji2 ≤ 80 ∧ ji2 ≤ (l0.length : Int) := by rw [← hji2]; unfold mn; split <;> omega
 have hj80 : l0.take ji2.toNat = l0.take 80 := by
   rw [← hji2]; unfold mn
   split
   · rfl
   · rw [List.take_of_length_le (by omega), List.take_of_length_le (by omega)]
 have hji2_ : (if 80 < (l0.length : Int) then 80 else (l0.length : Int)) = ji2 := hji2
 have c3b0 := eq_true hjb.1
 have c3b1 : decide (0 ≤ (ji2)) = true := decide_eq_true hjb.1
 have c4b0 := eq_true hjb.2.2
 have c4b1 : decide ((ji2) ≤ (l0.length : Int)) = true := decide_eq_true hjb.2.2
 obtain ⟨y246, hy246⟩ : ∃ y_ : List (S26), y_ = (l0.take ((ji2) : Int).toNat) := ⟨_, rfl⟩
 have hyl : y246.length ≤ 80 := by rw [hy246, List.length_take]; omega
 rw [← hj80, ← hy246] at g1 g2 g3 g6
 have Ny246 := Aside0.mk hy246
 clear hy246 hj80
 obtain ⟨y250, hy250⟩ : ∃ y_ : List (S26), y_ = (([] : List (S26))) := ⟨_, rfl⟩
 have LMc5 := Aside0.mk (show y250.length + y246.length < 8796093022208 by rw [hy250]; simp; omega)
 obtain ⟨y253, hy253⟩ : ∃ y_ : List (S26), y_ = (y250 ++ y246) := ⟨_, rfl⟩
 have e253 : y253 = y246 := by rw [hy253, hy250]; rfl
 have Ny250 := Aside0.mk hy250
 clear hy250
 have LMc6 := Aside0.mk (show y253.length < 8796093022208 by rw [e253]; omega)
 have Ny253 := Aside0.mk hy253
 clear hy253
 obtain ⟨y256, hy256⟩ : ∃ y_ : List (S26), y_ = (y253 ++ [(⟨0, 7⟩ : S26)]) := ⟨_, rfl⟩
 have e256 : y256 = y246 ++ [(⟨0, 7⟩ : S26)] := by rw [hy256, e253]
 have l256 : y256.length = y246.length + 1 := by rw [e256]; simp
 have Ny256 := Aside0.mk hy256
 clear hy256 e253
 have c7b0 := eq_true (show 0 ≤ (y246.length : Int) by omega)
 have c7b1 : decide (0 ≤ (y246.length : Int)) = true := decide_eq_true (by omega)
 have c8b0 := eq_true (show (y246.length : Int) ≤ (y256.length : Int) by omega)
 have c8b1 : decide ((y246.length : Int) ≤ (y256.length : Int)) = true := decide_eq_true (by omega)
 obtain ⟨y259, hy259⟩ : ∃ y_ : List (S26), y_ = (y256.take ((y246.length : Int) : Int).toNat) := ⟨_, rfl⟩
 have e259 : y259 = y246 := by rw [hy259, e256]; simp
 have h7 : (rd_T26 y256 (y246.length : Int)).f1 = 7 := by
   rw [e256]; unfold rd_T26; rw [List.getD_eq_getElem?_getD, Int.toNat_natCast, List.getElem?_append_right (Nat.le_refl _), Nat.sub_self]; rfl
 have Ny259 := Aside0.mk hy259
 clear hy259 e256
 have A9 := Aside0.mk g1
 have A10 := Aside0.mk (show trie_Cover.f k y259 = some t266 by rw [e259]; exact g2)
 have A11 := Aside0.mk (show trie_Cover.f k y259 = some t269 by rw [e259]; exact g3)
 have A12 := Aside0.mk g4
 have A35 := Aside0.mk g5
 have A37 := Aside0.mk (show waymarkref01_Same.f k y259 y246 = some true by rw [e259]; exact g6)
 clear g1 g2 g3 g4 g5 g6
 obtain ⟨K, hK⟩ : ∃ K : Nat, K = t266.length + 100 := ⟨_, rfl⟩
 have FX := Aside0.mk (show y246.length ≤ 80 ∧ t266.length = t263.length ∧ t263.length ≤ 200 ∧ y256.length = y246.length + 1 ∧ y259 = y246 ∧ (rd_T26 y256 (y246.length : Int)).f1 = 7 ∧ K = t266.length + 100 from ⟨hyl, gl, gb, l256, e259, h7, hK⟩)
 clear hyl gl gb l256 e259 h7 hK hjb
 have q14 : ((ji2) : Int) ≤ ((l0.length : Int) : Int) := of_decide_eq_true (by first | (with_reducible assumption) | assumption)
 obtain ⟨i014, hi014, _, hsz14, _⟩ := info_parts info26
 have hroom14 : l0.length ≤ c0 := HC0.out
 have hC14 : Kd.C k26 _ A0 l0.length l0 := HR0.out
 have hcut14 := cut_to (P := Try.prog) 22 26 .i64 Try.underlying22 hi014 A0 l0.length c0 (ji2) (of_decide_eq_true (by first | (with_reducible assumption) | assumption)) q14 hroom14
 have hr14 := Kd.C_take (m := ((ji2) : Int).toNat) hC14 (by omega)
 have hy14 : y246.length = ((ji2) : Int).toNat := (by rw [Ny246.out, List.length_take]; omega)
 rw [← Ny246.out] at hr14
 rw [← hy14] at hcut14
 have HR249 := Aside0.mk hr14
 have HC249 := Aside0.mk (show y246.length ≤ c0 from by omega)
 clear hr14 hC14 hroom14 hi014 hsz14
 have KY14 := Aside0.mk hy14
 clear hy14
 replace q14 := eq_true q14
 go_enter Try.func3, Try.ntmps3
 go_wp2_with (first | ((with_reducible refine gate_dst (N := 17) rfl ?_); refine Kd.R_lit k26 _ 26 ?hg (N := 17) ?hd (xs := ([] : List (S26))) (inner := []) (ok := fun _ => True) (okp := fun _ => True) ?hr ?hp (fun _ hk => hk) trivial (Below.refl _ _) (Nat.le_refl _) (by simp) ?_; (case hd => rfl); (case hg => rfl); (case hr => first | (go_simp; done) | (go_simp; rfl)); (case hp => exact (Reps.none _ _)); intro v251 w15 ho16 hb hg_ hnew_; clear hg_ hnew_; (first | rw [← Ny250.out] at ho16 | (simp only [Int.reduceToNat] at ho16; rw [← Ny250.out] at ho16)); have n0_ := Aside0.mk (Kd.R_lower ho16 (below_size (by repeat (first | (with_reducible first | exact HB.out | apply below_alloc | apply pw_below_drewN | apply below_drew1) | exact HB.out)))); have n1_ := Aside0.mk (below_step (by repeat (first | (with_reducible first | exact HB.out | apply below_alloc | apply pw_below_drewN | apply below_drew1) | exact HB.out)) hb); clear HB; have HO252 := n0_; have HB := n1_; clear n0_ n1_; clear hb ho16) | ((with_reducible refine gate_builtin (b := .append) (xs := #[.tmp 17, .tmp 18]) rfl ?_); at_builtin; refine Kd.R_append_rows k26 (w0 := w) w.heap.size rfl (.tmp 17) (.tmp 18) 22 26 (.agg #[(.int .u32 0), (.int .i64 0)]) 16 rfl Try.underlying22 info26 rfl (by decide) (by omega) v251 y250 y246 _ _ _ (fun _ => True) (fun _ => False) rfl rfl ?aO ?aR (fun _ _ h => h) (fun _ h => h.elim) ?aF ?aB ?aS ?aL ?_; (case aR => repeat (first | exact (Kd.C_below HR249.out HB.out) | (with_reducible refine Kd.C_alloc ?_ _) | (with_reducible refine Kd.C_drewN ?_ _) | (with_reducible refine Kd.C_drew ?_))); (case aB => exact (by repeat (first | (with_reducible first | exact HB.out | apply below_alloc | apply pw_below_drewN | apply below_drew1) | exact HB.out))); (case aF => exact (fun _ _ => trivial)); (case aO => exact (by (with_reducible repeat (first | apply Kd.R_alloc | apply Kd.R_drewN | apply Kd.R_drew)); exact HO252.out)); (case aS => exact (below_size (by repeat (first | (with_reducible first | exact HB.out | apply below_alloc | apply pw_below_drewN | apply below_drew1) | exact HB.out)))); (case aL => have := LMc5.out; omega); intro v254 w17 ho hb hg hat; rw [← Ny253.out] at ho; have n0_ := Aside0.mk (hb); have n1_ := Aside0.mk (ho); clear HB; clear HO252; have HB := n0_; have HO255 := n1_; clear n0_ n1_; clear ho hb hg hat) | ((with_reducible refine gate_builtin (b := .append) (xs := #[.tmp 19, .tmp 21]) rfl ?_); at_builtin; refine Kd.R_append k26 (w0 := w) w.heap.size rfl (.tmp 19) (.tmp 21) 22 26 (.agg #[(.int .u32 0), (.int .i64 0)]) 16 rfl Try.underlying22 info26 rfl (by decide) (by omega) v254 y253 (⟨0, 7⟩ : S26) [.int .u32 0, .int .i64 7] (fun _ => True) (fun _ => False) rfl rfl ?aP (fun _ hk => hk.elim) ?aF ?aO ?aB ?aS ?aL ?_; (case aP => exact k26_mkM _ _ _ (⟨0, 7⟩ : S26)); (case aB => exact (by repeat (first | (with_reducible first | exact HB.out | apply below_alloc | apply pw_below_drewN | apply below_drew1) | exact HB.out))); (case aF => exact (fun _ _ => trivial)); (case aO => exact (by (with_reducible repeat (first | apply Kd.R_alloc | apply Kd.R_drewN | apply Kd.R_drew)); exact HO255.out)); (case aS => exact (below_size (by repeat (first | (with_reducible first | exact HB.out | apply below_alloc | apply pw_below_drewN | apply below_drew1) | exact HB.out)))); (case aL => have := LMc6.out; omega); intro v257 w18 ho hb hg hat; rw [← Ny256.out] at ho; have n0_ := Aside0.mk (hb); have n1_ := Aside0.mk (ho); clear HB; clear HO255; have HB := n0_; have HO258 := n1_; clear n0_ n1_; clear ho hb hg hat; obtain ⟨Ao20, co20, eo20⟩ := Kd.R_slice HO258.out; subst eo20; have q19 : ((y246.length : Int) : Int) ≤ ((y256.length : Int) : Int) := of_decide_eq_true (by first | (with_reducible assumption) | assumption); obtain ⟨i019, hi019, _, hsz19, _⟩ := info_parts info26; have hroom19 : y256.length ≤ co20 := (Kd.R_reads' HO258.out).2.1; have hC19 : Kd.C k26 _ Ao20 y256.length y256 := (Kd.R_reads' HO258.out).2.2; have hcut19 := cut_to (P := Try.prog) 22 26 .i64 Try.underlying22 hi019 Ao20 y256.length co20 (y246.length : Int) (of_decide_eq_true (by first | (with_reducible assumption) | assumption)) q19 hroom19; have hr19 := Kd.C_take (m := ((y246.length : Int) : Int).toNat) hC19 (by omega); have hy19 : y259.length = ((y246.length : Int) : Int).toNat := (by rw [Ny259.out, List.length_take]; omega); rw [← Ny259.out] at hr19; rw [← hy19] at hcut19; have HR262 := Aside0.mk hr19; have HC262 := Aside0.mk (show y259.length ≤ co20 from by omega); clear hr19 hC19 hroom19 hi019 hsz19; have KY19 := Aside0.mk hy19; clear hy19; have KL19 := Aside0.mk (show ((y246.length : Int) : Int).toNat ≤ y256.length from by omega); replace q19 := eq_true q19) | ((with_reducible refine gate_callee (f := 12) rfl ?_); refine goesL_ (some 26) rfl rfl Try.func12 (by kernel_rfl) rfl #[.slice A0 y246.length c0] rfl (by (try simp only [List.map_toArray, List.map_cons, List.map_nil]); first | done | rfl | (simp only [List.length_drop, List.length_take]; rfl)) ?_; (with_reducible refine (waymarkref04_Cover.calls k _ _ y246 t263 _ ?side1 ?side2 A9.out).mono ?_); (case side1 => repeat (first | exact (Kd.C_below HR249.out HB.out) | (with_reducible refine Kd.C_alloc ?_ _) | (with_reducible refine Kd.C_drewN ?_ _) | (with_reducible refine Kd.C_drew ?_))); (case side2 => exact HC249.out); rintro e w21 ⟨v264, rfl, ho0, hb⟩; refine ⟨_, rfl, ?_⟩; have n0_ := Aside0.mk (Kd.R_elder' (by (with_reducible repeat (first | apply Kd.R_alloc | apply Kd.R_drewN | apply Kd.R_drew)); exact HO258.out) (Kd.R_base ho0) hb); have n1_ := Aside0.mk (Kd.R_lower (Kd.R_new' ho0 (Kd.R_lt (by (with_reducible repeat (first | apply Kd.R_alloc | apply Kd.R_drewN | apply Kd.R_drew)); exact HO258.out))) (below_size (by repeat (first | (with_reducible first | exact HB.out | apply below_alloc | apply pw_below_drewN | apply below_drew1) | exact HB.out)))); have n2_ := Aside0.mk (Kd.C_below (by repeat (first | (with_reducible exact HR262.out) | (with_reducible refine Kd.C_alloc ?_ _) | (with_reducible refine Kd.C_drewN ?_ _) | (with_reducible refine Kd.C_drew ?_) | exact HR262.out)) hb); have n3_ := Aside0.mk (below_step (by repeat (first | (with_reducible first | exact HB.out | apply below_alloc | apply pw_below_drewN | apply below_drew1) | exact HB.out)) hb); clear HO258; clear HR262; clear HB; have HO258 := n0_; have HO265 := n1_; have HR262 := n2_; have HB := n3_; clear n0_ n1_ n2_ n3_; (try clear hb); (try clear hb2); (try clear hk); (try clear hi); (try clear ho0)) | ((with_reducible refine gate_callee (f := 13) rfl ?_); refine goesL_ (some 28) rfl rfl Try.func13 (by kernel_rfl) rfl #[.slice Ao20 y259.length co20] rfl (by (try simp only [List.map_toArray, List.map_cons, List.map_nil]); first | done | rfl | (simp only [List.length_drop, List.length_take]; rfl)) ?_; (with_reducible refine (trie_Cover.calls k _ _ y259 t266 _ ?side1 ?side2 A10.out).mono ?_); (case side1 => repeat (first | exact (by repeat (first | (with_reducible exact HR262.out) | (with_reducible refine Kd.C_alloc ?_ _) | (with_reducible refine Kd.C_drewN ?_ _) | (with_reducible refine Kd.C_drew ?_) | exact HR262.out)) | (with_reducible refine Kd.C_alloc ?_ _) | (with_reducible refine Kd.C_drewN ?_ _) | (with_reducible refine Kd.C_drew ?_))); (case side2 => exact HC262.out); rintro e w22 ⟨v267, rfl, ho0, hb⟩; refine ⟨_, rfl, ?_⟩; have n0_ := Aside0.mk (Kd.R_elder' (by (with_reducible repeat (first | apply Kd.R_alloc | apply Kd.R_drewN | apply Kd.R_drew)); exact HO258.out) (Kd.R_base ho0) hb); have n1_ := Aside0.mk (Kd.R_elder' (by (with_reducible repeat (first | apply Kd.R_alloc | apply Kd.R_drewN | apply Kd.R_drew)); exact HO265.out) (Kd.R_base ho0) hb); have n2_ := Aside0.mk (Kd.R_lower (Kd.R_new' (Kd.R_new' ho0 (Kd.R_lt (by (with_reducible repeat (first | apply Kd.R_alloc | apply Kd.R_drewN | apply Kd.R_drew)); exact HO258.out))) (Kd.R_lt (by (with_reducible repeat (first | apply Kd.R_alloc | apply Kd.R_drewN | apply Kd.R_drew)); exact HO265.out))) (below_size (by repeat (first | (with_reducible first | exact HB.out | apply below_alloc | apply pw_below_drewN | apply below_drew1) | exact HB.out)))); have n3_ := Aside0.mk (Kd.C_below (by repeat (first | (with_reducible exact HR262.out) | (with_reducible refine Kd.C_alloc ?_ _) | (with_reducible refine Kd.C_drewN ?_ _) | (with_reducible refine Kd.C_drew ?_) | exact HR262.out)) hb); have n4_ := Aside0.mk (below_step (by repeat (first | (with_reducible first | exact HB.out | apply below_alloc | apply pw_below_drewN | apply below_drew1) | exact HB.out)) hb); clear HO258; clear HO265; clear HR262; clear HB; have HO258 := n0_; have HO265 := n1_; have HO268 := n2_; have HR262 := n3_; have HB := n4_; clear n0_ n1_ n2_ n3_ n4_; (try clear hb); (try clear hb2); (try clear hk); (try clear hi); (try clear ho0)) | ((with_reducible refine gate_callee (f := 13) rfl ?_); refine goesL_ (some 30) rfl rfl Try.func13 (by kernel_rfl) rfl #[.slice Ao20 y259.length co20] rfl (by (try simp only [List.map_toArray, List.map_cons, List.map_nil]); first | done | rfl | (simp only [List.length_drop, List.length_take]; rfl)) ?_; (with_reducible refine (trie_Cover.calls k _ _ y259 t269 _ ?side1 ?side2 A11.out).mono ?_); (case side1 => repeat (first | exact (by repeat (first | (with_reducible exact HR262.out) | (with_reducible refine Kd.C_alloc ?_ _) | (with_reducible refine Kd.C_drewN ?_ _) | (with_reducible refine Kd.C_drew ?_) | exact HR262.out)) | (with_reducible refine Kd.C_alloc ?_ _) | (with_reducible refine Kd.C_drewN ?_ _) | (with_reducible refine Kd.C_drew ?_))); (case side2 => exact HC262.out); rintro e w23 ⟨v270, rfl, ho0, hb⟩; refine ⟨_, rfl, ?_⟩; have n0_ := Aside0.mk (Kd.R_elder' (by (with_reducible repeat (first | apply Kd.R_alloc | apply Kd.R_drewN | apply Kd.R_drew)); exact HO258.out) (Kd.R_base ho0) hb); have n1_ := Aside0.mk (Kd.R_elder' (by (with_reducible repeat (first | apply Kd.R_alloc | apply Kd.R_drewN | apply Kd.R_drew)); exact HO265.out) (Kd.R_base ho0) hb); have n2_ := Aside0.mk (Kd.R_elder' (by (with_reducible repeat (first | apply Kd.R_alloc | apply Kd.R_drewN | apply Kd.R_drew)); exact HO268.out) (Kd.R_base ho0) hb); have n3_ := Aside0.mk (Kd.R_lower (Kd.R_new' (Kd.R_new' (Kd.R_new' ho0 (Kd.R_lt (by (with_reducible repeat (first | apply Kd.R_alloc | apply Kd.R_drewN | apply Kd.R_drew)); exact HO258.out))) (Kd.R_lt (by (with_reducible repeat (first | apply Kd.R_alloc | apply Kd.R_drewN | apply Kd.R_drew)); exact HO265.out))) (Kd.R_lt (by (with_reducible repeat (first | apply Kd.R_alloc | apply Kd.R_drewN | apply Kd.R_drew)); exact HO268.out))) (below_size (by repeat (first | (with_reducible first | exact HB.out | apply below_alloc | apply pw_below_drewN | apply below_drew1) | exact HB.out)))); have n4_ := Aside0.mk (Kd.C_below (by repeat (first | (with_reducible exact HR262.out) | (with_reducible refine Kd.C_alloc ?_ _) | (with_reducible refine Kd.C_drewN ?_ _) | (with_reducible refine Kd.C_drew ?_) | exact HR262.out)) hb); have n5_ := Aside0.mk (below_step (by repeat (first | (with_reducible first | exact HB.out | apply below_alloc | apply pw_below_drewN | apply below_drew1) | exact HB.out)) hb); clear HO258; clear HO265; clear HO268; clear HR262; clear HB; have HO258 := n0_; have HO265 := n1_; have HO268 := n2_; have HO271 := n3_; have HR262 := n4_; have HB := n5_; clear n0_ n1_ n2_ n3_ n4_ n5_; (try clear hb); (try clear hb2); (try clear hk); (try clear hi); (try clear ho0); obtain ⟨Ao24, co24, eo24⟩ := Kd.R_slice HO268.out; subst eo24; obtain ⟨Ao25, co25, eo25⟩ := Kd.R_slice HO265.out; subst eo25) | ((with_reducible refine gate_callee (f := 14) rfl ?_); refine goesL_ (some 33) rfl rfl Try.func14 (by kernel_rfl) rfl #[.slice Ao24 t266.length co24, .slice Ao25 t263.length co25] rfl (by (try simp only [List.map_toArray, List.map_cons, List.map_nil]); first | done | rfl | (simp only [List.length_drop, List.length_take]; rfl)) ?_; (with_reducible refine (waymarkref01_Same.calls k _ _ t266 _ _ t263 true _ ?side1 ?side2 ?side3 ?side4 A12.out).mono ?_); (case side1 => repeat (first | exact (Kd.R_reads' HO268.out).2.2 | (with_reducible refine Kd.C_alloc ?_ _) | (with_reducible refine Kd.C_drewN ?_ _) | (with_reducible refine Kd.C_drew ?_))); (case side2 => exact (Kd.R_reads' HO268.out).2.1); (case side3 => repeat (first | exact (Kd.R_reads' HO265.out).2.2 | (with_reducible refine Kd.C_alloc ?_ _) | (with_reducible refine Kd.C_drewN ?_ _) | (with_reducible refine Kd.C_drew ?_))); (case side4 => exact (Kd.R_reads' HO265.out).2.1); rintro e w' ⟨rfl, ⟨nd, rfl⟩⟩; refine ⟨_, rfl, ?_⟩))
 clear HR262
 go_loopg [8] K (fun kq v8 w' => ∃ (x6_1 : List (S26)) (x8_1 : Int), v8 = .int .i64 x8_1 ∧ Aside0 (0 ≤ x8_1 ∧ x8_1 ≤ (x6_1.length : Int) ∧ x6_1.length = t263.length ∧ (x6_1.length : Int) - x8_1 + 80 ≤ kq) ∧ Aside0 (kq ≤ K) ∧ Aside0 (Kd.R k26 26 w' w.heap.size (fun k_ => (some k_ ≠ (.slice Ao20 y256.length co20 : Value).ownBlock ∧ some k_ ≠ (v270 : Value).ownBlock) ∧ some k_ ≠ ((.slice Ao24 t266.length co24) : Value).ownBlock) (.slice Ao25 t263.length co25) t263) ∧ Aside0 (Kd.R k26 26 w' w.heap.size (fun k_ => some k_ ≠ (.slice Ao25 t263.length co25 : Value).ownBlock ∧ some k_ ≠ (v270 : Value).ownBlock ∧ some k_ ≠ (.slice Ao20 y256.length co20 : Value).ownBlock) (.slice Ao24 t266.length co24) x6_1) ∧ Aside0 (Kd.R k26 26 w' w.heap.size (fun k_ => (some k_ ≠ (.slice Ao25 t263.length co25 : Value).ownBlock ∧ some k_ ≠ (.slice Ao20 y256.length co20 : Value).ownBlock) ∧ some k_ ≠ ((.slice Ao24 t266.length co24) : Value).ownBlock) v270 t269) ∧ Aside0 (Kd.R k26 26 w' w.heap.size (fun k_ => (some k_ ≠ (.slice Ao25 t263.length co25 : Value).ownBlock ∧ some k_ ≠ (v270 : Value).ownBlock) ∧ some k_ ≠ ((.slice Ao24 t266.length co24) : Value).ownBlock) (.slice Ao20 y256.length co20) y256) ∧ Aside0 (Below w.heap.size w w'))
 case atStart => exact ⟨(t266), (0), (by first | rfl | (simp; done) | (simp [*]; done)), ⟨by have := FX.out; omega⟩, ⟨Nat.le_refl _⟩, ⟨by (with_reducible repeat (first | apply Kd.R_alloc | apply Kd.R_drewN | apply Kd.R_drew)); exact Kd.R_mono HO265.out (fun _ hk => ⟨⟨hk.1.1.2, hk.2⟩, hk.1.2⟩)⟩, ⟨by (with_reducible repeat (first | apply Kd.R_alloc | apply Kd.R_drewN | apply Kd.R_drew)); exact Kd.R_mono HO268.out (fun _ hk => ⟨hk.1.2, hk.2, hk.1.1.2⟩)⟩, ⟨by (with_reducible repeat (first | apply Kd.R_alloc | apply Kd.R_drewN | apply Kd.R_drew)); exact Kd.R_mono HO271.out (fun _ hk => ⟨⟨hk.1.2, hk.1.1.2⟩, hk.2⟩)⟩, ⟨by (with_reducible repeat (first | apply Kd.R_alloc | apply Kd.R_drewN | apply Kd.R_drew)); exact Kd.R_mono HO258.out (fun _ hk => ⟨⟨hk.1.1.2, hk.2⟩, hk.1.2⟩)⟩, ⟨by repeat (first | (with_reducible first | exact HB.out | apply below_alloc | apply pw_below_drewN | apply below_drew1) | exact HB.out)⟩⟩
 case round =>
  try clear q14
  try clear q19
  try clear HO258
  try clear HO265
  try clear HO268
  try clear HO271
  clear HB
  obtain ⟨x6_1, x8_1, rfl, HF, HK1, HO_5, HO_6, HO_7, HO_8, HB⟩ := hrel
  have hl6_1 := (Kd.R_reads' HO_6.out).1
  rw [hl6_1] at HO_6
  (try simp only [hl6_1])
  (try simp only [hl6_1] at HO_5)
  (try simp only [hl6_1] at HO_7)
  (try simp only [hl6_1] at HO_8)
  cases gk with
  | zero => exact absurd HF.out (by omega)
  | succ k1 =>
   by_cases c26 : x8_1 < (x6_1.length : Int)
   ·have c26b0 : decide (x8_1 < (x6_1.length : Int)) = true := decide_eq_true c26
    clear c26
    have c27b0 : decide (0 ≤ x8_1) = true := decide_eq_true HF.out.1
    obtain ⟨y273, hy273⟩ : ∃ y_ : List (S26), y_ = (x6_1.set (x8_1 : Int).toNat (⟨(rd_T26 x6_1 x8_1).f0, 99⟩ : S26)) := ⟨_, rfl⟩
    have l273 := Aside0.mk (show y273.length = x6_1.length by rw [hy273]; simp)
    have Ny273 := Aside0.mk hy273
    clear hy273
    have p28 : 0 ≤ (x8_1 : Int) := of_decide_eq_true (by first | (with_reducible assumption) | assumption)
    have q28 : (x8_1 : Int) < ((x6_1.length : Int) : Int) := of_decide_eq_true (by first | (with_reducible assumption) | assumption)
    obtain ⟨go28, co28, eo28, gb28, gl28, cl28, HG28⟩ := Kd.R_form HO_6.out (by omega)
    (first | cases eo28 | (injection eo28 with ea_ en_ ec_; (first | subst ea_ | (injection ea_ with ea_; subst ea_)); subst ec_; clear en_))
    have GB28 := Aside0.mk gb28
    have GG28 := Aside0.mk HG28
    clear gb28 gl28 HG28
    obtain ⟨ce28, hcl28, hM28, hcc28, hfr28⟩ := Kd.R_elem HO_6.out z26 (x8_1 : Int) p28 q28
    obtain rfl := k26_openM hM28
    have hx28_0 : wr.cell? ⟨go28, (x8_1 : Int).toNat * 2, none⟩ = some (.int .u32 ((rd_T26 x6_1 x8_1).f0)) := hcc28 0 _ rfl
    have hx28_1 : wr.cell? ⟨go28, (x8_1 : Int).toNat * 2 + 1, none⟩ = some (.int .i64 ((rd_T26 x6_1 x8_1).f1)) := hcc28 1 _ rfl
    have hf28_0 : wr.frozen? ⟨go28, (x8_1 : Int).toNat * 2, none⟩ = false := hfr28 0
    have hf28_1 : wr.frozen? ⟨go28, (x8_1 : Int).toNat * 2 + 1, none⟩ = false := hfr28 1
    clear hcl28 hcc28 hfr28 hM28
    replace p28 := eq_true p28
    replace q28 := eq_true q28
    have HX29 := Aside0.mk (show Kd.R k26 26 wr w.heap.size (fun k_ => some k_ ≠ (.slice Ao25 t263.length co25 : Value).ownBlock ∧ some k_ ≠ (v270 : Value).ownBlock ∧ some k_ ≠ (.slice Ao20 y256.length co20 : Value).ownBlock) (.slice (some ⟨go28, 0, none⟩) x6_1.length co24) x6_1 from (by (with_reducible repeat (first | apply Kd.R_alloc | apply Kd.R_drewN | apply Kd.R_drew)); exact HO_6.out))
    obtain ⟨ce29, hcl29, hM29, hcc29, hfr29⟩ := Kd.R_elem HX29.out z26 (x8_1 : Int) (of_decide_eq_true (by first | (with_reducible assumption) | assumption)) (by have h_ : (x8_1 : Int) < ((x6_1.length : Int) : Int) := of_decide_eq_true (by first | (with_reducible assumption) | assumption); first | exact h_ | (have e_ := (Kd.R_reads' HO_6.out).1; omega) | simpa using h_)
    obtain rfl := k26_openM hM29
    have HP29 := Kd.R_seg HX29.out (x8_1 : Int) (of_decide_eq_true (by first | (with_reducible assumption) | assumption)) (by have h_ : (x8_1 : Int) < ((x6_1.length : Int) : Int) := of_decide_eq_true (by first | (with_reducible assumption) | assumption); first | exact h_ | (have e_ := (Kd.R_reads' HO_6.out).1; omega) | simpa using h_) (seg := [.int .i64 99]) (j := 1) hcl29 hcc29 (show 2 ≤ 2 from by decide) (x' := (⟨(rd_T26 x6_1 x8_1).f0, 99⟩ : S26)) (k26_mkM _ _ _ (⟨(rd_T26 x6_1 x8_1).f0, 99⟩ : S26) ) (fun _ hk => hk)
    have hx29_1 := hcc29 1 _ rfl
    (try simp only [show (k26).sz = 2 from rfl, Nat.mul_one, Nat.add_zero] at hx29_1)
    have hf29_1 := hfr29 1
    (try simp only [show (k26).sz = 2 from rfl, Nat.mul_one, Nat.add_zero] at hf29_1)
    clear hcl29 hcc29 hfr29 hM29
    go_wp2_with (first | ((with_reducible refine gate_store (t := 3) (p := 44) rfl ?_); refine store_event (t := 3) (p := 44) (v := ?vo_w30) (w1 := (wr.setCell ⟨go28, (x8_1 : Int).toNat * 2 + 1, none⟩ (.int .i64 99))) ?hg ?ho ?hn ?hr ?_; (case ho => rfl); (case hg => rfl); (case hn => rfl); (case hr => first | (go_simp; done) | (go_simp; rfl)); intro w30 hw; have hg : wr.grownBy w30 (some go28) := (by rw [hw]; exact HP29.2); have hp_ : Kd.R k26 26 w30 w.heap.size (fun k_ => some k_ ≠ (.slice Ao25 t263.length co25 : Value).ownBlock ∧ some k_ ≠ (v270 : Value).ownBlock ∧ some k_ ≠ (.slice Ao20 y256.length co20 : Value).ownBlock) (.slice (some ⟨go28, 0, none⟩) x6_1.length co24) y273 := (by rw [hw, Ny273.out]; exact HP29.1); clear HP29; have n0_ := Aside0.mk (Kd.R_after (v := (.slice (some ⟨go28, 0, none⟩) x6_1.length co24)) (v1 := (.slice (some ⟨go28, 0, none⟩) x6_1.length co24)) (ok := (fun k_ => some k_ ≠ (.slice Ao20 y256.length co20 : Value).ownBlock ∧ some k_ ≠ (v270 : Value).ownBlock)) (by (with_reducible repeat (first | apply Kd.R_alloc | apply Kd.R_drewN | apply Kd.R_drew)); exact HO_5.out) hg (.inl rfl)); have n1_ := Aside0.mk (hp_); have n2_ := Aside0.mk (Kd.R_after (v := (.slice (some ⟨go28, 0, none⟩) x6_1.length co24)) (v1 := (.slice (some ⟨go28, 0, none⟩) x6_1.length co24)) (ok := (fun k_ => some k_ ≠ (.slice Ao25 t263.length co25 : Value).ownBlock ∧ some k_ ≠ (.slice Ao20 y256.length co20 : Value).ownBlock)) (by (with_reducible repeat (first | apply Kd.R_alloc | apply Kd.R_drewN | apply Kd.R_drew)); exact HO_7.out) hg (.inl rfl)); have n4_ := Aside0.mk (Kd.R_after (v := (.slice (some ⟨go28, 0, none⟩) x6_1.length co24)) (v1 := (.slice (some ⟨go28, 0, none⟩) x6_1.length co24)) (ok := (fun k_ => some k_ ≠ (.slice Ao25 t263.length co25 : Value).ownBlock ∧ some k_ ≠ (v270 : Value).ownBlock)) (by (with_reducible repeat (first | apply Kd.R_alloc | apply Kd.R_drewN | apply Kd.R_drew)); exact HO_8.out) hg (.inl rfl)); have n3_ := Aside0.mk ((by rw [hw]; exact below_set (HB.out) GB28.out : Below w.heap.size w w30)); clear HO_5; clear HO_6; clear HO_7; clear HO_8; clear HB; have HO_5 := n0_; have HO_6 := n1_; have HO_7 := n2_; have HO_8 := n4_; have HB := n3_; clear n0_ n1_ n2_ n3_ n4_; clear hg hw hp_))
    (try simp only [← hl6_1])
    go_roundg k1
    case measure => have := HK1.out; omega
    case rel => exact ⟨(y273), (wrap64 (x8_1 + 1)), (by first | rfl | (simp; done) | (simp [*]; done)), ⟨by have := FX.out; have := HF.out; have := l273.out; have := of_decide_eq_true c26b0; unfold wrap64; omega⟩, ⟨by have := HK1.out; omega⟩, ⟨by (try simp only [hl6_1]); (with_reducible repeat (first | apply Kd.R_alloc | apply Kd.R_drewN | apply Kd.R_drew)); exact HO_5.out⟩, ⟨by (try simp only [hl6_1]); (with_reducible repeat (first | apply Kd.R_alloc | apply Kd.R_drewN | apply Kd.R_drew)); exact HO_6.out⟩, ⟨by (try simp only [hl6_1]); (with_reducible repeat (first | apply Kd.R_alloc | apply Kd.R_drewN | apply Kd.R_drew)); exact HO_7.out⟩, ⟨by (try simp only [hl6_1]); (with_reducible repeat (first | apply Kd.R_alloc | apply Kd.R_drewN | apply Kd.R_drew)); exact HO_8.out⟩, ⟨by repeat (first | (with_reducible first | exact HB.out | apply below_alloc | apply pw_below_drewN | apply below_drew1) | exact HB.out)⟩⟩
   ·have c26b0 : decide (x8_1 < (x6_1.length : Int)) = false := decide_eq_false c26
    clear c26
    go_wp2
    go_loopg [6, 9] k1 (fun kq v6 v9 w' => ∃ (x6_2 : List (S26)) (x9_2 : Int), v9 = .int .i64 x9_2 ∧ Aside0 (0 ≤ x9_2 ∧ x9_2 ≤ 70 ∧ (x6_2.length : Int) = t263.length + x9_2 ∧ 70 - x9_2 + 2 ≤ (kq : Int)) ∧ Aside0 (kq ≤ k1) ∧ Aside0 (Kd.R k26 26 w' w.heap.size (fun k_ => (some k_ ≠ (.slice Ao20 y256.length co20 : Value).ownBlock ∧ some k_ ≠ (v270 : Value).ownBlock) ∧ some k_ ≠ (v6 : Value).ownBlock) (.slice Ao25 t263.length co25) t263) ∧ Aside0 (Kd.R k26 26 w' w.heap.size (fun k_ => some k_ ≠ (.slice Ao25 t263.length co25 : Value).ownBlock ∧ some k_ ≠ (v270 : Value).ownBlock ∧ some k_ ≠ (.slice Ao20 y256.length co20 : Value).ownBlock) v6 x6_2) ∧ Aside0 (Kd.R k26 26 w' w.heap.size (fun k_ => (some k_ ≠ (.slice Ao25 t263.length co25 : Value).ownBlock ∧ some k_ ≠ (.slice Ao20 y256.length co20 : Value).ownBlock) ∧ some k_ ≠ (v6 : Value).ownBlock) v270 t269) ∧ Aside0 (Kd.R k26 26 w' w.heap.size (fun k_ => (some k_ ≠ (.slice Ao25 t263.length co25 : Value).ownBlock ∧ some k_ ≠ (v270 : Value).ownBlock) ∧ some k_ ≠ (v6 : Value).ownBlock) (.slice Ao20 y256.length co20) y256) ∧ Aside0 (Below w.heap.size w w'))
    case atStart => exact ⟨(x6_1), (0), (by first | rfl | (simp; done) | (simp [*]; done)), ⟨by have := FX.out; have := HF.out; have := of_decide_eq_false c26b0; omega⟩, ⟨Nat.le_refl _⟩, ⟨by (try simp only [hl6_1]); (with_reducible repeat (first | apply Kd.R_alloc | apply Kd.R_drewN | apply Kd.R_drew)); exact HO_5.out⟩, ⟨by (try simp only [hl6_1]); (with_reducible repeat (first | apply Kd.R_alloc | apply Kd.R_drewN | apply Kd.R_drew)); exact HO_6.out⟩, ⟨by (try simp only [hl6_1]); (with_reducible repeat (first | apply Kd.R_alloc | apply Kd.R_drewN | apply Kd.R_drew)); exact HO_7.out⟩, ⟨by (try simp only [hl6_1]); (with_reducible repeat (first | apply Kd.R_alloc | apply Kd.R_drewN | apply Kd.R_drew)); exact HO_8.out⟩, ⟨by repeat (first | (with_reducible first | exact HB.out | apply below_alloc | apply pw_below_drewN | apply below_drew1) | exact HB.out)⟩⟩
    case round =>
     clear HO_5
     clear HO_6
     clear HO_7
     clear HO_8
     clear HB
     try clear c26b0
     obtain ⟨x6_2, x9_2, rfl, HG, HK2, HO_5, HO_6, HO_7, HO_8, HB⟩ := hrel
     cases gk with
     | zero => exact absurd HG.out (by omega)
     | succ k2 =>
      by_cases c31 : x9_2 < 70
      ·have c31b0 : decide (x9_2 < 70) = true := decide_eq_true c31
       clear c31
       have LMc32 := Aside0.mk (show x6_2.length < 8796093022208 by have := HG.out; have := FX.out; omega)
       obtain ⟨y274, hy274⟩ : ∃ y_ : List (S26), y_ = (x6_2 ++ [(⟨0, 0⟩ : S26)]) := ⟨_, rfl⟩
       have l274 := Aside0.mk (show y274.length = x6_2.length + 1 by rw [hy274]; simp)
       have Ny274 := Aside0.mk hy274
       clear hy274
       go_wp2_with (first | ((with_reducible refine gate_builtin (b := .append) (xs := #[.tmp 49, .tmp 51]) rfl ?_); at_builtin; refine Kd.R_append k26 (w0 := w) w.heap.size rfl (.tmp 49) (.tmp 51) 22 26 (.agg #[(.int .u32 0), (.int .i64 0)]) 16 rfl Try.underlying22 info26 rfl (by decide) (by omega) u6 x6_2 (⟨0, 0⟩ : S26) [.int .u32 0, .int .i64 0] (fun k_ => some k_ ≠ (.slice Ao25 t263.length co25 : Value).ownBlock ∧ some k_ ≠ (v270 : Value).ownBlock ∧ some k_ ≠ (.slice Ao20 y256.length co20 : Value).ownBlock) (fun _ => False) rfl rfl ?aP (fun _ hk => hk.elim) ?aF ?aO ?aB ?aS ?aL ?_; (case aP => exact k26_mkM _ _ _ (⟨0, 0⟩ : S26)); (case aB => exact (by repeat (first | (with_reducible first | exact HB.out | apply below_alloc | apply pw_below_drewN | apply below_drew1) | exact HB.out))); (case aF => exact (fun k_ hk => ⟨Kd.fresh' (Kd.R_lt (by (with_reducible repeat (first | apply Kd.R_alloc | apply Kd.R_drewN | apply Kd.R_drew)); exact HO_5.out)) k_ hk, Kd.fresh' (Kd.R_lt (by (with_reducible repeat (first | apply Kd.R_alloc | apply Kd.R_drewN | apply Kd.R_drew)); exact HO_7.out)) k_ hk, Kd.fresh' (Kd.R_lt (by (with_reducible repeat (first | apply Kd.R_alloc | apply Kd.R_drewN | apply Kd.R_drew)); exact HO_8.out)) k_ hk⟩)); (case aO => exact (by (with_reducible repeat (first | apply Kd.R_alloc | apply Kd.R_drewN | apply Kd.R_drew)); exact HO_6.out)); (case aS => exact (below_size (by repeat (first | (with_reducible first | exact HB.out | apply below_alloc | apply pw_below_drewN | apply below_drew1) | exact HB.out)))); (case aL => have := LMc32.out; omega); intro v275 w33 ho hb hg hat; rw [← Ny274.out] at ho; have n0_ := Aside0.mk (Kd.R_after (ok := (fun k_ => some k_ ≠ (.slice Ao20 y256.length co20 : Value).ownBlock ∧ some k_ ≠ (v270 : Value).ownBlock)) (by (with_reducible repeat (first | apply Kd.R_alloc | apply Kd.R_drewN | apply Kd.R_drew)); exact HO_5.out) hg hat); have n1_ := Aside0.mk (Kd.R_after (ok := (fun k_ => some k_ ≠ (.slice Ao25 t263.length co25 : Value).ownBlock ∧ some k_ ≠ (.slice Ao20 y256.length co20 : Value).ownBlock)) (by (with_reducible repeat (first | apply Kd.R_alloc | apply Kd.R_drewN | apply Kd.R_drew)); exact HO_7.out) hg hat); have n4_ := Aside0.mk (Kd.R_after (ok := (fun k_ => some k_ ≠ (.slice Ao25 t263.length co25 : Value).ownBlock ∧ some k_ ≠ (v270 : Value).ownBlock)) (by (with_reducible repeat (first | apply Kd.R_alloc | apply Kd.R_drewN | apply Kd.R_drew)); exact HO_8.out) hg hat); have n2_ := Aside0.mk (hb); have n3_ := Aside0.mk (ho); clear HO_5; clear HO_7; clear HO_8; clear HB; clear HO_6; have HO_5 := n0_; have HO_7 := n1_; have HO_8 := n4_; have HB := n2_; have HO276 := n3_; clear n0_ n1_ n2_ n3_ n4_; clear ho hb hg hat))
       go_roundg k2
       case measure => have := HK1.out; have := HK2.out; omega
       case rel => exact ⟨(y274), (wrap64 (x9_2 + 1)), (by first | rfl | (simp; done) | (simp [*]; done)), ⟨by have := HG.out; have := l274.out; have := of_decide_eq_true c31b0; unfold wrap64; omega⟩, ⟨by have := HK1.out; have := HK2.out; omega⟩, ⟨by (try simp only [hl6_1]); (with_reducible repeat (first | apply Kd.R_alloc | apply Kd.R_drewN | apply Kd.R_drew)); exact HO_5.out⟩, ⟨by (try simp only [hl6_1]); (with_reducible repeat (first | apply Kd.R_alloc | apply Kd.R_drewN | apply Kd.R_drew)); exact HO276.out⟩, ⟨by (try simp only [hl6_1]); (with_reducible repeat (first | apply Kd.R_alloc | apply Kd.R_drewN | apply Kd.R_drew)); exact HO_7.out⟩, ⟨by (try simp only [hl6_1]); (with_reducible repeat (first | apply Kd.R_alloc | apply Kd.R_drewN | apply Kd.R_drew)); exact HO_8.out⟩, ⟨by repeat (first | (with_reducible first | exact HB.out | apply below_alloc | apply pw_below_drewN | apply below_drew1) | exact HB.out)⟩⟩
      ·have c31b0 : decide (x9_2 < 70) = false := decide_eq_false c31
       have c34 : (x6_2.length : Int) = (wrap64 ((t263.length : Int) + 70)) := by have := HG.out; have := FX.out; unfold wrap64; omega
       clear c31
       have c34b0 : ((x6_2.length : Int) == (wrap64 ((t263.length : Int) + 70))) = true := beq_iff_eq.mpr c34
       have c34b1 : ((x6_2.length : Int) != (wrap64 ((t263.length : Int) + 70))) = false := bne_eq_false_iff_eq.mpr c34
       clear c34
       obtain ⟨ji39, hji39⟩ : ∃ j_ : Int, (wrap64 ((y246.length : Int) + 1)) = j_ := ⟨_, rfl⟩
       have hj39 : ji39 = (y246.length : Int) + 1 := by have := FX.out; rw [← hji39]; unfold wrap64; omega
       have hji39w : (IntKind.i64.wrap ((y246.length : Int) + 1)) = ji39 := (i64_w _).trans hji39
       obtain ⟨Ao44, co44, eo44⟩ := Kd.R_slice HO_6.out
       subst eo44
       obtain ⟨Ao45, co45, eo45⟩ := Kd.R_slice HO_7.out
       subst eo45
       have hCI := (Kd.R_reads' HO_8.out).2.2
       have hroI : y256.length ≤ co20 := (Kd.R_reads' HO_8.out).2.1
       have hCy := Kd.C_take (m := ((y246.length : Int) : Int).toNat) hCI (by have := FX.out; omega)
       rw [← Ny259.out] at hCy
       have HRy := Aside0.mk (show Kd.C k26 _ Ao20 y259.length y259 from hCy)
       have HCy := Aside0.mk (show y259.length ≤ co20 by have e := FX.out; rw [e.2.2.2.2.1]; omega)
       clear hCy
       obtain ⟨i046, hi046, _, hsz46, _⟩ := info_parts info26
       have hcut46 := cut_over (P := Try.prog) 22 26 .i64 Try.underlying22 hi046 Ao20 y259.length co20 (ji39) (by omega) (by have := FX.out; omega)
       have ejt : ji39.toNat = y256.length := by have := FX.out; omega
       rw [ejt] at hcut46
       have q283 : (y246.length : Int) < (y256.length : Int) := by have := FX.out; omega
       have q283b : decide ((y246.length : Int) < (y256.length : Int)) = true := decide_eq_true q283
       have p283 : 0 ≤ ((y246.length : Int) : Int) := by omega
       obtain ⟨ad283, e283, hx283_0, hx283_1⟩ := at_T26 hCI (y246.length : Int) p283 q283
       cases e283
       rw [FX.out.2.2.2.2.2.1] at hx283_1
       (try simp only [Go.IntWalk.toNatUp] at hx283_0)
       (try simp only [Go.IntWalk.toNatUp] at hx283_1)
       replace p283 := eq_true p283
       replace q283 := eq_true q283
       clear hCI hroI hj39 ejt
       go_wp2_with (first | (go_at_call 14; (with_reducible refine (waymarkref01_Same.calls k _ _ t269 _ _ t263 true _ ?side1 ?side2 ?side3 ?side4 A35.out).mono ?_); (case side1 => repeat (first | exact (Kd.R_reads' HO_7.out).2.2 | (with_reducible refine Kd.C_alloc ?_ _) | (with_reducible refine Kd.C_drewN ?_ _) | (with_reducible refine Kd.C_drew ?_))); (case side2 => exact (Kd.R_reads' HO_7.out).2.1); (case side3 => repeat (first | exact (Kd.R_reads' HO_5.out).2.2 | (with_reducible refine Kd.C_alloc ?_ _) | (with_reducible refine Kd.C_drewN ?_ _) | (with_reducible refine Kd.C_drew ?_))); (case side4 => exact (Kd.R_reads' HO_5.out).2.1); rintro e w' ⟨rfl, ⟨nd, rfl⟩⟩) | (go_at_call 14; (with_reducible refine (waymarkref01_Same.calls k _ _ y259 _ _ y246 true _ ?side1 ?side2 ?side3 ?side4 A37.out).mono ?_); (case side1 => repeat (first | exact HRy.out | (with_reducible refine Kd.C_alloc ?_ _) | (with_reducible refine Kd.C_drewN ?_ _) | (with_reducible refine Kd.C_drew ?_))); (case side2 => exact HCy.out); (case side3 => repeat (first | exact (Kd.C_below HR249.out (by repeat (first | (with_reducible first | exact HB.out | apply below_alloc | apply pw_below_drewN | apply below_drew1) | exact HB.out))) | (with_reducible refine Kd.C_alloc ?_ _) | (with_reducible refine Kd.C_drewN ?_ _) | (with_reducible refine Kd.C_drew ?_))); (case side4 => exact HC249.out); rintro e w' ⟨rfl, ⟨nd, rfl⟩⟩))
       go_ret
       exact ⟨by first | rfl | (simp; done), by repeat (first | (with_reducible first | exact HB.out | apply below_alloc | apply pw_below_drewN | apply below_drew1) | exact HB.out)⟩
end Go.Proofs.Ytaplkfnolimdmaa.PC
