/- trie.Table[string]: Put. -/
import Derived.Test.YtaplkfnolimdmaaTabNewS
namespace Go.Proofs.Ytaplkfnolimdmaa.TableS
open Go.Proofs.Ytaplkfnolimdmaa.Table (Pf eP wfP keyP)
open Go.RowKit Go.Proofs.Ytaplkfnolimdmaa.PC Go.Proofs.YtaplkfnolimdmaaW.PrintWords Go.Proofs.YtaplkfnolimdmaaW.PrintLast Go.Proofs.YtaplkfnolimdmaaW.PrintMore Go.Proofs.YtaplkfnolimdmaaW.Bits Go.Proofs.YtaplkfnolimdmaaW.MapRaw
set_option linter.unusedVariables false
set_option linter.unusedSimpArgs false

/-- What Check answers: 0, 1 (ErrArg) or 10 (ErrMask). -/
def chk (a b : Int) : Int := if b < 0 ∨ 32 < b then 1 else if a % sz b = 0 then 0 else 10
theorem chk_bits {a b : Int} (h : chk a b = 0) : 0 ≤ b ∧ b ≤ 32 := by
  unfold chk at h
  split at h
  · cases h
  · omega
theorem behind_f {b : Int} (h0 : 0 ≤ b) (h1 : b ≤ 32) : addr_behind.f b = some (sz b - 1) := by
  obtain ⟨e1, e2⟩ := behind_val h0 h1
  unfold addr_behind.f
  rw [e1, if_pos (by omega), e2]
theorem ev_behind {b : Int} (h0 : 0 ≤ b) (h1 : b ≤ 32) : Ev (fun _ => addr_behind.f b) (sz b - 1) := Ev.congr (fun _ => behind_f h0 h1) (Ev.now _)
theorem ev_ACheck (a b : Int) (h0 : 0 ≤ a) (h1 : a < 4294967296) : Ev (fun k => addr_Check.f k a b) (chk a b) := by
  unfold addr_Check.f
  by_cases c : b < 0
  · refine Ev.pos c (Ev.step (fun k => by rw [addr_Check.j0]) (Ev.pos rfl (Ev.some' ?_)))
    unfold chk
    rw [if_pos (Or.inl c)]
  · refine Ev.neg c (Ev.step (fun k => by rw [addr_Check.j0]) ?_)
    by_cases c2 : b > 32
    · refine Ev.pos (decide_eq_true c2) (Ev.some' ?_)
      unfold chk
      rw [if_pos (Or.inr c2)]
    · refine Ev.neg (by simp; omega) ?_
      refine Ev.bind (ev_behind (by omega) (by omega)) ?_
      rw [and_mask h0 h1 (by omega) (by omega)]
      unfold chk
      rw [if_neg (show ¬ (b < 0 ∨ 32 < b) by omega)]
      by_cases c3 : a % sz b = 0
      · exact Ev.pos c3 (Ev.some' (if_pos c3).symm)
      · exact Ev.neg c3 (Ev.some' (if_neg c3).symm)
theorem wf_U {p : Pf} (h : wfP p) : 0 ≤ p.1 ∧ p.1 < 4294967296 := by
  have h := h.1
  simp [Lit.wf, IntKind.min, IntKind.max, IntKind.bits, IntKind.signed] at h
  omega
theorem check_calls (p : Pf) (hp : wfP p) (w : World) : Calls Try.prog 56 #[.agg #[.int .u32 p.1, .int .i64 p.2]] w fun e w' => e = .returned (.int .i64 (chk p.1 p.2)) ∧ Below w.heap.size w w' := by
  obtain ⟨k, hk⟩ := (ev_ACheck p.1 p.2 (wf_U hp).1 (wf_U hp).2).rounds
  exact addr_Check.calls k _ _ _ w hk

theorem TabIs.cell0 {w : World} {bt bm : Nat} {L : List (Pf × Vt)} (h : TabIs w bt bm L) : w.cell? ⟨bt, 0, none⟩ = some (.map (some bm)) := by
  rw [blk_cell h.cells]; rfl
theorem TabIs.cellc {w : World} {bt bm : Nat} {L : List (Pf × Vt)} (h : TabIs w bt bm L) {i : Nat} (hi : i ≤ 32) : w.cell? ⟨bt, i + 1, none⟩ = some (.int .i64 (cnt L i)) := by
  rw [blk_cell h.cells]
  unfold tabCells
  simp [List.getElem?_map, List.getElem?_range (show i < 33 by omega)]

theorem cnt_up_some {L : List (Pf × Vt)} {p : Pf} {v : Vt} (h : lkL L p ≠ none) (i : Nat) : cnt (putL L p v) i = cnt L i := by
  unfold cnt
  congr 1
  induction L with
  | nil => exact absurd rfl h
  | cons x l ih =>
    unfold putL
    unfold lkL at h
    by_cases e : x.1 = p
    · rw [if_pos e]
      simp only [List.filter_cons, e]
      split <;> rfl
    · rw [if_neg e] at h ⊢
      simp only [List.filter_cons]
      split
      · simp only [List.length_cons, ih h]
      · exact ih h
theorem cnt_up_none {L : List (Pf × Vt)} {p : Pf} {v : Vt} (h : lkL L p = none) (i : Nat) : cnt (putL L p v) i = cnt L i + (if p.2 = (i : Int) then 1 else 0) := by
  unfold cnt
  induction L with
  | nil =>
    unfold putL
    simp only [List.filter_cons, List.filter_nil]
    by_cases e : p.2 = (i : Int) <;> simp [e]
  | cons x l ih =>
    unfold putL
    unfold lkL at h
    by_cases e : x.1 = p
    · rw [if_pos e] at h
      cases h
    · rw [if_neg e] at h ⊢
      have ih := ih h
      simp only [List.filter_cons]
      split
      · simp only [List.length_cons, Int.natCast_add, Int.natCast_one]
        omega
      · exact ih
theorem bits_up {L : List (Pf × Vt)} {p : Pf} {v : Vt} (h : ∀ x ∈ L, 0 ≤ x.1.2 ∧ x.1.2 ≤ 32) (hp : 0 ≤ p.2 ∧ p.2 ≤ 32) : ∀ x ∈ putL L p v, 0 ≤ x.1.2 ∧ x.1.2 ≤ 32 := by
  induction L with
  | nil =>
    intro x hx
    obtain rfl : x = (p, v) := by simpa [putL] using hx
    exact hp
  | cons y l ih =>
    intro x hx
    unfold putL at hx
    split at hx
    · rcases List.mem_cons.1 hx with e | e
      · rw [e]; exact hp
      · exact h x (by simp [e])
    · rcases List.mem_cons.1 hx with e | e
      · rw [e]; exact h y (by simp)
      · exact ih (fun z hz => h z (by simp [hz])) x e
theorem cells_up_some {bm : Nat} {L : List (Pf × Vt)} {p : Pf} {v : Vt} (h : lkL L p ≠ none) : tabCells bm (putL L p v) = tabCells bm L := by
  unfold tabCells
  simp only [cnt_up_some h]
theorem cells_up_none {bm : Nat} {L : List (Pf × Vt)} {p : Pf} {v : Vt} (h : lkL L p = none) (hp : 0 ≤ p.2 ∧ p.2 ≤ 32) : (tabCells bm L).setIfInBounds (p.2.toNat + 1) (.int .i64 (cnt L p.2.toNat + 1)) = tabCells bm (putL L p v) := by
  unfold tabCells
  simp only [List.setIfInBounds_toArray, List.set_cons_succ]
  congr 2
  apply List.ext_getElem?
  intro i
  rw [List.getElem?_set, List.getElem?_map, List.getElem?_map]
  by_cases e : p.2.toNat = i
  · subst e
    rw [if_pos rfl, List.getElem?_range (show p.2.toNat < 33 by omega)]
    simp only [List.length_map, List.length_range, Option.map_some]
    rw [if_pos (by omega), cnt_up_none h, if_pos (by omega)]
  · rw [if_neg e]
    by_cases hi : i < 33
    · rw [List.getElem?_range hi]
      simp only [Option.map_some]
      rw [cnt_up_none h, if_neg (by omega), Int.add_zero]
    · rw [List.getElem?_eq_none (by simp; omega)]
      rfl

theorem arrLen : Try.prog.arrayLen 108 = 33 := by kernel_rfl
theorem arrElem : Try.prog.elem 108 = 3 := by kernel_rfl
theorem sizeInt (W : World) : (sizeOf 3).run Try.prog W = .ok 1 W := by kernel_rfl
theorem ix_used (bt : Nat) (i : Int) (h0 : 0 ≤ i) (h1 : i ≤ 32) (W : World) : (Instr.indexAt 108 (.pointer (some ⟨bt, 1, none⟩)) (.int .i64 i)).run Try.prog W = .ok (.pointer (some ⟨bt, i.toNat + 1, none⟩)) W := by
  rw [run_indexAt_array W 108 _ .i64 i (by rw [arrLen, arrElem]; exact Try.underlying108), arrLen, arrElem, if_pos ⟨h0, by omega⟩, sizeInt]
  simp [Result.andThen, Addr.add, Nat.add_comm]
set_option maxRecDepth 100000 in
theorem put_calls (p : Pf) (v : Vt) (hp : wfP p) (w : World) (bt bm : Nat) (L : List (Pf × Vt)) (hT : TabIs w bt bm L) (hL : L.length ≤ 1000000) :
    Calls Try.prog 43 #[.pointer (some ⟨bt, 0, none⟩), .agg #[.int .u32 p.1, .int .i64 p.2], .string v] w fun e w' => e = .returned (.int .i64 (chk p.1 p.2)) ∧ TabIs w' bt bm (if chk p.1 p.2 = 0 then putL L p v else L) ∧ But (fun k => k = bt ∨ k = bm) w w' := by
  have hc := fun W => check_calls p hp W
  have HC := Aside0.mk hc
  clear hc
  have HT := Aside0.mk hT
  clear hT
  obtain ⟨p0, p1⟩ := p
  generalize hq : chk p0 p1 = q at HC ⊢
  by_cases q0 : q = 0
  · subst q0
    have HQ := Aside0.mk hq
    clear hq
    go_enter Try.func43, Try.ntmps43
    go_wp2_with (first | (go_at_call 56; refine (HC.out _).mono ?_; rintro e w2 ⟨rfl, hb⟩))
    have hsz : w.heap.size < (w.alloc (Obj.cells #[Value.int IntKind.u32 p0, Value.int IntKind.i64 p1] 26)).heap.size := by simp
    have hT1 := HT.out.below ((Below.refl w.heap.size w).alloc (Nat.le_refl _) (Obj.cells #[Value.int IntKind.u32 p0, Value.int IntKind.i64 p1] 26))
    have hT2 := hT1.below hb
    have hbox : w2.heap[w.heap.size]? = some (Obj.cells #[Value.int IntKind.u32 p0, Value.int IntKind.i64 p1] 26) := (hb.block _ hsz).trans (Go.MapKept.heap_alloc w _).1
    have b0 : w2.cell? ⟨w.heap.size, 0, none⟩ = some (.int .u32 p0) := by rw [blk_cell hbox]; rfl
    have b1 : w2.cell? ⟨w.heap.size, 1, none⟩ = some (.int .i64 p1) := by rw [blk_cell hbox]; rfl
    have c0 := hT2.cell0
    have hlook := fun n => (hT2.map.at (w' := w2.drewN n) rfl).look keyP true Try.underlying116 (z := .string ByteArray.empty) (e := 9) (by kernel_rfl) hp
    have HB := Aside0.mk hb
    have HT2 := Aside0.mk hT2
    clear hb hT1 hT2 hsz hbox
    simp only [eP] at hlook
    cases hl : lkL L (p0, p1) with
    | some v0 =>
      simp only [hl, if_true, eV] at hlook
      have HL := Aside0.mk hl
      clear hl
      go_quiet (fail)
      go_wp2
      refine wp_region_still_tail 6 (by kernel_rfl) (by kernel_rfl) ?_
      simp only [List.take_succ_cons, List.take_zero, List.drop_succ_cons, List.drop_zero]
      rw [show ({ heap := (w2.drewN nq).heap, tape := (w2.drewN nq).tape, drawn := (w2.drewN nq).drawn + 1, os := (w2.drewN nq).os, output := (w2.drewN nq).output } : World) = w2.drewN (nq + 1) from rfl]
      repeat still_step
      refine wpStill_nil ?_
      obtain ⟨w3, hrun, hM3, hg3, hs3⟩ := (HT2.out.map.at (w' := w2.drewN (nq + 1)) rfl).store keyP Try.underlying116 hp v
      simp only [eP, eV] at hrun
      have HM := Aside0.mk hM3
      have HG := Aside0.mk hg3
      clear hM3 hg3 hs3
      go_wp2
      go_ret
      have hB02 : Below w.heap.size w w2 := ((Below.refl w.heap.size w).alloc (Nat.le_refl _) _).trans (HB.out.mono (by simp))
      refine ⟨rfl, ?_, ?_⟩
      · refine ⟨?_, HM.out, bits_up HT2.out.bits (chk_bits HQ.out)⟩
        rw [cells_up_some (by rw [HL.out]; simp)]
        exact (HG.out.block bt HT2.out.lt.1 (fun e => HT2.out.ne (Option.some.inj e))).trans HT2.out.cells
      · exact ((But.of_below hB02).drewN (nq + 1)).trans (But.of_grown HG.out (fun k e => .inr (Option.some.inj e).symm))
    | none =>
      simp only [hl, if_true, eV] at hlook
      have HL := Aside0.mk hl
      clear hl
      have hpb := chk_bits HQ.out
      have hb1 : p1.toNat ≤ 32 := by omega
      have c1 := HT2.out.cellc hb1
      have f1 := blk_frozen HT2.out.cells (p1.toNat + 1)
      have hix := ix_used bt p1 hpb.1 hpb.2
      clear hpb
      go_quiet (fail)
      go_wp2
      refine wp_region_still_tail 11 (by kernel_rfl) (by kernel_rfl) ?_
      simp only [List.take_succ_cons, List.take_zero, List.drop_succ_cons, List.drop_zero]
      rw [show ({ heap := (w2.drewN nq).heap, tape := (w2.drewN nq).tape, drawn := (w2.drewN nq).drawn + 1, os := (w2.drewN nq).os, output := (w2.drewN nq).output } : World) = w2.drewN (nq + 1) from rfl]
      repeat still_step
      refine wpStill_nil ?_
      go_wp2
      have hB02 : Below w.heap.size w w2 := ((Below.refl w.heap.size w).alloc (Nat.le_refl _) _).trans (HB.out.mono (by simp))
      have hcnt : wrap64 (cnt L p1.toNat + 1) = cnt L p1.toNat + 1 := by
        have : cnt L p1.toNat ≤ 1000000 := by unfold cnt; have := List.length_filter_le (fun x : Pf × Vt => decide (x.1.2 = (p1.toNat : Int))) L; omega
        have : 0 ≤ cnt L p1.toNat := by unfold cnt; omega
        exact w64 (by omega) (by omega)
      rw [hcnt]
      have hblk : ((w2.drewN (nq + 1)).setCell ⟨bt, p1.toNat + 1, none⟩ (Value.int .i64 (cnt L p1.toNat + 1))).heap[bt]? = some (.cells (tabCells bm (putL L (p0, p1) v)) 118 (0, 0)) := by
        refine blk_put (w := w2.drewN (nq + 1)) HT2.out.cells _ _ ?_
        exact cells_up_none HL.out (chk_bits HQ.out)
      have hmp := HT2.out.map.at (w' := (w2.drewN (nq + 1)).setCell ⟨bt, p1.toNat + 1, none⟩ (Value.int .i64 (cnt L p1.toNat + 1))) (Below.heap_setCell _ _ _ _ (fun e => HT2.out.ne e.symm))
      have hbut := (((But.of_below hB02).drewN (nq + 1)).setCell (S := fun k => k = bt ∨ k = bm) (p := ⟨bt, p1.toNat + 1, none⟩) (.inl rfl) (Value.int .i64 (cnt L p1.toNat + 1)))
      have hne4 : w.heap.size ≠ bt := by have := HT.out.lt.1; omega
      have b04 : ((w2.drewN (nq + 1)).setCell ⟨bt, p1.toNat + 1, none⟩ (Value.int .i64 (cnt L p1.toNat + 1))).cell? ⟨w.heap.size, 0, none⟩ = some (.int .u32 p0) := by
        rw [World.cell?_setCell_other _ _ _ _ (by intro e; exact hne4 (congrArg Addr.block e).symm)]; exact b0
      have b14 : ((w2.drewN (nq + 1)).setCell ⟨bt, p1.toNat + 1, none⟩ (Value.int .i64 (cnt L p1.toNat + 1))).cell? ⟨w.heap.size, 1, none⟩ = some (.int .i64 p1) := by
        rw [World.cell?_setCell_other _ _ _ _ (by intro e; exact hne4 (congrArg Addr.block e).symm)]; exact b1
      generalize ((w2.drewN (nq + 1)).setCell ⟨bt, p1.toNat + 1, none⟩ (Value.int .i64 (cnt L p1.toNat + 1))) = w4 at hblk hmp hbut b04 b14 ⊢
      have c04 : w4.cell? ⟨bt, 0, none⟩ = some (.map (some bm)) := by rw [blk_cell hblk]; rfl
      have HBLK := Aside0.mk hblk
      have HBUT := Aside0.mk hbut
      have HMP := Aside0.mk hmp
      clear hblk hmp hbut hcnt hlook c1 f1 hix c0 b0 b1 hB02
      refine wp_region_still_tail 6 (by kernel_rfl) (by kernel_rfl) ?_
      simp only [List.take_succ_cons, List.take_zero, List.drop_succ_cons, List.drop_zero]
      rw [show ({ heap := w4.heap, tape := w4.tape, drawn := w4.drawn + 1, os := w4.os, output := w4.output } : World) = w4.drewN 1 from rfl]
      repeat still_step
      refine wpStill_nil ?_
      obtain ⟨w3, hrun, hM3, hg3, hs3⟩ := (HMP.out.at (w' := w4.drewN 1) rfl).store keyP Try.underlying116 hp v
      simp only [eP, eV] at hrun
      have HM := Aside0.mk hM3
      have HG := Aside0.mk hg3
      clear hM3 hg3 hs3
      go_wp2
      go_ret
      have hlt4 : bt < w4.heap.size := (Array.getElem?_eq_some_iff.1 HBLK.out).1
      refine ⟨rfl, ?_, ?_⟩
      · refine ⟨?_, HM.out, bits_up HT2.out.bits (chk_bits HQ.out)⟩
        exact (HG.out.block bt hlt4 (fun e => HT2.out.ne (Option.some.inj e))).trans HBLK.out
      · exact (HBUT.out.drewN 1).trans (But.of_grown HG.out (fun k e => .inr (Option.some.inj e).symm))
  · have q1 : (q == 0) = false := by simpa using q0
    have q2 : (q != 0) = true := by simpa using q0
    go_enter Try.func43, Try.ntmps43
    go_wp2_with (first | (go_at_call 56; refine (HC.out _).mono ?_; rintro e w2 ⟨rfl, hb⟩))
    go_ret
    have hB02 : Below w.heap.size w w2 := ((Below.refl w.heap.size w).alloc (Nat.le_refl _) _).trans (hb.mono (by simp))
    exact ⟨rfl, HT.out.below hB02, But.of_below hB02⟩
end Go.Proofs.Ytaplkfnolimdmaa.TableS
