/- trie.Table[string]: Longest and Len. -/
import Derived.Test.YtaplkfnolimdmaaTabOverS
import Derived.Deep.RegionHeld3
namespace Go.Proofs.Ytaplkfnolimdmaa.TableS
open Go.Proofs.Ytaplkfnolimdmaa.Table (Pf eP wfP keyP)
open Go.RowKit Go.Proofs.Ytaplkfnolimdmaa.PC Go.Proofs.YtaplkfnolimdmaaW.PrintWords Go.Proofs.YtaplkfnolimdmaaW.PrintLast Go.Proofs.YtaplkfnolimdmaaW.PrintMore Go.Proofs.YtaplkfnolimdmaaW.Bits Go.Proofs.YtaplkfnolimdmaaW.MapRaw
set_option linter.unusedVariables false
set_option linter.unusedSimpArgs false

theorem kP_open {w : World} {x : Pf} {cs : List Value} (h : kP.K w x cs) : cs = [.int .u32 x.1, .int .i64 x.2] := by
  obtain ⟨_, _, rfl, rfl, rfl⟩ := h
  rfl
def rdP (xs : List Pf) (i : Int) : Pf := xs.getD i.toNat (0, 0)
theorem at_P {w : World} {A : Option Addr} {n : Nat} {xs : List Pf} (h : Kd.C kP w A n xs) (i : Int) (h0 : 0 ≤ i) (h1 : i < n) : ∃ ad, A = some ad ∧ w.cell? (ad.add (i.toNat * 2)) = some (.int .u32 (rdP xs i).1) ∧ w.cell? ⟨(ad.add (i.toNat * 2)).block, (ad.add (i.toNat * 2)).off + 1, none⟩ = some (.int .i64 (rdP xs i).2) := by
  obtain ⟨ad, c, e, _, hK, hc0⟩ := Kd.C_get h (0, 0) i h0 h1
  have hc : ∀ j u, c[j]? = some u → w.cell? (ad.add (i.toNat * 2 + j)) = some u := hc0
  obtain rfl := kP_open hK
  exact ⟨ad, e, hc 0 _ rfl, by rw [← add_field _ _ 1 (by omega)]; exact hc 1 _ rfl⟩

theorem results_cell_row3 {P : Program} {fn : Func} {p u v : Tmp} {ty : TypeId} (h : fn.results = #[.cell p ty, .tmp u, .tmp v]) (tmps : Array Value) (w : World) (g : Nat) (t : TypeId) (cs : Array Value) (fr : Nat × Nat) (d : TypeDesc)
    (hp : tmps.getD p undef = .pointer (some ⟨g, 0, none⟩)) (hg : w.heap[g]? = some (.cells cs t fr))
    (hu : P.underlying ty = some d) (hd : (match d with | .struct _ | .array _ _ => true | _ => false) = true) (hi : (P.info? ty).map (·.size) = some cs.size) :
    (results fn tmps).run P w = .ok (.tuple #[.agg cs, tmps.getD u undef, tmps.getD v undef]) w := by
  have hp' : tmps[p]?.getD undef = .pointer (some ⟨g, 0, none⟩) := by simpa using hp
  simp [results, h, hp', asAddr, run_loadVar_row w g t ty cs fr d hg hu hd hi]
theorem infoPs : (Try.prog.info? 26).map (·.size) = some 2 := by kernel_rfl

/-- The longest prefix in which an address is, its number, and whether there is one. -/
def longest (L : List (Pf × Vt)) (x : Int) : Pf × Vt × Bool :=
  match (overL L x 33).getLast? with
  | none => ((0, 0), ByteArray.empty, false)
  | some p => (p, (lkL L p).getD ByteArray.empty, true)

theorem overL_wf {L : List (Pf × Vt)} {x : Int} (hx : 0 ≤ x ∧ x < 4294967296) {p : Pf} (h : p ∈ overL L x 33) : wfP p ∧ ∃ v, lkL L p = some v := by
  unfold overL at h
  obtain ⟨i, hi, he⟩ := List.mem_filterMap.1 h
  have hi' : i < 33 := by simpa using hi
  unfold hit at he
  split at he
  · rename_i hs
    cases he
    exact ⟨par_wf hx (by omega), Option.isSome_iff_exists.1 hs⟩
  · cases he

/-- A store of what stands there already turns nothing. -/
theorem setCell_same {w : World} {g i : Nat} {t : TypeId} {cs : Array Value} {v : Value} (h : w.heap[g]? = some (.cells cs t (0, 0))) (hi : cs[i]? = some v) : w.setCell ⟨g, i, none⟩ v = w := by
  have hb := blk_set h i v
  have e : cs.setIfInBounds i v = cs := by
    apply Array.ext_getElem?
    intro j
    rw [Array.getElem?_setIfInBounds]
    split
    · rename_i e
      subst e
      obtain ⟨hl, he⟩ := Array.getElem?_eq_some_iff.1 hi
      rw [if_pos hl, hi]
    · rfl
  rw [e] at hb
  have hh : (w.setCell ⟨g, i, none⟩ v).heap = w.heap := by
    apply Array.ext_getElem?
    intro k
    by_cases hk : k = g
    · subst hk; rw [hb, h]
    · exact Below.heap_setCell _ _ _ _ hk
  have hw : w.setCell ⟨g, i, none⟩ v = { w with heap := (w.setCell ⟨g, i, none⟩ v).heap } := rfl
  rw [hw, hh]

set_option maxRecDepth 100000 in
set_option maxHeartbeats 1000000 in
theorem longest_calls (x : Int) (hx : 0 ≤ x ∧ x < 4294967296) (w : World) (bt bm : Nat) (L : List (Pf × Vt)) (hT : TabIs w bt bm L) :
    Calls Try.prog 38 #[.pointer (some ⟨bt, 0, none⟩), .int .u32 x] w fun e w' => e = .returned (.tuple #[eP (longest L x).1, Value.string (longest L x).2.1, .bool (longest L x).2.2]) ∧ Below w.heap.size w w' := by
  have HT := Aside0.mk hT
  clear hT
  have HV := Aside0.mk (fun W h => over_calls x hx W bt bm L h)
  have HW := Aside0.mk (fun p h => overL_wf (L := L) (p := p) hx h)
  have hlen := overL_len L x 33
  obtain ⟨O, hO⟩ : ∃ O, overL L x 33 = O := ⟨_, rfl⟩
  have e0 : longest L x = match O.getLast? with | none => ((0, 0), ByteArray.empty, false) | some p => (p, (lkL L p).getD ByteArray.empty, true) := by unfold longest; rw [hO]
  rw [hO] at HV HW hlen
  have HX := Aside0.mk hx
  have HLEN := Aside0.mk hlen
  clear hx hO hlen
  have hB1 := (Below.refl w.heap.size w).alloc (Nat.le_refl _) (Obj.cells #[Value.int .u32 0, Value.int .i64 0] 26)
  have hT1 := Aside0.mk (HT.out.below hB1)
  have HB1 := Aside0.mk hB1
  clear hB1
  rcases List.eq_nil_or_concat O with rfl | ⟨O1, q, e⟩
  · have e1 : longest L x = ((0, 0), ByteArray.empty, false) := e0
    rw [e1]
    clear e0 e1
    simp only [eP]
    go_enter Try.func38, Try.ntmps38
    go_wp2_with (first | (go_at_call 70; refine (HV.out _ hT1.out).mono ?_; rintro e w2 ⟨u, rfl, ho, hb⟩; obtain ⟨Ao, co, eo⟩ := Kd.R_slice ho; subst eo; have hbx := (blk_below (blk_new w (Obj.cells #[Value.int .u32 0, Value.int .i64 0] 26)) hb); have b0 : w2.cell? ⟨w.heap.size, 0, none⟩ = some (.int .u32 0) := (by rw [blk_cell hbx]; rfl); have b1 : w2.cell? ⟨w.heap.size, 1, none⟩ = some (.int .i64 0) := (by rw [blk_cell hbx]; rfl); have f0 := blk_frozen hbx 0; have f1 := blk_frozen hbx 1; have HBX := Aside0.mk hbx; have HB := Aside0.mk hb; have HO := Aside0.mk ho; clear hb ho hbx))
    (try simp only [Exit.inBlock, Exit.then])
    have hbx2 := blk_put (blk_put HBX.out 0 (.int .u32 0) rfl) 1 (.int .i64 0) rfl
    have hB2 := HB1.out.trans (HB.out.mono HB1.out.size)
    refine bodyPost_ret (results_cell_row3 rfl _ _ w.heap.size 26 _ (0, 0) _ rfl hbx2 Try.underlying26 rfl infoPs) rfl ⟨rfl, ?_⟩
    exact (hB2.setCell (p := ⟨w.heap.size, 0, none⟩) (Nat.le_refl _) _).setCell (p := ⟨w.heap.size, 1, none⟩) (Nat.le_refl _) _
  · have e : O = O1 ++ [q] := by rw [e]; simp
    subst e
    have e1 : longest L x = (q, (lkL L q).getD ByteArray.empty, true) := by rw [e0]; simp
    obtain ⟨v, hv⟩ := (HW.out q (by simp)).2
    have hq := (HW.out q (by simp)).1
    rw [hv] at e1
    rw [e1]
    clear e0 e1
    simp only [eP, Option.getD_some]
    have hwl : wrap64 (O1.length : Int) = (O1.length : Int) := by have := HLEN.out; simp at this; exact w64 (by omega) (by omega)
    have hlt : (O1.length : Int) < (O1.length : Int) + 1 := by omega
    have h0l : 0 ≤ (O1.length : Int) := by omega
    go_enter Try.func38, Try.ntmps38
    go_wp2_with (first | (go_at_call 70; refine (HV.out _ hT1.out).mono ?_; rintro e w2 ⟨u, rfl, ho, hb⟩; obtain ⟨Ao, co, eo⟩ := Kd.R_slice ho; subst eo; have hbx := (blk_below (blk_new w (Obj.cells #[Value.int .u32 0, Value.int .i64 0] 26)) hb); have b0 : w2.cell? ⟨w.heap.size, 0, none⟩ = some (.int .u32 0) := (by rw [blk_cell hbx]; rfl); have b1 : w2.cell? ⟨w.heap.size, 1, none⟩ = some (.int .i64 0) := (by rw [blk_cell hbx]; rfl); have f0 := blk_frozen hbx 0; have f1 := blk_frozen hbx 1; have hlen : (O1 ++ [q]).length = O1.length + 1 := (by simp); have hC := (Kd.R_reads' ho).2.2; have hro := (Kd.R_reads' ho).2.1; obtain ⟨ad, ea, d0, d1⟩ := at_P hC (O1.length : Int) (by omega) (by rw [hlen]; omega); cases ea; have hrq : rdP (O1 ++ [q]) (O1.length : Int) = q := (by unfold rdP; simp); rw [hrq] at d0 d1; rw [hlen]; (try simp only [Int.toNat_natCast] at d0 d1); have HBX := Aside0.mk hbx; clear hC hro hlen hrq; have HB := Aside0.mk hb; have HO := Aside0.mk ho; clear hb ho hbx))
    have hbx2 := blk_put (blk_put HBX.out 0 (.int .u32 q.1) rfl) 1 (.int .i64 q.2) rfl
    have hB2 := HB1.out.trans (HB.out.mono HB1.out.size)
    have hB3 := (hB2.setCell (p := ⟨w.heap.size, 0, none⟩) (Nat.le_refl _) (.int .u32 q.1)).setCell (p := ⟨w.heap.size, 1, none⟩) (Nat.le_refl _) (.int .i64 q.2)
    have hT3 := HT.out.below hB3
    generalize ((w2.setCell ⟨w.heap.size, 0, none⟩ (Value.int .u32 q.1)).setCell ⟨w.heap.size, 1, none⟩ (Value.int .i64 q.2)) = w3 at hbx2 hB3 hT3 ⊢
    have c0 := hT3.cell0
    have b20 : w3.cell? ⟨w.heap.size, 0, none⟩ = some (.int .u32 q.1) := by rw [blk_cell hbx2]; rfl
    have b21 : w3.cell? ⟨w.heap.size, 1, none⟩ = some (.int .i64 q.2) := by rw [blk_cell hbx2]; rfl
    have f20 := blk_frozen hbx2 0
    have f21 := blk_frozen hbx2 1
    have s20 := fun n => setCell_same (blk_drewN hbx2 n) (i := 0) (v := .int .u32 q.1) rfl
    have s21 := fun n => setCell_same (blk_drewN hbx2 n) (i := 1) (v := .int .i64 q.2) rfl
    have hlook := fun n => (hT3.map.at (w' := w3.drewN n) rfl).look keyP false Try.underlying116 (z := .string ByteArray.empty) (e := 9) (by kernel_rfl) hq
    rw [hv] at hlook
    simp only [eP, eV] at hlook
    have HB3 := Aside0.mk hB3
    have HBX2 := Aside0.mk hbx2
    clear hbx2 hB2 hB3 hT3 d0 d1 b0 b1 f0 f1 hwl hlt h0l hv hq
    go_quiet (fail)
    go_wp2
    (try simp only [Exit.inBlock, Exit.then])
    refine bodyPost_ret (results_cell_row3 rfl _ _ w.heap.size 26 _ (0, 0) _ rfl (blk_drewN HBX2.out _) Try.underlying26 rfl infoPs) rfl ⟨rfl, pw_below_drewN HB3.out _⟩
end Go.Proofs.Ytaplkfnolimdmaa.TableS
