/- trie.Table[string]: over: the prefixes in which an address is. -/
import Derived.Test.YtaplkfnolimdmaaTabPutS
import Derived.Deep.MidRow
namespace Go.Proofs.Ytaplkfnolimdmaa.TableS
open Go.Proofs.Ytaplkfnolimdmaa.Table (Pf eP wfP keyP)
open Go.RowKit Go.Proofs.Ytaplkfnolimdmaa.PC Go.Proofs.YtaplkfnolimdmaaW.PrintWords Go.Proofs.YtaplkfnolimdmaaW.PrintLast Go.Proofs.YtaplkfnolimdmaaW.PrintMore Go.Proofs.YtaplkfnolimdmaaW.Bits Go.Proofs.YtaplkfnolimdmaaW.MapRaw
set_option linter.unusedVariables false
set_option linter.unusedSimpArgs false

theorem infoP : (Try.prog.info? 26).map (fun i => (i.zero, i.size, i.bytes)) = some (some (.agg #[(.int .u32 0), (.int .i64 0)]), 2, 16) := by kernel_rfl
theorem infoU : (Try.prog.info? 108).map (·.size) = some 33 := by kernel_rfl
def kP : Kd Pf := Kd.pair (Kd.int .u32) (Kd.int .i64)
theorem kP_mkM (w : World) (base : Nat) (ok : Nat → Prop) (x : Pf) : kP.M w base ok x [.int .u32 x.1, .int .i64 x.2] := ⟨[.int .u32 x.1], [.int .i64 x.2], rfl, rfl, rfl⟩

def par (x b : Int) : Int := x - x % sz b
/-- The prefix of so many bits of an address, if the table has it. -/
def hit (L : List (Pf × Vt)) (x : Int) (i : Nat) : Option Pf := if (lkL L (par x i, (i : Int))).isSome then some (par x i, (i : Int)) else none
def overL (L : List (Pf × Vt)) (x : Int) (n : Nat) : List Pf := (List.range n).filterMap (hit L x)
theorem overL_succ (L : List (Pf × Vt)) (x : Int) (n : Nat) : overL L x (n + 1) = overL L x n ++ (hit L x n).toList := by
  unfold overL
  rw [List.range_succ, List.filterMap_append]
  cases h : hit L x n <;> simp [h]
theorem overL_len (L : List (Pf × Vt)) (x : Int) (n : Nat) : (overL L x n).length ≤ n := by
  unfold overL
  have := List.length_filterMap_le (hit L x) (List.range n)
  simpa using this
theorem lk_mem {L : List (Pf × Vt)} {p : Pf} {v : Vt} (h : lkL L p = some v) : (p, v) ∈ L := by
  induction L with
  | nil => cases h
  | cons x l ih =>
    unfold lkL at h
    split at h
    · rename_i e
      cases h
      subst e
      simp
    · exact List.mem_cons_of_mem _ (ih h)
theorem hit_zero {L : List (Pf × Vt)} {x : Int} {i : Nat} (h : cnt L i = 0) : hit L x i = none := by
  unfold hit
  rw [if_neg]
  intro hs
  obtain ⟨v, hv⟩ := Option.isSome_iff_exists.1 hs
  have hm := lk_mem hv
  unfold cnt at h
  have : ((par x i, (i : Int)), v) ∈ L.filter (fun x => decide (x.1.2 = (i : Int))) := List.mem_filter.2 ⟨hm, by simp⟩
  have := List.length_pos_of_mem this
  omega
def usedV (L : List (Pf × Vt)) : List Value := (List.range 33).map (fun i => Value.int .i64 (cnt L i))
theorem TabIs.used {w : World} {bt bm : Nat} {L : List (Pf × Vt)} (h : TabIs w bt bm L) : (Instr.loadAt 108 (.pointer (some ⟨bt, 1, none⟩))).run Try.prog w = .ok (.agg (usedV L).toArray) w := by
  refine run_loadAt_mid w bt 1 108 (usedV L) _ (fun j v hv => ?_) Try.underlying108 rfl (by rw [infoU]; simp [usedV])
  have hj : j < 33 := by have := (List.getElem?_eq_some_iff.1 hv).1; simpa [usedV] using this
  rw [Nat.add_comm, h.cellc (by omega)]
  unfold usedV at hv
  rw [List.getElem?_map, List.getElem?_range hj] at hv
  exact hv
theorem ix_agg (L : List (Pf × Vt)) (i : Nat) (hi : i < 33) (W : World) : (Instr.index 108 (.agg (usedV L).toArray) (.int .i64 (i : Int))).run Try.prog W = .ok (.int .i64 (cnt L i)) W := by
  have h1 := run_underlying Try.underlying108 W
  have h2 := run_underlying Try.underlying3 W
  have hc : (usedV L)[i]? = some (.int .i64 (cnt L i)) := by unfold usedV; simp [List.getElem?_map, List.getElem?_range hi]
  have hs := sizeInt W
  simp [Instr.index, asIntOf, Sem.run_bind, h1, h2, part, isAgg, hs, hc, Result.andThen, hi]
theorem subnet_calls (x : Int) (i : Nat) (hx : 0 ≤ x ∧ x < 4294967296) (hi : i ≤ 32) (w : World) : Calls Try.prog 93 #[.int .u32 x, .int .i64 (i : Int)] w fun e w' => e = .returned (.tuple #[.agg #[.int .u32 (par x i), .int .i64 (i : Int)], .int .i64 0]) ∧ Below w.heap.size w w' := by
  refine addr_Subnet.calls x (i : Int) _ _ _ w ?_
  unfold addr_Subnet.f
  rw [if_neg (by omega), if_neg (by omega), behind_f (by omega) (by omega)]
  show some _ = some _
  rw [andNot_mask hx.1 hx.2 (by omega) (by omega)]
  rfl
theorem par_wf {x : Int} {i : Nat} (hx : 0 ≤ x ∧ x < 4294967296) (hi : i ≤ 32) : wfP (par x i, (i : Int)) := by
  have hs := sz_pos (i : Int)
  have h1 := Int.emod_nonneg x (show sz (i : Int) ≠ 0 by omega)
  have h2 : x % sz (i : Int) ≤ x := by
    have := Int.emod_add_mul_ediv x (sz (i : Int))
    have := Int.mul_nonneg (show 0 ≤ sz (i : Int) by omega) (Int.ediv_nonneg hx.1 (show 0 ≤ sz (i : Int) by omega))
    omega
  unfold wfP par
  simp [Lit.wf, IntKind.min, IntKind.max, IntKind.bits, IntKind.signed]
  omega

theorem wpList_load_raw {P : Program} (w : World) {ops : Array Oper} {rest : List Oper} {o : Oper} {a : Act} {Q : Exit → Act → World → Prop}
    (hg : o.guard = none) (ty : TypeId) (x : Operand) (ho : o.op = Op.load ty x) (v : Value) (hx : a.eval x = v) (u : Value) (hrun : (Instr.loadAt ty v).run P w = .ok u w)
    (hK : wpList P ops Q rest (a.put o.dst u) w) : wpList P ops Q (o :: rest) a w := by
  refine wpList_plain hg fun K' hK' => ?_
  unfold Oper.wp
  simp [execOp, ho, hx, hrun, Result.andThen]
  exact hK' _ _ hK

set_option maxRecDepth 100000 in
set_option maxHeartbeats 1000000 in
theorem over_calls (x : Int) (hx : 0 ≤ x ∧ x < 4294967296) (w : World) (bt bm : Nat) (L : List (Pf × Vt)) (hT : TabIs w bt bm L) :
    Calls Try.prog 70 #[.pointer (some ⟨bt, 0, none⟩), .int .u32 x] w fun e w' => ∃ v, e = .returned v ∧ Kd.R kP 26 w' w.heap.size (fun _ => True) v (overL L x 33) ∧ Below w.heap.size w w' := by
  have HT := Aside0.mk hT
  have hu := hT.used
  clear hT
  have HB := Aside0.mk (Below.refl w.heap.size w)
  have HS := Aside0.mk (fun i (hi : i ≤ 32) W => subnet_calls x i hx hi W)
  obtain ⟨U, hU⟩ : ∃ U, (usedV L).toArray = U := ⟨_, rfl⟩
  have HIX := Aside0.mk (fun i (hi : i < 33) W => ix_agg L i hi W)
  rw [hU] at hu HIX
  have HX := Aside0.mk hx
  clear hx hU
  go_enter Try.func70, Try.ntmps70
  go_wp2_with (first | (refine wpList_load_raw _ rfl 108 (.tmp 16) rfl _ rfl _ hu ?_))
  clear hu
  go_loopg [5, 18] 40 (fun kq v5 v18 w' => ∃ (i : Nat) (y : Int), v18 = .int .i64 y ∧ Aside0 (i ≤ 33 ∧ 34 - i ≤ kq ∧ y = (i : Int)) ∧ Aside0 (kq ≤ 40) ∧ Aside0 (Kd.R kP 26 w' w.heap.size (fun _ => True) v5 (overL L x i)) ∧ Aside0 (Below w.heap.size w w'))
  case atStart => exact ⟨0, 0, rfl, ⟨by omega⟩, ⟨by omega⟩, ⟨Kd.R_nil _ _ _ _ _⟩, HB⟩
  case round =>
    clear HB
    obtain ⟨i, y, rfl, HI, HK, HO, HB⟩ := hrel
    obtain rfl : y = (i : Int) := HI.out.2.2
    cases gk with
    | zero => exact absurd HI.out (by omega)
    | succ k1 =>
      by_cases c : (i : Int) < 33
      · have cb : decide ((i : Int) < 33) = true := decide_eq_true c
        have hi : i < 33 := by omega
        have HIL := Aside0.mk hi
        have hix := HIX.out i hi
        have c9 : i < 33 := hi
        clear c hi
        by_cases z : cnt L i = 0
        · have zb : (cnt L i == 0) = true := by simpa using z
          have HZ := Aside0.mk z
          clear z
          go_wp2
          go_roundg k1
          case measure => have := HK.out; omega
          case rel => exact ⟨i + 1, (i : Int) + 1, (by first | rfl | (simp; done) | (simp; have := HIL.out; unfold wrap64; omega)), ⟨by have := HI.out; have := HIL.out; omega⟩, ⟨by have := HK.out; omega⟩, ⟨by rw [overL_succ, hit_zero HZ.out]; simpa using HO.out⟩, HB⟩
        · have zb : (cnt L i == 0) = false := by simpa using z
          clear z
          go_wp2_with (first | (go_at_call 93; refine (HS.out i (by have := HIL.out; omega) _).mono ?_; rintro e w2 ⟨rfl, hb⟩))
          have hB2 := HB.out.trans (hb.mono HB.out.size)
          have hO2 := Kd.R_below HO.out hb
          have hB3 := hB2.alloc hB2.size (Obj.cells #[Value.int .u32 (par x i), Value.int .i64 (i : Int)] 26)
          have hT3 := HT.out.below hB3
          have hO3 := Kd.R_alloc hO2 (Obj.cells #[Value.int .u32 (par x i), Value.int .i64 (i : Int)] 26)
          have hbx := blk_new w2 (Obj.cells #[Value.int .u32 (par x i), Value.int .i64 (i : Int)] 26)
          have b0 : (w2.alloc (Obj.cells #[Value.int .u32 (par x i), Value.int .i64 (i : Int)] 26)).cell? ⟨w2.heap.size, 0, none⟩ = some (.int .u32 (par x i)) := by rw [blk_cell hbx]; rfl
          have b1 : (w2.alloc (Obj.cells #[Value.int .u32 (par x i), Value.int .i64 (i : Int)] 26)).cell? ⟨w2.heap.size, 1, none⟩ = some (.int .i64 (i : Int)) := by rw [blk_cell hbx]; rfl
          generalize (w2.alloc (Obj.cells #[Value.int .u32 (par x i), Value.int .i64 (i : Int)] 26)) = w3 at hB3 hT3 hO3 b0 b1 ⊢
          have c0 := hT3.cell0
          have hlook := fun n => (hT3.map.at (w' := w3.drewN n) rfl).look keyP true Try.underlying116 (z := .string ByteArray.empty) (e := 9) (by kernel_rfl) (par_wf (i := i) HX.out (by have := HIL.out; omega))
          have HB3 := Aside0.mk hB3
          have HO3 := Aside0.mk hO3
          clear hbx hB2 hO2 hB3 hT3 hO3 hb HO HB
          simp only [eP] at hlook
          obtain ⟨P0, hP0⟩ : ∃ P0, par x i = P0 := ⟨_, rfl⟩
          simp only [hP0] at hlook b0 ⊢
          have HP := Aside0.mk hP0
          clear hP0
          cases hl : lkL L (P0, (i : Int)) with
          | some v0 =>
            simp only [hl, if_true, eV] at hlook
            have HL := Aside0.mk hl
            clear hl
            go_quiet (fail)
            go_wp2_with (first | ((with_reducible refine gate_builtin (b := .append) (xs := #[.tmp 40, .tmp 42]) rfl ?_); at_builtin; refine Kd.R_append kP (w0 := w) w.heap.size rfl (.tmp 40) (.tmp 42) 22 26 (.agg #[(.int .u32 0), (.int .i64 0)]) 16 rfl Try.underlying22 infoP rfl (by decide) (by omega) u5 (overL L x i) (P0, (i : Int)) [.int .u32 P0, .int .i64 (i : Int)] (fun _ => True) (fun _ => False) rfl rfl ?aP (fun _ hk => hk.elim) ?aF ?aO ?aB ?aS ?aL ?_; (case aP => exact kP_mkM _ _ _ (P0, (i : Int))); (case aB => exact pw_below_drewN HB3.out _); (case aF => exact (fun _ _ => trivial)); (case aO => exact Kd.R_drewN HO3.out _); (case aS => exact HB3.out.size); (case aL => have := overL_len L x i; have := HIL.out; omega); intro v43 w4 ho hb hg hat; have n0_ := Aside0.mk hb; have n1_ := Aside0.mk ho; clear hb ho hg hat))
            go_roundg k1
            case measure => have := HK.out; omega
            case rel => exact ⟨i + 1, (i : Int) + 1, (by first | rfl | (simp; done) | (simp; have := HIL.out; unfold wrap64; omega)), ⟨by have := HI.out; have := HIL.out; omega⟩, ⟨by have := HK.out; omega⟩, ⟨by rw [overL_succ, hit, HP.out, HL.out]; exact n1_.out⟩, n0_⟩
          | none =>
            simp only [hl, if_true, eV] at hlook
            have HL := Aside0.mk hl
            clear hl
            go_quiet (fail)
            go_wp2
            go_roundg k1
            case measure => have := HK.out; omega
            case rel => exact ⟨i + 1, (i : Int) + 1, (by first | rfl | (simp; done) | (simp; have := HIL.out; unfold wrap64; omega)), ⟨by have := HI.out; have := HIL.out; omega⟩, ⟨by have := HK.out; omega⟩, ⟨by rw [overL_succ, hit, HP.out, HL.out]; simpa using Kd.R_drewN HO3.out _⟩, ⟨pw_below_drewN HB3.out _⟩⟩
      · have cb : decide ((i : Int) < 33) = false := decide_eq_false c
        have e33 : i = 33 := by have := HI.out; omega
        clear c
        go_wp2
        go_ret
        exact ⟨u5, rfl, by rw [← e33]; exact HO.out, HB.out⟩
end Go.Proofs.Ytaplkfnolimdmaa.TableS
