/- trie.Table[int]: Len; and the law's own 'awake': it answers true. -/
import Derived.Test.YtaplkfnolimdmaaTabLong
namespace Go.Proofs.Ytaplkfnolimdmaa.Table
open Go.RowKit Go.Proofs.Ytaplkfnolimdmaa.PC Go.Proofs.YtaplkfnolimdmaaW.PrintWords Go.Proofs.YtaplkfnolimdmaaW.PrintLast Go.Proofs.YtaplkfnolimdmaaW.PrintMore Go.Proofs.YtaplkfnolimdmaaW.Bits Go.Proofs.YtaplkfnolimdmaaW.MapRaw
set_option linter.unusedVariables false
set_option linter.unusedSimpArgs false

theorem run_len_map {P : Program} {t k e ty : TypeId} (ht : P.underlying t = some (.map k e)) {κ ν : Type} [DecidableEq κ] {eK : κ → Value} {ok : κ → Prop} {eV : ν → Value} {w : World} {b : Nat} {L : List (κ × ν)} (h : MapIs w eK ok eV b L) :
    (Builtin.len_ #[t] ty #[.map (some b)]).run P w = .ok (goInt L.length) w := by
  obtain ⟨es, clock, hb, hs⟩ := h.len
  simp [Builtin.len_, run_underlying ht, MapKept.run_getObj_map hb, Result.andThen, hs]

set_option maxRecDepth 100000 in
theorem len_calls (w : World) (bt bm : Nat) (L : List (Pf × Int)) (hT : TabIs w bt bm L) : Calls Try.prog 30 #[.pointer (some ⟨bt, 0, none⟩)] w fun e w' => e = .returned (.int .i64 (L.length : Int)) ∧ w' = w := by
  have c0 := hT.cell0
  have hl := fun ty => run_len_map (ty := ty) Try.underlying107 hT.map
  clear hT
  go_enter Try.func30, Try.ntmps30
  go_wp2
  go_ret
  exact ⟨rfl, rfl⟩

abbrev q8 : Pf := (167772160, 8)
abbrev q16 : Pf := (167837696, 16)
theorem wf8 : wfP q8 := by unfold wfP; decide
theorem wf16 : wfP q16 := by unfold wfP; decide
theorem chk8 : chk q8.1 q8.2 = 0 := by kernel_rfl
theorem chk16 : chk q16.1 q16.2 = 0 := by kernel_rfl
abbrev L2 : List (Pf × Int) := [(q8, 1), (q16, 2)]
theorem put8 : (if chk q8.1 q8.2 = 0 then putL ([] : List (Pf × Int)) q8 (1 : Int) else []) = [(q8, 1)] := by rw [if_pos chk8]; kernel_rfl
theorem put16 : (if chk q16.1 q16.2 = 0 then putL ([(q8, 1)] : List (Pf × Int)) q16 (2 : Int) else [(q8, 1)]) = L2 := by rw [if_pos chk16]; kernel_rfl
theorem long1 : longest L2 167838211 = (q16, 2, true) := by kernel_rfl
theorem long2 : longest L2 167903747 = (q8, 1, true) := by kernel_rfl

set_option maxRecDepth 100000 in
set_option maxHeartbeats 2000000 in
theorem awake_calls (w : World) : Calls Try.prog 15 #[] w fun e w' => e = .returned (.bool true) ∧ Below w.heap.size w w' := by
  have P1 := Aside0.mk (fun W bt bm h => by have := put_calls q8 1 wf8 W bt bm [] h (by simp); rw [put8, chk8] at this; exact this)
  have P2 := Aside0.mk (fun W bt bm h => by have := put_calls q16 2 wf16 W bt bm [(q8, 1)] h (by simp); rw [put16, chk16] at this; exact this)
  have G1 := Aside0.mk (fun W bt bm h => by have := longest_calls 167838211 (by omega) W bt bm L2 h; rw [long1] at this; simp only [eP] at this; exact this)
  have G2 := Aside0.mk (fun W bt bm h => by have := longest_calls 167903747 (by omega) W bt bm L2 h; rw [long2] at this; simp only [eP] at this; exact this)
  go_enter Try.func15, Try.ntmps15
  go_wp2_with (first
    | (go_at_call 26; refine (new_calls _).mono ?_; rintro e w1 ⟨bt, bm, rfl, hT0, h1, h2, hb⟩; have T0 := Aside0.mk hT0; have B1 := Aside0.mk (show w.heap.size ≤ bt ∧ w.heap.size ≤ bm from ⟨h1, h2⟩); have HB := Aside0.mk hb; clear hT0 h1 h2 hb)
    | (go_at_call 27; refine (P1.out _ bt bm T0.out).mono ?_; rintro e w2 ⟨rfl, hT1, hu⟩; have T1 := Aside0.mk hT1; have n0_ := Aside0.mk (HB.out.trans (hu.below HB.out.size (fun k hk => by rcases hk with rfl | rfl; exact B1.out.1; exact B1.out.2))); clear T0 HB hT1 hu; have HB := n0_; clear n0_)
    | (go_at_call 27; refine (P2.out _ bt bm T1.out).mono ?_; rintro e w3 ⟨rfl, hT2, hu⟩; have T2 := Aside0.mk hT2; have n0_ := Aside0.mk (HB.out.trans (hu.below HB.out.size (fun k hk => by rcases hk with rfl | rfl; exact B1.out.1; exact B1.out.2))); clear T1 HB hT2 hu; have HB := n0_; clear n0_)
    | (go_at_call 21; refine (G1.out _ bt bm T2.out).mono ?_; rintro e w4 ⟨rfl, hu⟩; have n0_ := Aside0.mk (HB.out.trans (hu.mono HB.out.size)); have n1_ := Aside0.mk (T2.out.below hu); clear HB hu T2; have HB := n0_; have T3 := n1_; clear n0_ n1_)
    | (go_at_call 21; refine (G2.out _ bt bm ?tT).mono ?_; (case tT => exact T3.out.below ((Below.refl _ _).alloc (Nat.le_refl _) _)); rintro e w5 ⟨rfl, hu⟩; have n0_ := Aside0.mk ((HB.out.alloc HB.out.size (Obj.cells #[Value.int .u32 167837696, Value.int .i64 16] 26)).trans (hu.mono (HB.out.alloc HB.out.size (Obj.cells #[Value.int .u32 167837696, Value.int .i64 16] 26)).size)); have n1_ := Aside0.mk ((T3.out.below ((Below.refl _ _).alloc (Nat.le_refl _) (Obj.cells #[Value.int .u32 167837696, Value.int .i64 16] 26))).below hu); have hbx := blk_below (blk_new w4 (Obj.cells #[Value.int .u32 167837696, Value.int .i64 16] 26)) hu; have b1 : (w5.alloc (Obj.cells #[Value.int .u32 167772160, Value.int .i64 8] 26)).cell? ⟨w4.heap.size, 1, none⟩ = some (.int .i64 16) := (by rw [blk_cell (blk_alloc hbx (Obj.cells #[Value.int .u32 167772160, Value.int .i64 8] 26))]; rfl); clear HB hu T3 hbx; have HB := n0_; have T4 := n1_; clear n0_ n1_)
    | (go_at_call 30; refine (len_calls _ bt bm L2 ?tT).mono ?_; (case tT => exact T4.out.below ((Below.refl _ _).alloc (Nat.le_refl _) _)); rintro e w6 ⟨rfl, rfl⟩; have n0_ := Aside0.mk (HB.out.alloc HB.out.size (Obj.cells #[Value.int .u32 167772160, Value.int .i64 8] 26)); clear HB; have HB := n0_; clear n0_))
  go_ret
  exact ⟨rfl, HB.out⟩
end Go.Proofs.Ytaplkfnolimdmaa.Table
