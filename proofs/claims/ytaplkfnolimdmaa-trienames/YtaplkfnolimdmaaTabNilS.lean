/- trie.Table[string]: what nobody's table answers; Drop where there is none. -/
import Derived.Test.YtaplkfnolimdmaaTabLongS
namespace Go.Proofs.Ytaplkfnolimdmaa.TableS
open Go.Proofs.Ytaplkfnolimdmaa.Table (Pf eP wfP keyP)
open Go.RowKit Go.Proofs.Ytaplkfnolimdmaa.PC Go.Proofs.YtaplkfnolimdmaaW.PrintWords Go.Proofs.YtaplkfnolimdmaaW.PrintLast Go.Proofs.YtaplkfnolimdmaaW.PrintMore Go.Proofs.YtaplkfnolimdmaaW.Bits Go.Proofs.YtaplkfnolimdmaaW.MapRaw
set_option linter.unusedVariables false
set_option linter.unusedSimpArgs false

set_option maxRecDepth 100000 in
theorem at_nil (p : Pf) (w : World) : Calls Try.prog 37 #[.pointer none, .agg #[.int .u32 p.1, .int .i64 p.2]] w fun e w' => e = .returned (.tuple #[.string ByteArray.empty, .bool false]) ∧ Below w.heap.size w w' := by
  go_enter Try.func37, Try.ntmps37
  go_wp2
  go_ret2
  exact ⟨rfl, (Below.refl w.heap.size w).alloc (Nat.le_refl _) _⟩
set_option maxRecDepth 100000 in
theorem len_nil (w : World) : Calls Try.prog 44 #[.pointer none] w fun e w' => e = .returned (.int .i64 0) ∧ w' = w := by
  go_enter Try.func44, Try.ntmps44
  go_wp2
  go_ret
  exact ⟨rfl, rfl⟩
set_option maxRecDepth 100000 in
theorem copy_nil (w : World) : Calls Try.prog 45 #[.pointer none] w fun e w' => e = .returned (.pointer none) ∧ w' = w := by
  go_enter Try.func45, Try.ntmps45
  go_wp2
  go_ret
  exact ⟨rfl, rfl⟩
set_option maxRecDepth 100000 in
theorem put_nil (p : Pf) (v : ByteArray) (w : World) : Calls Try.prog 43 #[.pointer none, .agg #[.int .u32 p.1, .int .i64 p.2], .string v] w fun e w' => e = .returned (.int .i64 2) ∧ Below w.heap.size w w' := by
  go_enter Try.func43, Try.ntmps43
  go_wp2
  go_ret
  exact ⟨rfl, (Below.refl w.heap.size w).alloc (Nat.le_refl _) _⟩
set_option maxRecDepth 100000 in
theorem drop_nil (p : Pf) (w : World) : Calls Try.prog 46 #[.pointer none, .agg #[.int .u32 p.1, .int .i64 p.2]] w fun e w' => e = .returned (.int .i64 2) ∧ Below w.heap.size w w' := by
  go_enter Try.func46, Try.ntmps46
  go_wp2
  go_ret
  exact ⟨rfl, (Below.refl w.heap.size w).alloc (Nat.le_refl _) _⟩
set_option maxRecDepth 100000 in
theorem over_nil (a : Int) (w : World) : Calls Try.prog 70 #[.pointer none, .int .u32 a] w fun e w' => e = .returned (.slice none 0 0) ∧ w' = w := by
  go_enter Try.func70, Try.ntmps70
  go_wp2
  go_ret
  exact ⟨rfl, rfl⟩
set_option maxRecDepth 100000 in
theorem sorted_nil (f : Value) (w : World) : Calls Try.prog 72 #[.pointer none, f] w fun e w' => e = .returned (.slice none 0 0) ∧ w' = w := by
  go_enter Try.func72, Try.ntmps72
  go_wp2
  go_ret
  exact ⟨rfl, rfl⟩
set_option maxRecDepth 100000 in
theorem longest_nil (a : Int) (w : World) : Calls Try.prog 38 #[.pointer none, .int .u32 a] w fun e w' => e = .returned (.tuple #[.agg #[.int .u32 0, .int .i64 0], .string ByteArray.empty, .bool false]) ∧ Below w.heap.size w w' := by
  have hbx := blk_new w (Obj.cells #[Value.int .u32 0, Value.int .i64 0] 26)
  have HBX := Aside0.mk hbx
  clear hbx
  go_enter Try.func38, Try.ntmps38
  go_wp2_with (first | (go_at_call 70; refine (over_nil _ _).mono ?_; rintro e w2 ⟨rfl, rfl⟩))
  (try simp only [Exit.inBlock, Exit.then])
  refine bodyPost_ret (results_cell_row3 rfl _ _ w.heap.size 26 _ (0, 0) _ rfl HBX.out Try.underlying26 rfl infoPs) rfl ⟨rfl, ?_⟩
  exact (Below.refl w.heap.size w).alloc (Nat.le_refl _) _
set_option maxRecDepth 100000 in
set_option maxHeartbeats 1000000 in
theorem gone_nil (w : World) : Calls Try.prog 71 #[.pointer none, .slice none 0 0] w fun e w' => e = .returned (.func (.func 96) #[] #[.pointer (some ⟨w.heap.size, 0, none⟩)]) ∧ w' = w.alloc (.cells #[.slice none 0 0] 146) := by
  go_enter Try.func71, Try.ntmps71
  go_wp2
  go_loopw [10] (fun i wr => i = .int .i64 0 ∧ wr = w.alloc (.cells #[.slice none 0 0] 146)) (fun _ _ => 0)
  case atStart => exact ⟨rfl, rfl⟩
  case round =>
    obtain ⟨rfl, rfl⟩ := hrel
    go_wp2
    go_ret
    exact ⟨rfl, rfl⟩
set_option maxRecDepth 100000 in
theorem all_nil (w : World) : Calls Try.prog 39 #[.pointer none] w fun e w' => e = .returned (.func (.func 96) #[] #[.pointer (some ⟨w.heap.size, 0, none⟩)]) ∧ w' = w.alloc (.cells #[.slice none 0 0] 146) := by
  go_enter Try.func39, Try.ntmps39
  go_wp2_with (first | (go_at_call 72; refine (sorted_nil _ _).mono ?_; rintro e w2 ⟨rfl, rfl⟩) | (go_at_call 71; refine (gone_nil _).mono ?_; rintro e w2 ⟨rfl, rfl⟩))
  go_ret
  exact ⟨rfl, rfl⟩
set_option maxRecDepth 100000 in
theorem Over_nil (a : Int) (w : World) : Calls Try.prog 40 #[.pointer none, .int .u32 a] w fun e w' => e = .returned (.func (.func 96) #[] #[.pointer (some ⟨w.heap.size, 0, none⟩)]) ∧ w' = w.alloc (.cells #[.slice none 0 0] 146) := by
  go_enter Try.func40, Try.ntmps40
  go_wp2_with (first | (go_at_call 70; refine (over_nil _ _).mono ?_; rintro e w2 ⟨rfl, rfl⟩) | (go_at_call 71; refine (gone_nil _).mono ?_; rintro e w2 ⟨rfl, rfl⟩))
  go_ret
  exact ⟨rfl, rfl⟩
set_option maxRecDepth 100000 in
theorem Within_nil (p : Pf) (w : World) : Calls Try.prog 41 #[.pointer none, .agg #[.int .u32 p.1, .int .i64 p.2]] w fun e w' => e = .returned (.func (.func 96) #[] #[.pointer (some ⟨w.heap.size + 1, 0, none⟩)]) ∧ w' = (w.alloc (.cells #[.int .u32 p.1, .int .i64 p.2] 26)).alloc (.cells #[.slice none 0 0] 146) := by
  go_enter Try.func41, Try.ntmps41
  go_wp2_with (first | (go_at_call 72; refine (sorted_nil _ _).mono ?_; rintro e w2 ⟨rfl, rfl⟩) | (go_at_call 71; refine (gone_nil _).mono ?_; rintro e w2 ⟨rfl, rfl⟩))
  go_ret
  exact ⟨by simp, rfl⟩

set_option maxRecDepth 100000 in
theorem drop_none (p : Pf) (hp : wfP p) (w : World) (bt bm : Nat) (L : List (Pf × Vt)) (hT : TabIs w bt bm L) (hL : lkL L p = none) (hc : chk p.1 p.2 = 0) :
    Calls Try.prog 46 #[.pointer (some ⟨bt, 0, none⟩), .agg #[.int .u32 p.1, .int .i64 p.2]] w fun e w' => e = .returned (.int .i64 5) ∧ Below w.heap.size w w' := by
  have HC := Aside0.mk (fun W => by have := check_calls p hp W; rw [hc] at this; exact this)
  have HT := Aside0.mk hT
  clear hT hc
  obtain ⟨p0, p1⟩ := p
  go_enter Try.func46, Try.ntmps46
  go_wp2_with (first | (go_at_call 56; refine (HC.out _).mono ?_; rintro e w2 ⟨rfl, hb⟩))
  have hsz : w.heap.size < (w.alloc (Obj.cells #[Value.int IntKind.u32 p0, Value.int IntKind.i64 p1] 26)).heap.size := by simp
  have hT1 := HT.out.below ((Below.refl w.heap.size w).alloc (Nat.le_refl _) (Obj.cells #[Value.int IntKind.u32 p0, Value.int IntKind.i64 p1] 26))
  have hT2 := hT1.below hb
  have hbox : w2.heap[w.heap.size]? = some (Obj.cells #[Value.int IntKind.u32 p0, Value.int IntKind.i64 p1] 26) := (hb.block _ hsz).trans (Go.MapKept.heap_alloc w _).1
  have b0 : w2.cell? ⟨w.heap.size, 0, none⟩ = some (.int .u32 p0) := by rw [blk_cell hbox]; rfl
  have b1 : w2.cell? ⟨w.heap.size, 1, none⟩ = some (.int .i64 p1) := by rw [blk_cell hbox]; rfl
  have c0 := hT2.cell0
  have hlook := fun n => (hT2.map.at (w' := w2.drewN n) rfl).look keyP true Try.underlying116 (z := .string ByteArray.empty) (e := 9) (by kernel_rfl) hp
  have hB02 : Below w.heap.size w w2 := ((Below.refl w.heap.size w).alloc (Nat.le_refl _) _).trans (hb.mono (by simp))
  have HB := Aside0.mk hB02
  clear hb hT1 hT2 hsz hbox hB02
  simp only [eP] at hlook
  simp only [hL, if_true, eV] at hlook
  clear hL
  go_quiet (fail)
  go_wp2
  go_ret
  exact ⟨rfl, pw_below_drewN HB.out _⟩
end Go.Proofs.Ytaplkfnolimdmaa.TableS
