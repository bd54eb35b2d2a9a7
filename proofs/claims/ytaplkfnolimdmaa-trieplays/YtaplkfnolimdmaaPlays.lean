/- TriePlays: the law's function over any steps, any addresses and any number answers true. -/
import Derived.Test.YtaplkfnolimdmaaOpens
import Derived.Test.YtaplkfnolimdmaaPlaysWalk
namespace Go.Proofs.Ytaplkfnolimdmaa.Plays
open Go.RowKit Go.Proofs.Ytaplkfnolimdmaa.PC Go.Proofs.Ytaplkfnolimdmaa.Table Go.Proofs.YtaplkfnolimdmaaW.PrintWords Go.Proofs.YtaplkfnolimdmaaW.PrintLast Go.Proofs.YtaplkfnolimdmaaW.PrintMore Go.Proofs.YtaplkfnolimdmaaW.Bits Go.Proofs.YtaplkfnolimdmaaW.Opens
set_option linter.unusedVariables false
set_option linter.unusedSimpArgs false

theorem opensP : Opens Try.prog 26 kP wfP :=
  (Opens.struct Try.underlying26 (by kernel_rfl) (OpensF.cons (n := 1) rfl (by kernel_rfl) (Opens.int Try.underlying24) (OpensF.one (n := 1) rfl (by kernel_rfl) (Opens.int Try.underlying3))) (fun x : Pf => (x.1, x.2)) (fun y => (y.1, y.2)) (fun _ => rfl)).imp (fun y hy => hy)
theorem opensS : Opens Try.prog 59 kSt (fun s => wfP s.2.1) :=
  (Opens.struct Try.underlying59 (by kernel_rfl) (OpensF.cons (n := 1) rfl (by kernel_rfl) (Opens.int Try.underlying3) (OpensF.cons (n := 2) rfl (by kernel_rfl) opensP (OpensF.one (n := 1) rfl (by kernel_rfl) (Opens.int Try.underlying3)))) (fun x : Stp => (x.1, x.2.1, x.2.2)) (fun y => (y.1, (y.2.1, y.2.2))) (fun _ => rfl)).imp (fun y hy => hy.2.1)
theorem opensA : Opens Try.prog 23 (Kd.int .u32) (fun a => 0 ≤ a ∧ a < 4294967296) :=
  (Opens.int Try.underlying23).imp (fun y hy => by simp [Lit.wf, IntKind.min, IntKind.max, IntKind.bits, IntKind.signed] at hy; omega)
theorem walk (W : World) (v0 v1 v2 : Value) (z0 : Go.Proofs.YtaplkfnolimdmaaW.Opens.Reads Try.prog 55 W v0) (z1 : Go.Proofs.YtaplkfnolimdmaaW.Opens.Reads Try.prog 56 W v1) (z2 : Go.Proofs.YtaplkfnolimdmaaW.Opens.Reads Try.prog 3 W v2) :
    Calls Try.prog 7 #[v0, v1, v2] W fun e w' => e = .returned (.bool true) ∧ Below W.heap.size W w' := by
  obtain ⟨A, c, l, rfl, hlc, hC, _, hu, hb⟩ := Reads.slice z0 Try.underlying55 (d := kSt) (by kernel_rfl) opensS
  obtain ⟨A1, c1, l1, rfl, hlc1, hC1, _, hu1, hb1⟩ := Reads.slice z1 Try.underlying56 (d := Kd.int .u32) (by kernel_rfl) opensA
  have e0 : Try.prog.bytesOf 59 = 32 := by kernel_rfl
  have e1 : Try.prog.bytesOf 23 = 4 := by kernel_rfl
  rw [e0] at hb
  rw [e1] at hb1
  obtain ⟨n, rfl, hn⟩ := Reads.int z2 Try.underlying3
  exact plays_walk A c l A1 c1 l1 n W hC hu (by omega) hC1 hu1 (by omega)
end Go.Proofs.Ytaplkfnolimdmaa.Plays
