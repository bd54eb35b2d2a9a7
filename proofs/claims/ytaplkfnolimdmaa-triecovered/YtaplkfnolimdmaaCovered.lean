/- TrieCovered: the law's function over any list of prefixes and any address answers true. -/
import Derived.Test.YtaplkfnolimdmaaOpens
import Derived.Test.YtaplkfnolimdmaaCoveredWalk
namespace Go.Proofs.Ytaplkfnolimdmaa.Covered
open Go.RowKit Go.Proofs.Ytaplkfnolimdmaa.PC Go.Proofs.Ytaplkfnolimdmaa.PC.Leaf Go.Proofs.YtaplkfnolimdmaaW.PrintWords Go.Proofs.YtaplkfnolimdmaaW.PrintLast Go.Proofs.YtaplkfnolimdmaaW.PrintMore Go.Proofs.YtaplkfnolimdmaaW.Bits Go.Proofs.YtaplkfnolimdmaaW.Opens
set_option linter.unusedVariables false
set_option linter.unusedSimpArgs false

theorem u32_U {n : Int} (h : (Lit.int .u32 n).wf = true) : U n := by
  simp [Lit.wf, IntKind.min, IntKind.max, IntKind.bits, IntKind.signed] at h
  unfold U
  omega
theorem opens : Opens Try.prog 26 k26 (fun p => U p.f0) := by
  refine (Opens.struct Try.underlying26 (by kernel_rfl) (OpensF.cons (n := 1) rfl (by kernel_rfl) (Opens.int Try.underlying24) (OpensF.one (n := 1) rfl (by kernel_rfl) (Opens.int Try.underlying3))) (fun x : S26 => (x.f0, x.f1)) (fun y => ⟨y.1, y.2⟩) (fun _ => rfl)).imp ?_
  intro y hy
  exact u32_U hy.1
theorem walk (W : World) (v0 v1 : Value) (z0 : Go.Proofs.YtaplkfnolimdmaaW.Opens.Reads Try.prog 22 W v0) (z1 : Go.Proofs.YtaplkfnolimdmaaW.Opens.Reads Try.prog 23 W v1) : Calls Try.prog 4 #[v0, v1] W fun e w' => e = .returned (.bool true) ∧ Below W.heap.size W w' := by
  obtain ⟨A, c, l, rfl, hlc, hC, _, hu, _⟩ := Reads.slice z0 Try.underlying22 (d := k26) (by kernel_rfl) opens
  obtain ⟨a, rfl, ha⟩ := Reads.int z1 Try.underlying23
  exact covered_walk A c l a W hC hlc hu (u32_U ha)
end Go.Proofs.Ytaplkfnolimdmaa.Covered
