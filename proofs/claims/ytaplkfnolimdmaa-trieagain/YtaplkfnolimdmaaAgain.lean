/- TrieAgain: the law's function over any list of prefixes, any number, prefix and address answers true. -/
import Derived.Test.YtaplkfnolimdmaaOpens
import Derived.Test.YtaplkfnolimdmaaAgainWalk
namespace Go.Proofs.Ytaplkfnolimdmaa.Again
open Go.RowKit Go.Proofs.Ytaplkfnolimdmaa.PC Go.Proofs.Ytaplkfnolimdmaa.Table Go.Proofs.YtaplkfnolimdmaaW.PrintWords Go.Proofs.YtaplkfnolimdmaaW.PrintLast Go.Proofs.YtaplkfnolimdmaaW.PrintMore Go.Proofs.YtaplkfnolimdmaaW.Bits Go.Proofs.YtaplkfnolimdmaaW.Opens
set_option linter.unusedVariables false
set_option linter.unusedSimpArgs false

theorem opens : Opens Try.prog 26 kP wfP :=
  (Opens.struct Try.underlying26 (by kernel_rfl) (OpensF.cons (n := 1) rfl (by kernel_rfl) (Opens.int Try.underlying24) (OpensF.one (n := 1) rfl (by kernel_rfl) (Opens.int Try.underlying3))) (fun x : Pf => (x.1, x.2)) (fun y => (y.1, y.2)) (fun _ => rfl)).imp (fun y hy => hy)
theorem walk (W : World) (v0 v1 v2 v3 : Value) (z0 : Go.Proofs.YtaplkfnolimdmaaW.Opens.Reads Try.prog 22 W v0) (z1 : Go.Proofs.YtaplkfnolimdmaaW.Opens.Reads Try.prog 3 W v1) (z2 : Go.Proofs.YtaplkfnolimdmaaW.Opens.Reads Try.prog 26 W v2) (z3 : Go.Proofs.YtaplkfnolimdmaaW.Opens.Reads Try.prog 23 W v3) :
    Calls Try.prog 6 #[v0, v1, v2, v3] W fun e w' => e = .returned (.bool true) ∧ Below W.heap.size W w' := by
  obtain ⟨A, c, l, rfl, hlc, hC, _, hu, _⟩ := Reads.slice z0 Try.underlying22 (d := kP) (by kernel_rfl) opens
  obtain ⟨b, rfl, hb⟩ := Reads.int z1 Try.underlying3
  obtain ⟨a, rfl, ha⟩ := Reads.int z3 Try.underlying23
  obtain ⟨cs, rfl⟩ := Reads.agg z2 Try.underlying26
  obtain ⟨q, hq, hqw⟩ := Reads.opens z2 opens
  have e := kP_open hq
  have ec : cs = #[.int .u32 q.1, .int .i64 q.2] := by
    cases cs
    simpa [Value.cells] using e
  subst ec
  exact again_walk A c l b q a W hC hlc hu hqw (by simp [Lit.wf, IntKind.min, IntKind.max, IntKind.bits, IntKind.signed] at ha; omega)
end Go.Proofs.Ytaplkfnolimdmaa.Again
