/- TrieCovers: both covers are one list; the law's function over any list of prefixes answers true. -/
import Derived.Test.YtaplkfnolimdmaaOpens
import Derived.Test.YtaplkfnolimdmaaImplCover
import Derived.Test.YtaplkfnolimdmaaCoversWalk
namespace Go.Proofs.Ytaplkfnolimdmaa.Covers
open Go.RowKit Go.Proofs.Ytaplkfnolimdmaa.PC Go.Proofs.Ytaplkfnolimdmaa.PC.Leaf Go.Proofs.YtaplkfnolimdmaaW.PrintWords Go.Proofs.YtaplkfnolimdmaaW.PrintLast Go.Proofs.YtaplkfnolimdmaaW.PrintMore Go.Proofs.YtaplkfnolimdmaaW.Bits Go.Proofs.YtaplkfnolimdmaaW.Opens
set_option linter.unusedVariables false
set_option linter.unusedSimpArgs false

theorem same_l0 {L : List S26} (hn : L.length ≤ 400) : ∀ (suf pre : List S26), L = pre ++ suf → Ev (fun k => waymarkref01_Same.l0 k L L (pre.length : Int)) true
  | [], pre, h => Ev.step (fun k => by rw [waymarkref01_Same.l0]) (Ev.neg (by rw [h]; simp) (Ev.now _))
  | p :: t, pre, h => by
    have hl : L.length = pre.length + t.length + 1 := by rw [h]; simp; omega
    have ih := same_l0 hn t (pre ++ [p]) (by rw [h]; simp)
    rw [show ((pre ++ [p]).length : Int) = (pre.length : Int) + 1 by simp] at ih
    refine Ev.step (fun k => by rw [waymarkref01_Same.l0]) ?_
    refine Ev.pos (by omega) ?_
    refine Ev.pos (by omega) ?_
    refine Ev.pos (by omega) ?_
    refine Ev.pos rfl ?_
    refine Ev.pos rfl ?_
    rw [w64 (by omega) (by omega)]
    exact ih
theorem same (L : List S26) (hn : L.length ≤ 400) : Ev (fun k => waymarkref01_Same.f k L L) true := by
  unfold waymarkref01_Same.f
  exact Ev.pos rfl (same_l0 hn L [] rfl)

theorem opens : Opens Try.prog 26 k26 (fun p => U p.f0) := by
  refine (Opens.struct Try.underlying26 (by kernel_rfl) (OpensF.cons (n := 1) rfl (by kernel_rfl) (Opens.int Try.underlying24) (OpensF.one (n := 1) rfl (by kernel_rfl) (Opens.int Try.underlying3))) (fun x : S26 => (x.f0, x.f1)) (fun y => ⟨y.1, y.2⟩) (fun _ => rfl)).imp ?_
  intro y hy
  have h := hy.1
  simp [Lit.wf, IntKind.min, IntKind.max, IntKind.bits, IntKind.signed] at h
  unfold U
  omega

theorem walk (W : World) (v0 : Value) (z0 : Go.Proofs.YtaplkfnolimdmaaW.Opens.Reads Try.prog 22 W v0) : Calls Try.prog 3 #[v0] W fun e w' => e = .returned (.bool true) ∧ Below W.heap.size W w' := by
  obtain ⟨A, c, l, rfl, hlc, hC, _, hu, _⟩ := Reads.slice z0 Try.underlying22 (d := k26) (by kernel_rfl) opens
  have h80 : (l.take 80).length ≤ 80 := by rw [List.length_take]; omega
  obtain ⟨C, hl, ⟨K1, h1⟩, ⟨K2, h2⟩⟩ := covers (l := l.take 80) (by omega) (fun p hp => hu p (List.mem_of_mem_take hp))
  obtain ⟨K3, h3⟩ := same C (by omega)
  obtain ⟨K4, h4⟩ := same (l.take 80) (by omega)
  have m1 := Nat.le_max_left K1 K2
  refine covers_walk (K1 + K2 + K3 + K4) A c l W hC hlc C C C (h1 _ (by omega)) (h2 _ (by omega)) (h2 _ (by omega)) (h3 _ (by omega)) (h3 _ (by omega)) (h4 _ (by omega)) rfl (by omega)
end Go.Proofs.Ytaplkfnolimdmaa.Covers
