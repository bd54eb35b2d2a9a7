/- What the printed leaf functions of the reference of addresses answer. -/
import Derived.Test.YtaplkfnolimdmaaPCx2
import Derived.Test.YtaplkfnolimdmaaCoverMath
namespace Go.Proofs.Ytaplkfnolimdmaa.PC.Leaf
open Go.Proofs.YtaplkfnolimdmaaW.Bits Go.RowKit Go.Proofs.Ytaplkfnolimdmaa.PC Go.Proofs.YtaplkfnolimdmaaW.PrintWords Go.Proofs.YtaplkfnolimdmaaW.PrintLast Go.Proofs.Ytaplkfnolimdmaa.PC.Cov
set_option linter.unusedVariables false
set_option linter.unusedSimpArgs false

theorem size_l0 : ∀ (d : Nat) (i o : Int), 0 ≤ i → (32 - i).toNat = d → i ≤ 32 → 0 < o → o * sz i ≤ 4294967296 → Ev (fun k => waymarkref01_size.l0 k o i) (o * sz i)
  | 0, i, o, h0, hd, h1, ho, hb => by
    obtain rfl : i = 32 := by omega
    refine Ev.step (fun k => by rw [waymarkref01_size.l0]) (Ev.neg (by omega) (Ev.some' ?_))
    rw [sz32, Int.mul_one]
  | d + 1, i, o, h0, hd, h1, ho, hb => by
    have hs := sz_half (b := i) (by omega)
    have hp := sz_pos (i + 1)
    have e : 2 * o * sz (i + 1) = o * sz i := by rw [hs, ← Int.mul_assoc, Int.mul_comm o 2]
    have hle : 2 * o * 1 ≤ 2 * o * sz (i + 1) := Int.mul_le_mul_of_nonneg_left (by omega) (by omega)
    refine Ev.step (fun k => by rw [waymarkref01_size.l0]) (Ev.pos (by omega) ?_)
    rw [u64w (by omega) (by omega), w64 (by omega) (by omega), ← e]
    exact size_l0 d (i + 1) (2 * o) (by omega) (by omega) (by omega) (by omega) (by omega)
theorem ev_size {b : Int} (h0 : 0 ≤ b) (h1 : b ≤ 32) : Ev (fun k => waymarkref01_size.f k b) (sz b) := by
  have h := size_l0 _ b 1 h0 rfl h1 (by omega) (by have := sz_bound h0 h1; omega)
  rw [Int.one_mul] at h
  exact h

/-- What Check answers: 0, 1 (ErrArg) or 10 (ErrMask). -/
def chk (a b : Int) : Int := if b < 0 ∨ 32 < b then 1 else if a % sz b = 0 then 0 else 10
theorem chk_zero {a b : Int} : chk a b = 0 ↔ 0 ≤ b ∧ b ≤ 32 ∧ sz b ∣ a := by
  unfold chk
  split
  · constructor
    · intro h; cases h
    · intro h; omega
  · split
    · rename_i h1 h2
      exact ⟨fun _ => ⟨by omega, by omega, Int.dvd_of_emod_eq_zero h2⟩, fun _ => rfl⟩
    · rename_i h1 h2
      exact ⟨fun h => (by cases h), fun h => absurd (Int.emod_eq_zero_of_dvd h.2.2) h2⟩
theorem ev_Check (a b : Int) (h0 : 0 ≤ a) (h1 : a < 4294967296) : Ev (fun k => waymarkref01_Check.f k a b) (chk a b) := by
  unfold waymarkref01_Check.f
  by_cases c : b < 0
  · refine Ev.pos c (Ev.step (fun k => by rw [waymarkref01_Check.j0]) (Ev.pos rfl (Ev.some' ?_)))
    unfold chk
    rw [if_pos (Or.inl c)]
  · refine Ev.neg c (Ev.step (fun k => by rw [waymarkref01_Check.j0]) ?_)
    by_cases c2 : b > 32
    · refine Ev.pos (decide_eq_true c2) (Ev.some' ?_)
      unfold chk
      rw [if_pos (Or.inr c2)]
    · have hs := sz_bound (b := b) (by omega) (by omega)
      refine Ev.neg (by simp; omega) (Ev.bind (ev_size (by omega) (by omega)) (Ev.neg (by omega) ?_))
      rw [u64w h0 (by omega), Int.tmod_eq_emod_of_nonneg h0]
      unfold chk
      rw [if_neg (show ¬ (b < 0 ∨ 32 < b) by omega)]
      by_cases c3 : a % sz b = 0
      · exact Ev.pos c3 (Ev.some' (if_pos c3).symm)
      · exact Ev.neg c3 (Ev.some' (if_neg c3).symm)

def U (a : Int) : Prop := 0 ≤ a ∧ a < 4294967296
theorem V_of {p : S26} (hu : U p.f0) (h : chk p.f0 p.f1 = 0) : V p := by
  obtain ⟨a, b, c⟩ := chk_zero.1 h
  exact ⟨a, b, hu.1, hu.2, c⟩
theorem chk_of_V {p : S26} (h : V p) : chk p.f0 p.f1 = 0 := chk_zero.2 ⟨h.1, h.2.1, h.2.2.2.2⟩
theorem V_U {p : S26} (h : V p) : U p.f0 := ⟨h.2.2.1, h.2.2.2.1⟩

theorem ev_In {x : Int} {p : S26} (hx : U x) (hp : U p.f0) : Ev (fun k => waymarkref01_In.f k x p.f0 p.f1) (decide (chk p.f0 p.f1 = 0 ∧ inP x p)) := by
  unfold waymarkref01_In.f
  refine Ev.bind (ev_Check _ _ hp.1 hp.2) ?_
  by_cases c : chk p.f0 p.f1 = 0
  · refine Ev.pos c ?_
    have hv := V_of hp c
    have hs := sz_bound hv.1 hv.2.1
    by_cases c2 : x ≥ p.f0
    · refine Ev.pos c2 (Ev.bind (ev_size hv.1 hv.2.1) (Ev.some' ?_))
      have := hx.1; have := hx.2; have := hp.1; have := hp.2
      rw [u64w (n := x) (by omega) (by omega), u64w (n := p.f0) (by omega) (by omega), u64w (n := x - p.f0) (by omega) (by omega)]
      unfold inP
      exact decide_eq_decide.2 ⟨fun h => ⟨c, c2, by omega⟩, fun h => by have := h.2.2; omega⟩
    · refine Ev.neg c2 (Ev.some' ?_)
      symm
      exact decide_eq_false (fun h => c2 h.2.1)
  · refine Ev.neg c (Ev.some' ?_)
    symm
    exact decide_eq_false (fun h => c h.1)

theorem ev_Within {p q : S26} (hp : U p.f0) (hq : U q.f0) : Ev (fun k => waymarkref01_Within.f k p.f0 p.f1 q.f0 q.f1) (decide (chk p.f0 p.f1 = 0 ∧ chk q.f0 q.f1 = 0 ∧ wi p q)) := by
  unfold waymarkref01_Within.f
  refine Ev.bind (ev_Check _ _ hp.1 hp.2) ?_
  by_cases c : chk p.f0 p.f1 = 0
  · refine Ev.pos c (Ev.bind (ev_Check _ _ hq.1 hq.2) ?_)
    by_cases c2 : chk q.f0 q.f1 = 0
    · refine Ev.pos c2 ?_
      by_cases c3 : p.f1 ≥ q.f1
      · refine Ev.pos c3 (Ev.bind (ev_In hp hq) (Ev.some' ?_))
        unfold wi
        exact decide_eq_decide.2 ⟨fun h => ⟨c, c2, c3, h.2⟩, fun h => ⟨c2, h.2.2.2⟩⟩
      · exact Ev.neg c3 (Ev.some' (decide_eq_false (fun h => c3 h.2.2.1)).symm)
    · exact Ev.neg c2 (Ev.some' (decide_eq_false (fun h => c2 h.2.1)).symm)
  · exact Ev.neg c (Ev.some' (decide_eq_false (fun h => c h.1)).symm)

instance (p q : S26) : Decidable (lt p q) := inferInstanceAs (Decidable (_ ∨ _))
instance (p q : S26) : Decidable (p = q) := decidable_of_iff (p.f0 = q.f0 ∧ p.f1 = q.f1) ⟨fun h => S26.ext' h.1 h.2, fun h => by rw [h]; exact ⟨rfl, rfl⟩⟩
end Go.Proofs.Ytaplkfnolimdmaa.PC.Leaf
