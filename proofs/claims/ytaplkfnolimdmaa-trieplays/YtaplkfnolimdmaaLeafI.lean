/- What the printed leaf functions of the program's addresses answer. -/
import Derived.Laws.BitsAllLaws
import Derived.Lib.ItoaNum
import Derived.Test.YtaplkfnolimdmaaPCx6
import Derived.Test.YtaplkfnolimdmaaLeafB
namespace Go.Proofs.Ytaplkfnolimdmaa.PC.Leaf
open Go.Proofs.YtaplkfnolimdmaaW.Bits Go.RowKit Go.Proofs.Ytaplkfnolimdmaa.PC Go.Proofs.YtaplkfnolimdmaaW.PrintWords Go.Proofs.YtaplkfnolimdmaaW.PrintLast Go.Proofs.Ytaplkfnolimdmaa.PC.Cov
set_option linter.unusedVariables false
set_option linter.unusedSimpArgs false

theorem behind_f {b : Int} (h0 : 0 ≤ b) (h1 : b ≤ 32) : addr_behind.f b = some (sz b - 1) := by
  obtain ⟨e1, e2⟩ := behind_val h0 h1
  unfold addr_behind.f
  rw [e1, if_pos (by omega), e2]
theorem ev_behind {b : Int} (h0 : 0 ≤ b) (h1 : b ≤ 32) : Ev (fun _ => addr_behind.f b) (sz b - 1) := Ev.congr (fun _ => behind_f h0 h1) (Ev.now _)

theorem ev_ACheck (a b : Int) (h0 : 0 ≤ a) (h1 : a < 4294967296) : Ev (fun k => addr_Check.f k a b) (chk a b) := by
  unfold addr_Check.f
  by_cases c : b < 0
  · refine Ev.pos c (Ev.step (fun k => by rw [addr_Check.j0]) (Ev.pos rfl (Ev.some' ?_)))
    unfold chk
    rw [if_pos (Or.inl c)]
  · refine Ev.neg c (Ev.step (fun k => by rw [addr_Check.j0]) ?_)
    by_cases c2 : b > 32
    · refine Ev.pos (decide_eq_true c2) (Ev.some' ?_)
      unfold chk
      rw [if_pos (Or.inr c2)]
    · refine Ev.neg (by simp; omega) ?_
      refine Ev.bind (ev_behind (by omega) (by omega)) ?_
      rw [and_mask h0 h1 (by omega) (by omega)]
      unfold chk
      rw [if_neg (show ¬ (b < 0 ∨ 32 < b) by omega)]
      by_cases c3 : a % sz b = 0
      · exact Ev.pos c3 (Ev.some' (if_pos c3).symm)
      · exact Ev.neg c3 (Ev.some' (if_neg c3).symm)

theorem in_iff {x : Int} {p : S26} (hp : V p) : x - x % sz p.f1 = p.f0 ↔ inP x p := by
  have hs := sz_pos p.f1
  have h1 := Int.emod_nonneg x (show sz p.f1 ≠ 0 by omega)
  have h2 := Int.emod_lt_of_pos x hs
  constructor
  · intro h
    unfold inP
    omega
  · rintro ⟨a, b⟩
    obtain ⟨c, hc⟩ := hp.2.2.2.2
    have : x % sz p.f1 = x - p.f0 := by
      have e : x = (x - p.f0) + sz p.f1 * c := by omega
      rw [e, Int.add_mul_emod_self_left, Int.emod_eq_of_lt (by omega) (by omega)]
      omega
    omega

theorem ev_AIn {x : Int} {p : S26} (hx : U x) (hp : U p.f0) : Ev (fun k => addr_In.f k x p.f0 p.f1) (decide (chk p.f0 p.f1 = 0 ∧ inP x p)) := by
  unfold addr_In.f
  refine Ev.bind (ev_ACheck _ _ hp.1 hp.2) ?_
  by_cases c : chk p.f0 p.f1 = 0
  · refine Ev.pos c ?_
    have hv := V_of hp c
    refine Ev.bind (ev_behind hv.1 hv.2.1) ?_
    rw [andNot_mask hx.1 hx.2 hv.1 hv.2.1]
    refine Ev.some' ?_
    rw [Bool.eq_iff_iff, beq_iff_eq, decide_eq_true_iff, in_iff hv]
    exact ⟨fun h => ⟨c, h⟩, fun h => h.2⟩
  · refine Ev.neg c (Ev.some' ?_)
    symm
    exact decide_eq_false (fun h => c h.1)

theorem ev_AWithin {p q : S26} (hp : U p.f0) (hq : U q.f0) : Ev (fun k => addr_Within.f k p.f0 p.f1 q.f0 q.f1) (decide (chk p.f0 p.f1 = 0 ∧ chk q.f0 q.f1 = 0 ∧ wi p q)) := by
  unfold addr_Within.f
  refine Ev.bind (ev_ACheck _ _ hp.1 hp.2) ?_
  by_cases c : chk p.f0 p.f1 = 0
  · refine Ev.pos c ?_
    by_cases c3 : p.f1 ≥ q.f1
    · refine Ev.pos c3 ?_
      refine Ev.bind (ev_AIn hp hq) ?_
      refine Ev.some' ?_
      unfold wi
      exact decide_eq_decide.2 ⟨fun h => ⟨c, h.1, c3, h.2⟩, fun h => ⟨h.2.1, h.2.2.2⟩⟩
    · exact Ev.neg c3 (Ev.some' (decide_eq_false (fun h => c3 h.2.2.1)).symm)
  · exact Ev.neg c (Ev.some' (decide_eq_false (fun h => c h.1)).symm)

theorem asub_f {a b : Int} (ha : U a) (h0 : 0 ≤ b) (h1 : b ≤ 32) : addr_Subnet.f a b = some (a - a % sz b, b, 0) := by
  unfold addr_Subnet.f
  rw [if_neg (by omega), if_neg (by omega), behind_f h0 h1]
  show some _ = some _
  rw [andNot_mask ha.1 ha.2 h0 h1]

/-! The bits that two have in common. -/
theorem bitLen_le_iff {x m : Nat} (hx : x < 2 ^ 64) : Go.Lib.bitLen x ≤ m ↔ x < 2 ^ m := by
  by_cases h0 : x = 0
  · subst h0
    have : Go.Lib.bitLen 0 = 0 := Go.Lib.bitLenAux_zero 64
    rw [this]
    exact ⟨fun _ => Nat.two_pow_pos m, fun _ => Nat.zero_le _⟩
  · obtain ⟨h1, h2, h3⟩ := Go.Lib.bitLenAux_bounds 64 x hx h0
    have e : Go.Lib.bitLenAux 64 x = Go.Lib.bitLen x := rfl
    rw [e] at h1 h2 h3
    constructor
    · intro h
      exact Nat.lt_of_lt_of_le h3 (Nat.pow_le_pow_right (by decide) h)
    · intro h
      apply Classical.byContradiction
      intro hc
      have : 2 ^ m ≤ 2 ^ (Go.Lib.bitLen x - 1) := Nat.pow_le_pow_right (by decide) (by omega)
      omega
theorem xor_lt_iff {a b m : Nat} : a ^^^ b < 2 ^ m ↔ a / 2 ^ m = b / 2 ^ m := by
  have e : (a ^^^ b) / 2 ^ m = (a / 2 ^ m) ^^^ (b / 2 ^ m) := by
    rw [← Nat.shiftRight_eq_div_pow, ← Nat.shiftRight_eq_div_pow, ← Nat.shiftRight_eq_div_pow, Nat.shiftRight_xor_distrib]
  have hp := Nat.two_pow_pos m
  rw [← Nat.div_eq_zero_iff_lt hp, e]
  generalize a / 2 ^ m = c
  generalize b / 2 ^ m = d
  constructor
  · intro h
    have : c ^^^ (c ^^^ d) = c ^^^ 0 := by rw [h]
    rw [← Nat.xor_assoc, Nat.xor_self, Nat.zero_xor, Nat.xor_zero] at this
    exact this.symm
  · rintro rfl
    exact Nat.xor_self c
/-- How many bits are alike. -/
def alike (a b : Int) : Int := 32 - (Go.Lib.bitLen (Go.bits .xor .u32 a b).toNat : Int)
theorem alike_f {a b : Int} (ha : U a) (hb : U b) : bits_LeadingZeros32.f (Go.bits .xor .u32 a b) = some (alike a b) ∧ 0 ≤ alike a b ∧ alike a b ≤ 32 ∧
    ∀ m : Int, 0 ≤ m → m ≤ 32 → (m ≤ alike a b ↔ a / sz m = b / sz m) := by
  obtain ⟨a1, rfl⟩ := Int.eq_ofNat_of_zero_le ha.1
  obtain ⟨b1, rfl⟩ := Int.eq_ofNat_of_zero_le hb.1
  have ha1 : a1 < 2 ^ 32 := by have := ha.2; omega
  have hb1 : b1 < 2 ^ 32 := by have := hb.2; omega
  have e : Go.bits .xor .u32 (a1 : Int) (b1 : Int) = ((a1 ^^^ b1 : Nat) : Int) := u32_xor_nat a1 b1 (by omega) (by omega)
  have hx : a1 ^^^ b1 < 2 ^ 32 := Nat.xor_lt_two_pow ha1 hb1
  have hl := (bitLen_le_iff (x := a1 ^^^ b1) (m := 32) (by omega)).2 hx
  unfold alike bits_LeadingZeros32.f
  rw [e, Int.toNat_natCast]
  refine ⟨by rw [if_pos (by omega), if_pos (by omega)], by omega, by omega, fun m h0 h1 => ?_⟩
  have h2 := (bitLen_le_iff (x := a1 ^^^ b1) (m := (32 - m).toNat) (by omega))
  rw [xor_lt_iff] at h2
  have es : sz m = ((2 ^ (32 - m).toNat : Nat) : Int) := by unfold sz; simp
  rw [es, ← Int.natCast_ediv, ← Int.natCast_ediv]
  constructor
  · intro h
    exact_mod_cast h2.1 (by omega)
  · intro h
    have := h2.2 (by exact_mod_cast h)
    omega

/-- What the program's Common tells of two prefixes. -/
theorem ev_ACommon {p q : S26} (hp : V p) (hq : V q) :
    ∃ n : Int, 0 ≤ n ∧ n ≤ 32 ∧ Ev (fun k => addr_Common.f k p.f0 p.f1 q.f0 q.f1) (p.f0 - p.f0 % sz n, n, 0) ∧ (p.f1 = q.f1 → lt p q → 0 < p.f1 ∧ (n = p.f1 - 1 ↔ sib p q)) := by
  have hpu := V_U hp
  have hqu := V_U hq
  have c1 := ev_ACheck p.f0 p.f1 hpu.1 hpu.2
  rw [chk_of_V hp] at c1
  have c2 := ev_ACheck q.f0 q.f1 hqu.1 hqu.2
  rw [chk_of_V hq] at c2
  obtain ⟨l1, l2, l3, l4⟩ := alike_f hpu hqu
  have em : mn (mn p.f1 q.f1) (alike p.f0 q.f0) = min (min p.f1 q.f1) (alike p.f0 q.f0) := by
    unfold mn
    repeat' split
    all_goals omega
  have hp0 := hp.1
  have hp1 := hp.2.1
  have hq0 := hq.1
  refine ⟨min (min p.f1 q.f1) (alike p.f0 q.f0), by omega, by omega, ?_, fun hb hl => ?_⟩
  · unfold addr_Common.f
    refine Ev.bind c1 (Ev.pos rfl ?_)
    refine Ev.bind c2 (Ev.pos rfl ?_)
    rw [l1]
    refine Ev.bind (Ev.now _) ?_
    rw [em, asub_f hpu (by omega) (by omega)]
    exact Ev.bind (Ev.now _) (Ev.now _)
  · have hs := sz_pos p.f1
    have hpos : 0 < p.f1 := by
      rcases Int.lt_or_le 0 p.f1 with h | h
      · exact h
      · exfalso
        have e : p.f1 = 0 := by omega
        obtain ⟨c, hc⟩ := hp.2.2.2.2
        obtain ⟨d, hd⟩ := hq.2.2.2.2
        rw [← hb] at hd
        rw [e, sz0] at hc hd
        have := hpu.1; have := hpu.2; have := hqu.1; have := hqu.2
        unfold lt at hl
        omega
    refine ⟨hpos, ?_⟩
    rw [sib_iff hp hq hb hpos hl, ← hb]
    have m1 := l4 (p.f1 - 1) (by omega) (by omega)
    have m2 := l4 p.f1 (by omega) (by omega)
    have hne : ¬ p.f0 / sz p.f1 = q.f0 / sz p.f1 := by
      intro h
      have h1 := Int.ediv_mul_cancel hp.2.2.2.2
      have h2 := Int.ediv_mul_cancel (hb ▸ hq.2.2.2.2 : sz p.f1 ∣ q.f0)
      rw [h, h2] at h1
      unfold lt at hl
      omega
    rw [← m1]
    constructor
    · intro h; omega
    · intro h
      have : ¬ p.f1 ≤ alike p.f0 q.f0 := fun h => hne (m2.1 h)
      omega
end Go.Proofs.Ytaplkfnolimdmaa.PC.Leaf
