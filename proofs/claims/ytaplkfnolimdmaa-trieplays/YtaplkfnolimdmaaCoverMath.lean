/- Prefixes as intervals: a canonical cover (none in another, no two halves of one) is the only one of its addresses. Plain mathematics. -/
import Derived.Test.YtaplkfnolimdmaaPCx0
import Derived.Test.YtaplkfnolimdmaaBits
namespace Go.Proofs.Ytaplkfnolimdmaa.PC.Cov
open Go.Proofs.Ytaplkfnolimdmaa.PC Go.Proofs.YtaplkfnolimdmaaW.Bits
set_option linter.unusedVariables false
set_option linter.unusedSimpArgs false

def V (p : S26) : Prop := 0 ≤ p.f1 ∧ p.f1 ≤ 32 ∧ 0 ≤ p.f0 ∧ p.f0 < 4294967296 ∧ sz p.f1 ∣ p.f0
def inP (x : Int) (p : S26) : Prop := p.f0 ≤ x ∧ x < p.f0 + sz p.f1
def wi (p q : S26) : Prop := q.f1 ≤ p.f1 ∧ inP p.f0 q
def lt (p q : S26) : Prop := p.f0 < q.f0 ∨ (p.f0 = q.f0 ∧ p.f1 < q.f1)
instance (x : Int) (p : S26) : Decidable (inP x p) := inferInstanceAs (Decidable (_ ∧ _))
instance (p q : S26) : Decidable (wi p q) := inferInstanceAs (Decidable (_ ∧ _))

theorem inP_self {p : S26} : inP p.f0 p := ⟨Int.le_refl _, by have := sz_pos p.f1; omega⟩

theorem laminar {p q : S26} (hp : V p) (hq : V q) (hb : q.f1 ≤ p.f1) {x : Int} (h1 : inP x p) (h2 : inP x q) : wi p q := by
  refine ⟨hb, ?_⟩
  have hP := sz_pos p.f1
  have hd : sz p.f1 ∣ q.f0 := Int.dvd_trans (sz_dvd hb hp.2.1) hq.2.2.2.2
  obtain ⟨a1, a2⟩ := h1
  obtain ⟨b1, b2⟩ := h2
  constructor
  · rcases Int.lt_or_le p.f0 q.f0 with h | h
    · have : sz p.f1 ≤ q.f0 - p.f0 := Int.le_of_dvd (by omega) (Int.dvd_sub hd hp.2.2.2.2)
      omega
    · exact h
  · omega
theorem wi_in {p q : S26} (hp : V p) (hq : V q) (h : wi p q) {x : Int} (hx : inP x p) : inP x q := by
  obtain ⟨hb, h1, h2⟩ := h
  have hd : sz p.f1 ∣ q.f0 := Int.dvd_trans (sz_dvd hb hp.2.1) hq.2.2.2.2
  have hd2 : sz p.f1 ∣ sz q.f1 := sz_dvd hb hp.2.1
  have : sz p.f1 ≤ q.f0 + sz q.f1 - p.f0 := Int.le_of_dvd (by omega) (Int.dvd_sub (Int.dvd_add hd hd2) hp.2.2.2.2)
  obtain ⟨a1, a2⟩ := hx
  exact ⟨by omega, by omega⟩
theorem wi_refl (p : S26) : wi p p := ⟨Int.le_refl _, inP_self⟩
theorem wi_trans {p q r : S26} (hp : V p) (hq : V q) (hr : V r) (h1 : wi p q) (h2 : wi q r) : wi p r :=
  ⟨Int.le_trans h2.1 h1.1, wi_in hq hr h2 h1.2⟩
theorem S26.ext' {p q : S26} (h0 : p.f0 = q.f0) (h1 : p.f1 = q.f1) : p = q := by cases p; cases q; simp at h0 h1; simp [h0, h1]
theorem wi_antisymm {p q : S26} (hp : V p) (hq : V q) (h1 : wi p q) (h2 : wi q p) : p = q := by
  have hb : p.f1 = q.f1 := Int.le_antisymm h2.1 h1.1
  refine S26.ext' ?_ hb
  obtain ⟨_, a1, a2⟩ := h1
  obtain ⟨_, b1, b2⟩ := h2
  omega
/-- Of one length and with an address in common: one. -/
theorem same_of {p q : S26} (hp : V p) (hq : V q) (hb : p.f1 = q.f1) {x : Int} (h1 : inP x p) (h2 : inP x q) : p = q :=
  wi_antisymm hp hq (laminar hp hq (by omega) h1 h2) (laminar hq hp (by omega) h2 h1)

/-- Two halves of one. -/
def sib (p q : S26) : Prop := p.f1 = q.f1 ∧ 0 < p.f1 ∧ p.f0 + sz p.f1 = q.f0 ∧ sz (p.f1 - 1) ∣ p.f0

def cov (C : List S26) (x : Int) : Prop := ∃ p ∈ C, inP x p
structure Canon (C : List S26) : Prop where
  valid : ∀ p ∈ C, V p
  sorted : C.Pairwise lt
  flat : ∀ p ∈ C, ∀ q ∈ C, wi p q → p = q
  nosib : ∀ p ∈ C, ∀ q ∈ C, ¬ sib p q

theorem half_valid {s : S26} (hs : V s) (h : s.f1 < 32) : V ⟨s.f0, s.f1 + 1⟩ ∧ V ⟨s.f0 + sz (s.f1 + 1), s.f1 + 1⟩ := by
  obtain ⟨h0, h1, h2, h3, h4⟩ := hs
  have hh := sz_half h
  have hp := sz_pos (s.f1 + 1)
  have hd : sz (s.f1 + 1) ∣ s.f0 := Int.dvd_trans ⟨2, by omega⟩ h4
  have hle : s.f0 + sz s.f1 ≤ 4294967296 := by
    have : sz s.f1 ∣ 4294967296 := sz_dvd (b := 0) h0 h1
    have : sz s.f1 ≤ 4294967296 - s.f0 := Int.le_of_dvd (by omega) (Int.dvd_sub this h4)
    omega
  exact ⟨⟨by simp; omega, by simp; omega, h2, h3, hd⟩, ⟨by simp; omega, by simp; omega, by simp; omega, by simp; omega, Int.dvd_add hd (Int.dvd_refl _)⟩⟩

/-- What a canonical list covers lies within one of its prefixes. -/
theorem within_one {D : List S26} (hD : Canon D) : ∀ (k : Nat) (s : S26), V s → (32 - s.f1).toNat = k → (∀ x, inP x s → cov D x) → ∃ q ∈ D, wi s q
  | 0, s, hs, hk, hc => by
    obtain ⟨q, hq, hx⟩ := hc s.f0 inP_self
    exact ⟨q, hq, by have := (hD.valid q hq).2.1; omega, hx⟩
  | k + 1, s, hs, hk, hc => by
    have hlt : s.f1 < 32 := by omega
    obtain ⟨v0, v1⟩ := half_valid hs hlt
    have hh := sz_half hlt
    have hp := sz_pos (s.f1 + 1)
    obtain ⟨q0, hq0, hw0⟩ := within_one hD k ⟨s.f0, s.f1 + 1⟩ v0 (by simp; omega) (fun x hx => hc x ⟨hx.1, by have := hx.2; simp only at this; omega⟩)
    obtain ⟨q1, hq1, hw1⟩ := within_one hD k ⟨s.f0 + sz (s.f1 + 1), s.f1 + 1⟩ v1 (by simp; omega) (fun x hx => hc x ⟨by have := hx.1; simp only at this; omega, by have := hx.2; simp only at this; omega⟩)
    have V0 := hD.valid q0 hq0
    have V1 := hD.valid q1 hq1
    by_cases c0 : q0.f1 ≤ s.f1
    · exact ⟨q0, hq0, c0, hw0.2⟩
    by_cases c1 : q1.f1 ≤ s.f1
    · exact ⟨q1, hq1, laminar hs V1 c1 (x := s.f0 + sz (s.f1 + 1)) ⟨by omega, by omega⟩ hw1.2⟩
    · exfalso
      have e0 : q0.f1 = s.f1 + 1 := by have := hw0.1; simp only at this; omega
      have e1 : q1.f1 = s.f1 + 1 := by have := hw1.1; simp only at this; omega
      have s0 : (⟨s.f0, s.f1 + 1⟩ : S26) = q0 := same_of v0 V0 e0.symm inP_self hw0.2
      have s1 : (⟨s.f0 + sz (s.f1 + 1), s.f1 + 1⟩ : S26) = q1 := same_of v1 V1 e1.symm inP_self hw1.2
      refine hD.nosib q0 hq0 q1 hq1 ⟨by omega, by have := hs.1; omega, ?_, ?_⟩
      · rw [← s0, ← s1]
      · rw [← s0]
        show sz (s.f1 + 1 - 1) ∣ s.f0
        rw [show s.f1 + 1 - 1 = s.f1 by omega]
        exact hs.2.2.2.2

theorem lt_irrefl (p : S26) : ¬ lt p p := by unfold lt; omega
theorem lt_trans {p q r : S26} (h1 : lt p q) (h2 : lt q r) : lt p r := by unfold lt at *; omega
theorem lt_total {p q : S26} (h1 : ¬ lt p q) (h2 : ¬ lt q p) : p = q := by
  unfold lt at *
  exact S26.ext' (by omega) (by omega)

theorem sorted_ext : ∀ {C D : List S26}, C.Pairwise lt → D.Pairwise lt → (∀ p, p ∈ C ↔ p ∈ D) → C = D
  | [], [], _, _, _ => rfl
  | [], d :: D, _, _, h => absurd ((h d).2 (by simp)) (by simp)
  | c :: C, [], _, _, h => absurd ((h c).1 (by simp)) (by simp)
  | c :: C, d :: D, hC, hD, h => by
    obtain ⟨hc, hC'⟩ := List.pairwise_cons.1 hC
    obtain ⟨hd, hD'⟩ := List.pairwise_cons.1 hD
    have e : c = d := by
      rcases List.mem_cons.1 ((h c).1 (by simp)) with h1 | h1
      · exact h1
      · rcases List.mem_cons.1 ((h d).2 (by simp)) with h2 | h2
        · exact h2.symm
        · exact absurd (lt_trans (hc d h2) (hd c h1)) (lt_irrefl c)
    subst e
    congr 1
    refine sorted_ext hC' hD' fun p => ?_
    constructor
    · intro hp
      rcases List.mem_cons.1 ((h p).1 (List.mem_cons_of_mem _ hp)) with h1 | h1
      · subst h1; exact absurd (hc p hp) (lt_irrefl p)
      · exact h1
    · intro hp
      rcases List.mem_cons.1 ((h p).2 (List.mem_cons_of_mem _ hp)) with h1 | h1
      · subst h1; exact absurd (hd p hp) (lt_irrefl p)
      · exact h1

theorem canon_unique {C D : List S26} (hC : Canon C) (hD : Canon D) (h : ∀ x, cov C x ↔ cov D x) : C = D := by
  have key : ∀ {A B : List S26}, Canon A → Canon B → (∀ x, cov A x ↔ cov B x) → ∀ p ∈ A, p ∈ B := by
    intro A B hA hB h p hp
    have vp := hA.valid p hp
    obtain ⟨q, hq, hw⟩ := within_one hB _ p vp rfl (fun x hx => (h x).1 ⟨p, hp, hx⟩)
    have vq := hB.valid q hq
    obtain ⟨r, hr, hw2⟩ := within_one hA _ q vq rfl (fun x hx => (h x).2 ⟨q, hq, hx⟩)
    have vr := hA.valid r hr
    have e := hA.flat p hp r hr (wi_trans vp vq vr hw hw2)
    subst e
    rw [wi_antisymm vp vq hw hw2]
    exact hq
  exact sorted_ext hC.sorted hD.sorted fun p => ⟨key hC hD h p, key hD hC (fun x => (h x).symm) p⟩
end Go.Proofs.Ytaplkfnolimdmaa.PC.Cov
