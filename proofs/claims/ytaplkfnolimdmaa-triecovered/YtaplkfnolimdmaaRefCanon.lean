/- The reference's Cover, as plain mathematics: rounds end, and what rests is canonical. -/
import Derived.Test.YtaplkfnolimdmaaRefCover
namespace Go.Proofs.Ytaplkfnolimdmaa.PC.Leaf
open Go.Proofs.YtaplkfnolimdmaaW.Bits Go.RowKit Go.Proofs.Ytaplkfnolimdmaa.PC Go.Proofs.YtaplkfnolimdmaaW.PrintWords Go.Proofs.YtaplkfnolimdmaaW.PrintLast Go.Proofs.Ytaplkfnolimdmaa.PC.Cov
set_option linter.unusedVariables false
set_option linter.unusedSimpArgs false

theorem sib_whole {p q : S26} (hp : V p) (hq : V q) (h : sib p q) : V ⟨p.f0, p.f1 - 1⟩ ∧ wi p ⟨p.f0, p.f1 - 1⟩ ∧ wi q ⟨p.f0, p.f1 - 1⟩ ∧ ∀ x, inP x ⟨p.f0, p.f1 - 1⟩ → inP x p ∨ inP x q := by
  obtain ⟨h1, h2, h3, h4⟩ := h
  obtain ⟨a1, a2, a3, a4, a5⟩ := hp
  have hh : sz (p.f1 - 1) = 2 * sz p.f1 := by have := sz_half (b := p.f1 - 1) (by omega); rw [this, show p.f1 - 1 + 1 = p.f1 by omega]
  have hs := sz_pos p.f1
  refine ⟨⟨by simp; omega, by simp; omega, a3, a4, h4⟩, ⟨by simp; omega, ?_⟩, ⟨by simp; omega, ?_⟩, fun x hx => ?_⟩
  · unfold inP; simp only; omega
  · unfold inP; simp only; omega
  · unfold inP at hx ⊢
    simp only at hx
    rw [← h1]
    omega

theorem rnd_len (L : List S26) : ∀ suf : List S26, (rnd L suf).1.length + (if (rnd L suf).2 = true then 1 else 0) ≤ suf.length
  | [] => by simp [rnd]
  | [p] => by unfold rnd; split <;> simp
  | p :: q :: t => by
    have h1 := rnd_len L (q :: t)
    have h2 := rnd_len L t
    unfold rnd
    split
    · simp only [List.length_cons, if_true] at h1 ⊢
      omega
    · split
      · simp only [List.length_cons, if_true] at h2 ⊢
        omega
      · simp only [List.length_cons] at h1 ⊢
        omega
theorem rnd_valid (L : List S26) : ∀ suf : List S26, (∀ p ∈ suf, V p) → ∀ y ∈ (rnd L suf).1, V y
  | [], _, y, hy => by simp [rnd] at hy
  | [p], hv, y, hy => by
    unfold rnd at hy
    split at hy
    · simp at hy
    · exact hv y hy
  | p :: q :: t, hv, y, hy => by
    have h1 := rnd_valid L (q :: t) (fun x hx => hv x (List.mem_cons_of_mem _ hx))
    have h2 := rnd_valid L t (fun x hx => hv x (List.mem_cons_of_mem _ (List.mem_cons_of_mem _ hx)))
    unfold rnd at hy
    split at hy
    · exact h1 y hy
    · split at hy
      · rename_i hs
        rcases List.mem_cons.1 hy with e | e
        · rw [e]; exact (sib_whole (hv p (by simp)) (hv q (by simp)) hs).1
        · exact h2 y e
      · rcases List.mem_cons.1 hy with e | e
        · rw [e]; exact hv p (by simp)
        · exact h1 y e
theorem rnd_sub (L : List S26) : ∀ suf : List S26, (∀ p ∈ suf, V p) → ∀ y ∈ (rnd L suf).1, ∀ x, inP x y → cov suf x
  | [], _, y, hy, _, _ => by simp [rnd] at hy
  | [p], hv, y, hy, x, hx => by
    unfold rnd at hy
    split at hy
    · simp at hy
    · exact ⟨y, hy, hx⟩
  | p :: q :: t, hv, y, hy, x, hx => by
    have up1 : cov (q :: t) x → cov (p :: q :: t) x := fun ⟨z, h1, h2⟩ => ⟨z, List.mem_cons_of_mem _ h1, h2⟩
    have up2 : cov t x → cov (p :: q :: t) x := fun ⟨z, h1, h2⟩ => ⟨z, List.mem_cons_of_mem _ (List.mem_cons_of_mem _ h1), h2⟩
    have h1 := fun h => up1 (rnd_sub L (q :: t) (fun x hx => hv x (List.mem_cons_of_mem _ hx)) y h x hx)
    have h2 := fun h => up2 (rnd_sub L t (fun x hx => hv x (List.mem_cons_of_mem _ (List.mem_cons_of_mem _ hx))) y h x hx)
    unfold rnd at hy
    split at hy
    · exact h1 hy
    · split at hy
      · rename_i hs
        rcases List.mem_cons.1 hy with e | e
        · rw [e] at hx
          rcases (sib_whole (hv p (by simp)) (hv q (by simp)) hs).2.2.2 x hx with h | h
          · exact ⟨p, by simp, h⟩
          · exact ⟨q, by simp, h⟩
        · exact h2 e
      · rcases List.mem_cons.1 hy with e | e
        · rw [e] at hx; exact ⟨p, by simp, hx⟩
        · exact h1 e
theorem rnd_keeps (L : List S26) : ∀ suf : List S26, (∀ p ∈ suf, V p) → ∀ p ∈ suf, ¬ inn L p → ∃ y ∈ (rnd L suf).1, wi p y
  | [], _, p, hp, _ => by simp at hp
  | [a], hv, p, hp, hn => by
    obtain rfl : p = a := by simpa using hp
    refine ⟨p, ?_, wi_refl p⟩
    simp [rnd, hn]
  | a :: q :: t, hv, p, hp, hn => by
    have h1 := rnd_keeps L (q :: t) (fun x hx => hv x (List.mem_cons_of_mem _ hx)) p
    have h2 := rnd_keeps L t (fun x hx => hv x (List.mem_cons_of_mem _ (List.mem_cons_of_mem _ hx))) p
    unfold rnd
    rcases List.mem_cons.1 hp with e | e
    · subst e
      rw [if_neg hn]
      split
      · rename_i hs
        exact ⟨_, List.mem_cons_self, (sib_whole (hv p (by simp)) (hv q (by simp)) hs).2.1⟩
      · exact ⟨p, List.mem_cons_self, wi_refl p⟩
    · split
      · exact h1 e hn
      · split
        · rename_i hs
          rcases List.mem_cons.1 e with e2 | e2
          · subst e2
            exact ⟨_, List.mem_cons_self, (sib_whole (hv a (by simp)) (hv p (by simp)) hs).2.2.1⟩
          · obtain ⟨y, hy, hw⟩ := h2 e2 hn
            exact ⟨y, List.mem_cons_of_mem _ hy, hw⟩
        · obtain ⟨y, hy, hw⟩ := h1 e hn
          exact ⟨y, List.mem_cons_of_mem _ hy, hw⟩
theorem rnd_quiet (L : List S26) : ∀ suf : List S26, (rnd L suf).2 = false → (rnd L suf).1 = suf ∧ (∀ p ∈ suf, ¬ inn L p) ∧ ∀ a p q b, suf = a ++ p :: q :: b → ¬ sib p q
  | [], _ => ⟨rfl, by simp, fun a p q b h => by cases a <;> simp at h⟩
  | [c], h => by
    unfold rnd at h ⊢
    split at h
    · cases h
    · rename_i hc
      rw [if_neg hc]
      refine ⟨rfl, by simpa using hc, fun a p q b h => ?_⟩
      cases a with
      | nil => simp at h
      | cons _ a => cases a <;> simp at h
  | c :: d :: t, h => by
    have h1 := rnd_quiet L (d :: t)
    unfold rnd at h ⊢
    split at h
    · cases h
    · rename_i hc
      split at h
      · cases h
      · rename_i hs
        rw [if_neg hc, if_neg hs]
        obtain ⟨e, f, g⟩ := h1 h
        refine ⟨by simp only; rw [e], ?_, fun a p q b h => ?_⟩
        · intro p hp
          rcases List.mem_cons.1 hp with e2 | e2
          · rw [e2]; exact hc
          · exact f p e2
        · cases a with
          | nil =>
            simp only [List.nil_append, List.cons.injEq] at h
            rw [← h.1, ← h.2.1]
            exact hs
          | cons _ a =>
            simp only [List.cons_append, List.cons.injEq] at h
            exact g a p q b h.2

theorem least_of {L : List S26} {x : Int} : ∀ (n : Nat) (p : S26), p ∈ L → inP x p → V p → (∀ q ∈ L, V q) → p.f1.toNat ≤ n → ∃ r ∈ L, inP x r ∧ ∀ s ∈ L, inP x s → r.f1 ≤ s.f1
  | n, p, hp, hx, hv, hV, hn => by
    apply Classical.byContradiction
    intro hno
    have hex : ∃ s ∈ L, inP x s ∧ s.f1 < p.f1 := by
      apply Classical.byContradiction
      intro h2
      exact hno ⟨p, hp, hx, fun s hs hxs => by
        rcases Int.lt_or_le s.f1 p.f1 with h | h
        · exact absurd ⟨s, hs, hxs, h⟩ h2
        · exact h⟩
    obtain ⟨s, hs, hxs, hlt⟩ := hex
    have vs := hV s hs
    have := vs.1
    cases n with
    | zero => omega
    | succ n => exact hno (least_of n s hs hxs vs hV (by omega))

theorem rnd_cov {L : List S26} (hV : ∀ p ∈ L, V p) (x : Int) : cov (rnd L L).1 x ↔ cov L x := by
  constructor
  · rintro ⟨y, hy, hx⟩
    exact rnd_sub L L hV y hy x hx
  · rintro ⟨p, hp, hx⟩
    obtain ⟨r, hr, hxr, hl⟩ := least_of _ p hp hx (hV p hp) hV (Nat.le_refl _)
    have hni : ¬ inn L r := by
      rintro ⟨s, hs, hne, hw⟩
      have hxs := wi_in (hV r hr) (hV s hs) hw hxr
      have h1 := hl s hs hxs
      have h2 := hw.1
      exact hne (same_of (hV s hs) (hV r hr) (by omega) hxs hxr)
    obtain ⟨y, hy, hw⟩ := rnd_keeps L L hV r hr hni
    exact ⟨y, hy, wi_in (hV r hr) (rnd_valid L L hV y hy) hw hxr⟩

theorem quiet_canon {L : List S26} (hV : ∀ p ∈ L, V p) (hS : L.Pairwise lt) (h : (rnd L L).2 = false) : Canon L := by
  obtain ⟨_, f, g⟩ := rnd_quiet L L h
  have flat : ∀ p ∈ L, ∀ q ∈ L, wi p q → p = q := by
    intro p hp q hq hw
    apply Classical.byContradiction
    intro hne
    exact f p hp ⟨q, hq, fun e => hne e.symm, hw⟩
  refine ⟨hV, hS, flat, fun p hp q hq hs => ?_⟩
  obtain ⟨a, b, rfl⟩ := List.append_of_mem hp
  obtain ⟨h1, h2, h3⟩ := List.pairwise_append.1 hS
  obtain ⟨h4, h5⟩ := List.pairwise_cons.1 h2
  have hsp := sz_pos p.f1
  have hpq : lt p q := Or.inl (by have := hs.2.2.1; omega)
  have hqb : q ∈ b := by
    rcases List.mem_append.1 hq with e | e
    · exact absurd (h3 q e p (by simp)) (lt_asymm hpq)
    · rcases List.mem_cons.1 e with e2 | e2
      · subst e2; exact absurd hpq (lt_irrefl _)
      · exact e2
  cases b with
  | nil => simp at hqb
  | cons r b =>
    have hr : r ∈ a ++ p :: r :: b := by simp
    by_cases e : q = r
    · subst e
      exact g a p q b rfl hs
    · have hrq : lt r q := by
        rcases List.mem_cons.1 hqb with e2 | e2
        · exact absurd e2 e
        · exact (List.pairwise_cons.1 h5).1 q e2
      have hpr : lt p r := h4 r (by simp)
      have hVr := hV r hr
      have hVp := hV p hp
      have hVq := hV q hq
      have hq0 := hs.2.2.1
      have hb := hs.1
      by_cases c1 : inP r.f0 p
      · rcases Int.lt_or_le r.f1 p.f1 with c2 | c2
        · have := flat p hp r hr (laminar hVp hVr (by omega) c1 inP_self)
          subst this; exact lt_irrefl _ hpr
        · have := flat r hr p hp ⟨c2, c1⟩
          subst this; exact lt_irrefl _ hpr
      · unfold inP at c1
        unfold lt at hpr hrq
        have e0 : r.f0 = q.f0 := by omega
        have := flat q hq r hr ⟨by omega, by rw [← e0]; exact inP_self⟩
        exact e this

theorem ref_rounds : ∀ (n : Nat) (L : List S26), L.length ≤ n → (∀ p ∈ L, V p) → L.Pairwise lt → L.length ≤ 400 →
    ∃ C, Canon C ∧ (∀ x, cov C x ↔ cov L x) ∧ C.length ≤ L.length ∧ Ev (fun k => waymarkref04_Cover.l1 k (L.map R)) C
  | n, L, hn, hV, hS, hl => by
    have hlen := rnd_len L L
    have start : ∀ {C}, Ev (fun k => waymarkref04_Cover.l2 k (L.map R) ((rnd L L).1.map R) (rnd L L).2 (L.length : Int)) C → Ev (fun k => waymarkref04_Cover.l1 k (L.map R)) C := by
      intro C hC
      refine Ev.step (fun k => by rw [waymarkref04_Cover.l1]) ?_
      exact l2_walk hV hS (by omega) L.length L [] [] false (Nat.le_refl _) rfl (by simp; omega) (by simpa using hC)
    cases ht : (rnd L L).2 with
    | false =>
      have e := (rnd_quiet L L ht).1
      refine ⟨L, quiet_canon hV hS ht, fun x => Iff.rfl, Nat.le_refl _, start ?_⟩
      rw [ht, e]
      refine Ev.step (fun k => by rw [waymarkref04_Cover.l2]) (Ev.neg (by simp) (Ev.neg Bool.false_ne_true ?_))
      have := l5_walk hl L [] [] rfl (by simp; omega)
      simpa using this
    | true =>
      rw [ht] at hlen
      simp only [if_true] at hlen
      have hv2 := rnd_valid L L hV
      have hll := insAll_len (l := (rnd L L).1) (acc := [])
      simp only [List.length_nil, Nat.zero_add] at hll
      cases n with
      | zero => omega
      | succ n =>
        obtain ⟨C, c1, c2, c3, c4⟩ := ref_rounds n (insAll [] (rnd L L).1) (by omega) (fun p hp => by
          rcases insAll_mem.1 hp with h | h
          · simp at h
          · exact hv2 p h.1) (insAll_sorted (by simp)) (by omega)
        refine ⟨C, c1, fun x => ?_, by omega, start ?_⟩
        · rw [c2, ← rnd_cov hV]
          constructor
          · rintro ⟨p, hp, hx⟩
            rcases insAll_mem.1 hp with h | h
            · simp at h
            · exact ⟨p, h.1, hx⟩
          · rintro ⟨p, hp, hx⟩
            exact ⟨p, insAll_mem.2 (Or.inr ⟨hp, chk_of_V (hv2 p hp)⟩), hx⟩
        · rw [ht]
          refine Ev.step (fun k => by rw [waymarkref04_Cover.l2]) (Ev.neg (by simp) (Ev.pos rfl ?_))
          have := l4_walk (L := (rnd L L).1) (by omega) (rnd L L).1 [] [] rfl (fun p hp => V_U (hv2 p hp)) (by simp) (by simp; omega) c4
          simpa using this

/-- What the reference's Cover answers. -/
theorem ref_cover {l : List S26} (hl : l.length ≤ 200) (hu : ∀ p ∈ l, U p.f0) :
    ∃ C, Canon C ∧ (∀ x, cov C x ↔ ∃ p ∈ l, chk p.f0 p.f1 = 0 ∧ inP x p) ∧ C.length ≤ l.length ∧ Ev (fun k => waymarkref04_Cover.f k l) C := by
  have hll := insAll_len (l := l) (acc := [])
  simp only [List.length_nil, Nat.zero_add] at hll
  obtain ⟨C, c1, c2, c3, c4⟩ := ref_rounds _ (insAll [] l) (Nat.le_refl _) (fun p hp => by
    rcases insAll_mem.1 hp with h | h
    · simp at h
    · exact V_of (hu p h.1) h.2) (insAll_sorted (by simp)) (by omega)
  refine ⟨C, c1, fun x => ?_, by omega, ?_⟩
  · rw [c2]
    constructor
    · rintro ⟨p, hp, hx⟩
      rcases insAll_mem.1 hp with h | h
      · simp at h
      · exact ⟨p, h.1, h.2, hx⟩
    · rintro ⟨p, hp, h, hx⟩
      exact ⟨p, insAll_mem.2 (Or.inr ⟨hp, h⟩), hx⟩
  · unfold waymarkref04_Cover.f
    have := l0_walk (L := l) (by omega) l [] [] rfl hu (by simp) (by simp; omega) c4
    simpa using this
end Go.Proofs.Ytaplkfnolimdmaa.PC.Leaf
