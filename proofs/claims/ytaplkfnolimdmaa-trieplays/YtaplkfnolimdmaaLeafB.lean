/- What the printed Subnet, Common, Cmp and Put of the reference answer, as far as the covers need it. -/
import Derived.Test.YtaplkfnolimdmaaPCx3
import Derived.Test.YtaplkfnolimdmaaLeafA
namespace Go.Proofs.Ytaplkfnolimdmaa.PC.Leaf
open Go.Proofs.YtaplkfnolimdmaaW.Bits Go.RowKit Go.Proofs.Ytaplkfnolimdmaa.PC Go.Proofs.YtaplkfnolimdmaaW.PrintWords Go.Proofs.YtaplkfnolimdmaaW.PrintLast Go.Proofs.Ytaplkfnolimdmaa.PC.Cov
set_option linter.unusedVariables false
set_option linter.unusedSimpArgs false

/-- Halves of one, by quotients. -/
theorem sib_iff {p q : S26} (hp : V p) (hq : V q) (hb : p.f1 = q.f1) (h0 : 0 < p.f1) (hl : lt p q) : sib p q ↔ p.f0 / sz (p.f1 - 1) = q.f0 / sz (p.f1 - 1) := by
  have hs := sz_pos p.f1
  have hh : sz (p.f1 - 1) = sz p.f1 * 2 := by have := sz_half (b := p.f1 - 1) (by have := hp.2.1; omega); rw [this, show p.f1 - 1 + 1 = p.f1 by omega, Int.mul_comm]
  obtain ⟨a, ha⟩ := hp.2.2.2.2
  obtain ⟨b, hb'⟩ := hq.2.2.2.2
  rw [← hb] at hb'
  have hlt : p.f0 < q.f0 := by unfold lt at hl; omega
  have hab : a < b := by
    rw [ha, hb'] at hlt
    exact Int.lt_of_mul_lt_mul_left hlt (by omega)
  rw [hh, ha, hb', Int.mul_ediv_mul_of_pos _ _ hs, Int.mul_ediv_mul_of_pos _ _ hs]
  unfold sib
  rw [hh, ha, hb']
  constructor
  · rintro ⟨_, _, h1, h2⟩
    have e : b = a + 1 := by
      have : sz p.f1 * (a + 1) = sz p.f1 * b := by rw [Int.mul_add, Int.mul_one]; exact h1
      exact (Int.eq_of_mul_eq_mul_left (by omega) this).symm
    have d : (2 : Int) ∣ a := Int.dvd_of_mul_dvd_mul_left (by omega) h2
    omega
  · intro h
    have e : b = a + 1 := by omega
    have d : (2 : Int) ∣ a := by omega
    refine ⟨hb, h0, by rw [e, Int.mul_add, Int.mul_one], Int.mul_dvd_mul_left _ d⟩

theorem par_V {a b : Int} (ha : U a) (h0 : 0 ≤ b) (h1 : b ≤ 32) : V ⟨a - a % sz b, b⟩ := by
  have hs := sz_pos b
  have h2 := Int.emod_nonneg a (show sz b ≠ 0 by omega)
  have h4 := Int.emod_add_mul_ediv a (sz b)
  have h3 := Int.mul_nonneg (show 0 ≤ sz b by omega) (Int.ediv_nonneg ha.1 (show 0 ≤ sz b by omega))
  have := ha.2
  refine ⟨h0, h1, ?_, ?_, Int.dvd_self_sub_emod⟩
  · show 0 ≤ a - a % sz b
    omega
  · show a - a % sz b < 4294967296
    omega
theorem par_in {a b x : Int} (h0 : 0 ≤ b) (h1 : b ≤ 32) : inP x ⟨a - a % sz b, b⟩ ↔ x / sz b = a / sz b := by
  have hs := sz_pos b
  have ea := Int.emod_add_mul_ediv a (sz b)
  have ex := Int.emod_add_mul_ediv x (sz b)
  have rx0 := Int.emod_nonneg x (show sz b ≠ 0 by omega)
  have rx1 := Int.emod_lt_of_pos x hs
  unfold inP
  simp only
  constructor
  · rintro ⟨u, v⟩
    have e : a - a % sz b = sz b * (a / sz b) := by omega
    rw [e] at u v
    have l1 : a / sz b ≤ x / sz b := by
      apply Int.le_ediv_of_mul_le hs
      rw [Int.mul_comm]; exact u
    have l2 : x / sz b < a / sz b + 1 := by
      apply Int.ediv_lt_of_lt_mul hs
      rw [Int.add_mul, Int.one_mul, Int.mul_comm]; exact v
    omega
  · intro h
    rw [h] at ex
    exact ⟨by omega, by omega⟩

theorem ev_Subnet {a b : Int} (ha : U a) (h0 : 0 ≤ b) (h1 : b ≤ 32) : Ev (fun k => waymarkref01_Subnet.f k a b) (a - a % sz b, b, 0) := by
  have hs := sz_bound h0 h1
  have h4 := Int.emod_add_mul_ediv a (sz b)
  have h2 := Int.emod_nonneg a (show sz b ≠ 0 by omega)
  have h3 := Int.ediv_nonneg ha.1 (show 0 ≤ sz b by omega)
  have h5 := Int.mul_nonneg (show 0 ≤ sz b by omega) h3
  have h7 : a / sz b * sz b = sz b * (a / sz b) := Int.mul_comm _ _
  have h6 : a / sz b ≤ a := Int.ediv_le_self _ ha.1
  have := ha.1
  have := ha.2
  unfold waymarkref01_Subnet.f
  refine Ev.neg (by omega) ?_
  refine Ev.step (fun k => by rw [waymarkref01_Subnet.j0]) ?_
  refine Ev.neg (by simp; omega) ?_
  refine Ev.bind (ev_size h0 h1) ?_
  refine Ev.neg (show ¬ sz b = 0 by omega) ?_
  refine Ev.bind (ev_size h0 h1) ?_
  refine Ev.some' ?_
  rw [u64w (n := a) (by omega) (by omega), Int.tdiv_eq_ediv_of_nonneg ha.1, u64w (n := a / sz b) (by omega) (by omega), u64w (n := a / sz b * sz b) (by omega) (by omega)]
  rw [Int.mul_comm]
  refine Prod.ext ?_ rfl
  show sz b * (a / sz b) % 4294967296 = a - a % sz b
  omega

theorem common_l0 {p q : S26} (hp : V p) (hq : V q) (hb : p.f1 = q.f1) (h0 : 0 < p.f1) (hl : lt p q) : ∀ (d : Nat) (i : Int), i.toNat = d → 0 ≤ i → i ≤ 32 →
    ∃ r : Int × Int × Int, Ev (fun k => waymarkref01_Common.l0 k i p.f0 p.f1 q.f0 q.f1) r ∧ (i ≤ p.f1 - 2 → r.2.1 ≤ i) ∧ (p.f1 - 1 ≤ i → (sib p q → r.1 = p.f0 ∧ r.2.1 = p.f1 - 1) ∧ (¬ sib p q → r.2.1 ≠ p.f1 - 1))
  | 0, i, hd, hi0, hi1 => by
    obtain rfl : i = 0 := by omega
    refine ⟨(0, 0, 0), Ev.step (fun k => by rw [waymarkref01_Common.l0]) (Ev.neg (by omega) (Ev.now _)), fun _ => Int.le_refl _, fun h => ?_⟩
    have e : p.f1 - 1 = 0 := by omega
    have hpu := V_U hp
    have hqu := V_U hq
    have q0 : p.f0 / sz (p.f1 - 1) = q.f0 / sz (p.f1 - 1) := by
      rw [e, sz0, Int.ediv_eq_zero_of_lt hpu.1 hpu.2, Int.ediv_eq_zero_of_lt hqu.1 hqu.2]
    have hs := (sib_iff hp hq hb h0 hl).2 q0
    refine ⟨fun _ => ⟨?_, e.symm⟩, fun h => absurd hs h⟩
    obtain ⟨_, _, _, hd⟩ := hs
    rw [e, sz0] at hd
    show 0 = p.f0
    obtain ⟨u, v⟩ := hpu
    omega
  | d + 1, i, hd, hi0, hi1 => by
    have hpu := V_U hp
    have hqu := V_U hq
    obtain ⟨r, hr, r1, r2⟩ := common_l0 hp hq hb h0 hl d (i - 1) (by omega) (by omega) (by omega)
    have hV := par_V (b := i) hpu hi0 hi1
    have hsub := ev_Subnet (b := i) hpu hi0 hi1
    have hin : inP p.f0 ⟨p.f0 - p.f0 % sz i, i⟩ := (par_in hi0 hi1).2 rfl
    have hw := ev_Within (p := p) (q := ⟨p.f0 - p.f0 % sz i, i⟩) hpu (V_U hV)
    have hw2 := ev_Within (p := q) (q := ⟨p.f0 - p.f0 % sz i, i⟩) hqu (V_U hV)
    by_cases c : i ≤ p.f1
    · rw [decide_eq_true (show _ ∧ _ ∧ _ from ⟨chk_of_V hp, chk_of_V hV, c, hin⟩)] at hw
      by_cases c2 : inP q.f0 ⟨p.f0 - p.f0 % sz i, i⟩
      · rw [decide_eq_true (show _ ∧ _ ∧ _ from ⟨chk_of_V hq, chk_of_V hV, by rw [← hb]; exact c, c2⟩)] at hw2
        refine ⟨(p.f0 - p.f0 % sz i, i, 0), Ev.step (fun k => by rw [waymarkref01_Common.l0]) (Ev.pos (by omega) (Ev.bind hsub (Ev.bind hw (Ev.pos rfl (Ev.bind hw2 (Ev.pos rfl (Ev.now _))))))), fun _ => Int.le_refl _, fun h => ?_⟩
        have c3 := (par_in hi0 hi1).1 c2
        by_cases c4 : i = p.f1
        · exfalso
          subst c4
          have hx : inP q.f0 p := by
            have e : p.f0 - p.f0 % sz p.f1 = p.f0 := by rw [Int.emod_eq_zero_of_dvd hp.2.2.2.2]; omega
            rw [e] at c2
            exact c2
          have := same_of hp hq hb hx inP_self
          subst this
          exact lt_irrefl _ hl
        · have c5 : i = p.f1 - 1 := by omega
          have hs := (sib_iff hp hq hb h0 hl).2 (by rw [← c5]; exact c3.symm)
          refine ⟨fun _ => ⟨?_, c5⟩, fun h => absurd hs h⟩
          show p.f0 - p.f0 % sz i = p.f0
          rw [c5, Int.emod_eq_zero_of_dvd hs.2.2.2]
          omega
      · rw [decide_eq_false (fun h => c2 h.2.2.2)] at hw2
        refine ⟨r, Ev.step (fun k => by rw [waymarkref01_Common.l0]) (Ev.pos (by omega) (Ev.bind hsub (Ev.bind hw (Ev.pos rfl (Ev.bind hw2 (Ev.neg Bool.false_ne_true ?_)))))), fun h => ?_, fun h => ?_⟩
        · rw [w64 (by omega) (by omega)]; exact hr
        · have := r1 (by omega); omega
        · by_cases c4 : i = p.f1
          · exact r2 (by omega)
          · have c5 : i = p.f1 - 1 := by omega
            have hn : ¬ sib p q := fun hs => c2 ((par_in hi0 hi1).2 (by rw [c5]; exact ((sib_iff hp hq hb h0 hl).1 hs).symm))
            exact ⟨fun h => absurd h hn, fun _ => by have := r1 (by omega); omega⟩
    · rw [decide_eq_false (fun h => c h.2.2.1)] at hw
      refine ⟨r, Ev.step (fun k => by rw [waymarkref01_Common.l0]) (Ev.pos (by omega) (Ev.bind hsub (Ev.bind hw (Ev.neg Bool.false_ne_true ?_)))), fun h => by omega, fun h => r2 (by omega)⟩
      rw [w64 (by omega) (by omega)]; exact hr

/-- What the reference's Common tells of two prefixes of one length. -/
theorem ev_Common {p q : S26} (hp : V p) (hq : V q) (hb : p.f1 = q.f1) (h0 : 0 < p.f1) (hl : lt p q) :
    ∃ r : Int × Int × Int, Ev (fun k => waymarkref01_Common.f k p.f0 p.f1 q.f0 q.f1) r ∧ (sib p q → r.1 = p.f0 ∧ r.2.1 = p.f1 - 1) ∧ (¬ sib p q → r.2.1 ≠ p.f1 - 1) := by
  have hpu := V_U hp
  have hqu := V_U hq
  obtain ⟨r, hr, _, h2⟩ := common_l0 hp hq hb h0 hl _ 32 rfl (by omega) (by omega)
  have h2 := h2 (by have := hp.2.1; omega)
  refine ⟨r, ?_, h2.1, h2.2⟩
  have c1 := ev_Check p.f0 p.f1 hpu.1 hpu.2
  rw [chk_of_V hp] at c1
  have c2 := ev_Check q.f0 q.f1 hqu.1 hqu.2
  rw [chk_of_V hq] at c2
  unfold waymarkref01_Common.f
  exact Ev.bind c1 (Ev.pos rfl (Ev.bind c2 (Ev.step (fun k => by rw [waymarkref01_Common.j0]) (Ev.pos rfl hr))))

instance decLt (p q : S26) : Decidable (lt p q) := inferInstanceAs (Decidable (_ ∨ _))
instance decEqS (p q : S26) : Decidable (p = q) := decidable_of_iff (p.f0 = q.f0 ∧ p.f1 = q.f1) ⟨fun h => S26.ext' h.1 h.2, fun h => by rw [h]; exact ⟨rfl, rfl⟩⟩
def cmpP (p q : S26) : Int := if lt p q then -1 else if p = q then 0 else 1
theorem ev_Cmp (p q : S26) : Ev (fun k => waymarkref01_Cmp.f k p.f0 p.f1 q.f0 q.f1) (cmpP p q) := by
  unfold waymarkref01_Cmp.f cmpP
  have fin : ∀ b : Bool, (b = true ↔ lt p q) → Ev (fun k => waymarkref01_Cmp.j0 k b p.f0 p.f1 q.f0 q.f1) (if lt p q then -1 else if p = q then 0 else 1) := by
    intro b hb
    refine Ev.step (fun k => by rw [waymarkref01_Cmp.j0]) ?_
    by_cases c : b = true
    · exact Ev.pos c (Ev.some' (if_pos (hb.1 c)).symm)
    · refine Ev.neg c ?_
      rw [if_neg (fun h => c (hb.2 h))]
      by_cases d : p.f0 = q.f0
      · refine Ev.pos d ?_
        by_cases e : p.f1 = q.f1
        · exact Ev.pos e (Ev.some' (if_pos (S26.ext' d e)).symm)
        · exact Ev.neg e (Ev.some' (if_neg (fun h => e (by rw [h]))).symm)
      · exact Ev.neg d (Ev.some' (if_neg (fun h => d (by rw [h]))).symm)
  by_cases c : p.f0 < q.f0
  · exact Ev.pos c (fin _ ⟨fun _ => Or.inl c, fun _ => rfl⟩)
  · refine Ev.neg c ?_
    by_cases d : p.f0 = q.f0
    · exact Ev.pos d (fin _ (by unfold lt; rw [decide_eq_true_iff]; omega))
    · exact Ev.neg d (fin _ (by unfold lt; simp; omega))

/-- The rows of a list of prefixes. -/
def R (p : S26) : S101 := ⟨p, 0⟩
theorem rd_R (pre : List S26) (q : S26) (t : List S26) : rd_T101 ((pre ++ q :: t).map R) (pre.length : Int) = R q := by
  unfold rd_T101
  rw [List.getD_eq_getElem?_getD, Int.toNat_natCast, List.getElem?_map, List.getElem?_append_right (Nat.le_refl _), Nat.sub_self]
  rfl
/-- Set a prefix into an ordered list. -/
def oins (p : S26) : List S26 → List S26
  | [] => [p]
  | q :: t => if lt p q then p :: q :: t else if p = q then q :: t else q :: oins p t
theorem oins_mem {p x : S26} : ∀ {l : List S26}, x ∈ oins p l ↔ x = p ∨ x ∈ l
  | [] => by simp [oins]
  | q :: t => by
    unfold oins
    split
    · simp
    · split
      · rename_i h; subst h; simp
      · simp only [List.mem_cons, oins_mem (l := t)]
        constructor
        · rintro (h | h | h) <;> simp [h]
        · rintro (h | h | h) <;> simp [h]
theorem oins_len {p : S26} : ∀ {l : List S26}, (oins p l).length ≤ l.length + 1
  | [] => by simp [oins]
  | q :: t => by
    have := oins_len (p := p) (l := t)
    unfold oins
    split
    · simp
    · split
      · simp
      · simp; omega
theorem oins_sorted {p : S26} : ∀ {l : List S26}, l.Pairwise lt → (oins p l).Pairwise lt
  | [], _ => by simp [oins]
  | q :: t, h => by
    obtain ⟨hq, ht⟩ := List.pairwise_cons.1 h
    unfold oins
    split
    · rename_i c
      refine List.pairwise_cons.2 ⟨fun x hx => ?_, h⟩
      rcases List.mem_cons.1 hx with e | e
      · rw [e]; exact c
      · exact lt_trans c (hq x e)
    · split
      · exact h
      · rename_i c1 c2
        refine List.pairwise_cons.2 ⟨fun x hx => ?_, oins_sorted ht⟩
        rcases oins_mem.1 hx with e | e
        · subst e
          apply Classical.byContradiction
          intro h3
          exact c2 (lt_total c1 h3)
        · exact hq x e

theorem lt_asymm {p q : S26} (h : lt p q) : ¬ lt q p := fun h2 => lt_irrefl p (lt_trans h h2)

theorem put_true (p : S26) : ∀ (suf pre out : List S26), (∀ q ∈ suf, lt p q) → pre.length + suf.length ≤ 1000 → out.length + suf.length ≤ 2000 →
    Ev (fun k => waymarkref04_Put.l0 k ((pre ++ suf).map R) 0 (out.map R) true (pre.length : Int) p.f0 p.f1) ((out ++ suf).map R, 0)
  | [], pre, out, _, h1, h2 => by
    refine Ev.step (fun k => by rw [waymarkref04_Put.l0]) ?_
    refine Ev.neg (by simp) ?_
    refine Ev.pos rfl ?_
    refine Ev.some' ?_
    simp
  | q :: t, pre, out, hl, h1, h2 => by
    simp only [List.length_cons] at h1 h2
    have hq := hl q (by simp)
    have hc := ev_Cmp p q
    have ec : cmpP p q = -1 := by unfold cmpP; rw [if_pos hq]
    rw [ec] at hc
    have ih := put_true p t (pre ++ [q]) (out ++ [q]) (fun x hx => hl x (by simp [hx])) (by simp; omega) (by simp; omega)
    have hrd := rd_R pre q t
    refine Ev.step (fun k => by rw [waymarkref04_Put.l0, hrd]) ?_
    refine Ev.pos (by simp; omega) ?_
    refine Ev.pos (by omega) ?_
    refine Ev.bind hc ?_
    refine Ev.pos (by omega) ?_
    refine Ev.step (fun k => by rw [waymarkref04_Put.j1, hrd]) ?_
    refine Ev.neg (by simp) ?_
    refine Ev.neg (by omega) ?_
    refine Ev.pos (by omega) ?_
    refine Ev.pos (by simp; omega) ?_
    refine Ev.pos (by simp; omega) ?_
    rw [w64 (by omega) (by omega)]
    simp only [List.append_assoc, List.cons_append, List.nil_append, List.length_append, List.length_cons, List.length_nil, List.map_append, List.map_cons, List.map_nil, Nat.zero_add, Int.natCast_add, Int.natCast_one] at ih ⊢
    exact ih

theorem put_false (p : S26) : ∀ (suf pre out : List S26), suf.Pairwise lt → pre.length + suf.length ≤ 1000 → out.length + suf.length ≤ 1999 →
    Ev (fun k => waymarkref04_Put.l0 k ((pre ++ suf).map R) 0 (out.map R) false (pre.length : Int) p.f0 p.f1) ((out ++ oins p suf).map R, 0)
  | [], pre, out, _, h1, h2 => by
    refine Ev.step (fun k => by rw [waymarkref04_Put.l0]) ?_
    refine Ev.neg (by simp) ?_
    refine Ev.neg (by simp) ?_
    refine Ev.pos (by simp at h2 ⊢; omega) ?_
    refine Ev.some' ?_
    simp [oins, R]
  | q :: t, pre, out, hl, h1, h2 => by
    simp only [List.length_cons] at h1 h2
    obtain ⟨hq, ht⟩ := List.pairwise_cons.1 hl
    have hc := ev_Cmp p q
    have hrd := rd_R pre q t
    unfold oins
    by_cases c1 : lt p q
    · have ec : cmpP p q = -1 := by unfold cmpP; rw [if_pos c1]
      rw [ec] at hc
      rw [if_pos c1]
      have ih := put_true p t (pre ++ [q]) (out ++ [p, q]) (fun x hx => lt_trans c1 (hq x hx)) (by simp; omega) (by simp; omega)
      refine Ev.step (fun k => by rw [waymarkref04_Put.l0, hrd]) ?_
      refine Ev.pos (by simp; omega) ?_
      refine Ev.pos (by omega) ?_
      refine Ev.bind hc ?_
      refine Ev.pos (by omega) ?_
      refine Ev.step (fun k => by rw [waymarkref04_Put.j1, hrd]) ?_
      refine Ev.pos rfl ?_
      refine Ev.pos (by simp; omega) ?_
      refine Ev.bind (Ev.now _) ?_
      refine Ev.neg (by omega) ?_
      refine Ev.pos (by omega) ?_
      refine Ev.pos (by simp; omega) ?_
      refine Ev.pos (by simp; omega) ?_
      rw [w64 (by omega) (by omega)]
      simp only [List.append_assoc, List.cons_append, List.nil_append, List.length_append, List.length_cons, List.length_nil, List.map_append, List.map_cons, List.map_nil, Nat.zero_add, Int.natCast_add, Int.natCast_one] at ih ⊢
      exact ih
    · rw [if_neg c1]
      by_cases c2 : p = q
      · have ec : cmpP p q = 0 := by unfold cmpP; rw [if_neg c1, if_pos c2]
        rw [ec] at hc
        rw [if_pos c2]
        have ih := put_true p t (pre ++ [q]) (out ++ [p]) (fun x hx => by rw [c2]; exact hq x hx) (by simp; omega) (by simp; omega)
        refine Ev.step (fun k => by rw [waymarkref04_Put.l0, hrd]) ?_
        refine Ev.pos (by simp; omega) ?_
        refine Ev.pos (by omega) ?_
        refine Ev.bind hc ?_
        refine Ev.pos (by omega) ?_
        refine Ev.step (fun k => by rw [waymarkref04_Put.j1, hrd]) ?_
        refine Ev.pos rfl ?_
        refine Ev.pos (by simp; omega) ?_
        refine Ev.bind (Ev.now _) ?_
        refine Ev.pos (by omega) ?_
        rw [w64 (by omega) (by omega)]
        simp only [List.append_assoc, List.cons_append, List.nil_append, List.length_append, List.length_cons, List.length_nil, List.map_append, List.map_cons, List.map_nil, Nat.zero_add, Int.natCast_add, Int.natCast_one] at ih ⊢
        rw [← c2] at ih ⊢
        exact ih
      · have ec : cmpP p q = 1 := by unfold cmpP; rw [if_neg c1, if_neg c2]
        rw [ec] at hc
        rw [if_neg c2]
        have ih := put_false p t (pre ++ [q]) (out ++ [q]) ht (by simp; omega) (by simp; omega)
        refine Ev.step (fun k => by rw [waymarkref04_Put.l0, hrd]) ?_
        refine Ev.pos (by simp; omega) ?_
        refine Ev.pos (by omega) ?_
        refine Ev.bind hc ?_
        refine Ev.neg (by omega) ?_
        refine Ev.step (fun k => by rw [waymarkref04_Put.j1, hrd]) ?_
        refine Ev.neg (by simp) ?_
        refine Ev.neg (by omega) ?_
        refine Ev.pos (by omega) ?_
        refine Ev.pos (by simp; omega) ?_
        refine Ev.pos (by simp; omega) ?_
        rw [w64 (by omega) (by omega)]
        simp only [List.append_assoc, List.cons_append, List.nil_append, List.length_append, List.length_cons, List.length_nil, List.map_append, List.map_cons, List.map_nil, Nat.zero_add, Int.natCast_add, Int.natCast_one] at ih ⊢
        exact ih

/-- What the reference's Put answers for an ordered list of rows without numbers. -/
theorem ev_Put {p : S26} {l : List S26} (hu : U p.f0) (hl : l.Pairwise lt) (hn : l.length ≤ 900) :
    Ev (fun k => waymarkref04_Put.f k (l.map R) p.f0 p.f1 0) (if chk p.f0 p.f1 = 0 then ((oins p l).map R, 0) else (l.map R, chk p.f0 p.f1)) := by
  have c1 := ev_Check p.f0 p.f1 hu.1 hu.2
  unfold waymarkref04_Put.f
  refine Ev.bind c1 ?_
  by_cases c : chk p.f0 p.f1 = 0
  · rw [if_pos c]
    exact Ev.pos c (put_false p l [] [] hl (by simp; omega) (by simp; omega))
  · rw [if_neg c]
    exact Ev.neg c (Ev.now _)
end Go.Proofs.Ytaplkfnolimdmaa.PC.Leaf
