/- The reference's Cover answers the canonical list of what it was given. -/
import Derived.Test.YtaplkfnolimdmaaPCx4
import Derived.Test.YtaplkfnolimdmaaLeafB
namespace Go.Proofs.Ytaplkfnolimdmaa.PC.Leaf
open Go.Proofs.YtaplkfnolimdmaaW.Bits Go.RowKit Go.Proofs.Ytaplkfnolimdmaa.PC Go.Proofs.YtaplkfnolimdmaaW.PrintWords Go.Proofs.YtaplkfnolimdmaaW.PrintLast Go.Proofs.Ytaplkfnolimdmaa.PC.Cov
set_option linter.unusedVariables false
set_option linter.unusedSimpArgs false

theorem rd_26 (pre : List S26) (q : S26) (t : List S26) : rd_T26 (pre ++ q :: t) (pre.length : Int) = q := by
  unfold rd_T26
  rw [List.getD_eq_getElem?_getD, Int.toNat_natCast, List.getElem?_append_right (Nat.le_refl _), Nat.sub_self]
  rfl
theorem rd_R1 (pre : List S26) (p q : S26) (t : List S26) : rd_T101 ((pre ++ p :: q :: t).map R) ((pre.length : Int) + 1) = R q := by
  have := rd_R (pre ++ [p]) q t
  simpa using this

/-- Is it in another one? -/
def inn (L : List S26) (p : S26) : Prop := ∃ q ∈ L, q ≠ p ∧ wi p q
instance (L : List S26) (p : S26) : Decidable (inn L p) := List.decidableBEx _ _

open Classical in
/-- The inner loop: whether the i-th is in another one. -/
theorem l3_walk {L : List S26} (hV : ∀ p ∈ L, V p) (hn : L.length ≤ 900) (pre : List S26) (p : S26) (t : List S26) (hL : L = pre ++ p :: t) {x5 : List S101} {x6 : Bool} {r : List S26} :
    ∀ (suf pre2 : List S26) (b : Bool), L = pre2 ++ suf →
      Ev (fun k => waymarkref04_Cover.l3 k (L.map R) x5 x6 (pre.length : Int) (decide (b = true ∨ ∃ m : Nat, pre2.length ≤ m ∧ m ≠ pre.length ∧ ∃ q, L[m]? = some q ∧ wi p q)) (L.length : Int)) r →
      Ev (fun k => waymarkref04_Cover.l3 k (L.map R) x5 x6 (pre.length : Int) b (pre2.length : Int)) r
  | [], pre2, b, h2, hr => by
    have e : decide (b = true ∨ ∃ m : Nat, pre2.length ≤ m ∧ m ≠ pre.length ∧ ∃ q, L[m]? = some q ∧ wi p q) = b := by
      have : ¬ ∃ m : Nat, pre2.length ≤ m ∧ m ≠ pre.length ∧ ∃ q, L[m]? = some q ∧ wi p q := by
        rintro ⟨m, h1, _, q, h3, _⟩
        rw [h2, List.append_nil, List.getElem?_eq_none h1] at h3
        cases h3
      cases b <;> simp [this]
    rw [e] at hr
    have : L.length = pre2.length := by rw [h2]; simp
    rw [← this]
    exact hr
  | q :: suf, pre2, b, h2, hr => by
    have hl1 : L.length = pre2.length + suf.length + 1 := by rw [h2]; simp; omega
    have hl2 : L.length = pre.length + t.length + 1 := by rw [hL]; simp; omega
    have hrq : rd_T101 (L.map R) (pre2.length : Int) = R q := by rw [h2]; exact rd_R pre2 q suf
    have hrp : rd_T101 (L.map R) (pre.length : Int) = R p := by rw [hL]; exact rd_R pre p t
    have hq : L[pre2.length]? = some q := by rw [h2, List.getElem?_append_right (Nat.le_refl _), Nat.sub_self]; rfl
    have hp : L[pre.length]? = some p := by rw [hL, List.getElem?_append_right (Nat.le_refl _), Nat.sub_self]; rfl
    have vq : V q := hV q (by rw [h2]; simp)
    have vp : V p := hV p (by rw [hL]; simp)
    have ih := fun b' => l3_walk hV hn pre p t hL (x5 := x5) (x6 := x6) (r := r) suf (pre2 ++ [q]) b' (by rw [h2]; simp)
    have el : ((pre2 ++ [q]).length : Int) = (pre2.length : Int) + 1 := by simp
    have en : (pre2 ++ [q]).length = pre2.length + 1 := by simp
    rw [el, en] at ih
    refine Ev.step (fun k => by rw [waymarkref04_Cover.l3, hrq, hrp]) ?_
    refine Ev.pos (by simp; omega) ?_
    rw [w64 (by omega) (by omega)]
    by_cases cb : b = true
    · refine Ev.pos cb (ih true ?_)
      rw [decide_eq_true (Or.inl rfl)]
      rw [decide_eq_true (Or.inl cb)] at hr
      exact hr
    · refine Ev.neg cb ?_
      have cb' : b = false := by simpa using cb
      subst cb'
      by_cases ce : (pre2.length : Int) = (pre.length : Int)
      · refine Ev.pos ce (ih false ?_)
        have : (false = true ∨ ∃ m : Nat, pre2.length + 1 ≤ m ∧ m ≠ pre.length ∧ ∃ q, L[m]? = some q ∧ wi p q) ↔ (false = true ∨ ∃ m : Nat, pre2.length ≤ m ∧ m ≠ pre.length ∧ ∃ q, L[m]? = some q ∧ wi p q) := by
          constructor
          · rintro (h | ⟨m, h1, h2⟩)
            · exact Or.inl h
            · exact Or.inr ⟨m, by omega, h2⟩
          · rintro (h | ⟨m, h1, h2, h3⟩)
            · exact Or.inl h
            · exact Or.inr ⟨m, by omega, h2, h3⟩
        rw [decide_eq_decide.2 this]
        exact hr
      · refine Ev.neg ce ?_
        have hw := ev_Within (p := p) (q := q) (V_U vp) (V_U vq)
        refine Ev.pos (by omega) ?_
        refine Ev.pos (by simp; omega) ?_
        refine Ev.pos (by omega) ?_
        refine Ev.bind hw ?_
        refine ih _ ?_
        have : (decide (chk p.f0 p.f1 = 0 ∧ chk q.f0 q.f1 = 0 ∧ wi p q) = true ∨ ∃ m : Nat, pre2.length + 1 ≤ m ∧ m ≠ pre.length ∧ ∃ q, L[m]? = some q ∧ wi p q) ↔ (false = true ∨ ∃ m : Nat, pre2.length ≤ m ∧ m ≠ pre.length ∧ ∃ q, L[m]? = some q ∧ wi p q) := by
          rw [decide_eq_true_iff]
          constructor
          · rintro (h | ⟨m, h1, h2⟩)
            · exact Or.inr ⟨pre2.length, Nat.le_refl _, by omega, q, hq, h.2.2⟩
            · exact Or.inr ⟨m, by omega, h2⟩
          · rintro (h | ⟨m, h1, h2, q', h3, h4⟩)
            · cases h
            · by_cases e : m = pre2.length
              · subst e
                rw [hq] at h3
                cases h3
                exact Or.inl ⟨chk_of_V vp, chk_of_V vq, h4⟩
              · exact Or.inr ⟨m, by omega, h2, q', h3, h4⟩
        rw [decide_eq_decide.2 this]
        exact hr

theorem inn_iff {L : List S26} (hS : L.Pairwise lt) {pre : List S26} {p : S26} {t : List S26} (hL : L = pre ++ p :: t) : (∃ m : Nat, 0 ≤ m ∧ m ≠ pre.length ∧ ∃ q, L[m]? = some q ∧ wi p q) ↔ inn L p := by
  have hp : L[pre.length]? = some p := by rw [hL, List.getElem?_append_right (Nat.le_refl _), Nat.sub_self]; rfl
  constructor
  · rintro ⟨m, _, h1, q, h2, h3⟩
    refine ⟨q, List.mem_of_getElem? h2, ?_, h3⟩
    rintro rfl
    obtain ⟨m1, e1⟩ := List.getElem?_eq_some_iff.1 h2
    obtain ⟨m2, e2⟩ := List.getElem?_eq_some_iff.1 hp
    rw [List.pairwise_iff_getElem] at hS
    rcases Nat.lt_or_gt_of_ne h1 with h | h
    · have := hS m pre.length m1 m2 h
      rw [e1, e2] at this
      exact lt_irrefl _ this
    · have := hS pre.length m m2 m1 h
      rw [e1, e2] at this
      exact lt_irrefl _ this
  · rintro ⟨q, hq, hne, hw⟩
    obtain ⟨m, hm, e⟩ := List.getElem_of_mem hq
    refine ⟨m, Nat.zero_le _, ?_, q, List.getElem?_eq_some_iff.2 ⟨hm, e⟩, hw⟩
    rintro rfl
    obtain ⟨m2, e2⟩ := List.getElem?_eq_some_iff.1 hp
    exact hne (by rw [← e, e2])

instance decSib (p q : S26) : Decidable (sib p q) := inferInstanceAs (Decidable (_ ∧ _))
/-- One round over the rows. -/
def rnd (L : List S26) : List S26 → List S26 × Bool
  | [] => ([], false)
  | [p] => if inn L p then ([], true) else ([p], false)
  | p :: q :: t => if inn L p then ((rnd L (q :: t)).1, true) else if sib p q then (⟨p.f0, p.f1 - 1⟩ :: (rnd L t).1, true) else (p :: (rnd L (q :: t)).1, (rnd L (q :: t)).2)

open Classical in
theorem l2_walk {L : List S26} (hV : ∀ p ∈ L, V p) (hS : L.Pairwise lt) (hn : L.length ≤ 900) {r : List S26} :
    ∀ (d : Nat) (suf pre x5 : List S26) (b : Bool), suf.length ≤ d → L = pre ++ suf → x5.length + suf.length ≤ 1000 →
      Ev (fun k => waymarkref04_Cover.l2 k (L.map R) ((x5 ++ (rnd L suf).1).map R) (b || (rnd L suf).2) (L.length : Int)) r →
      Ev (fun k => waymarkref04_Cover.l2 k (L.map R) (x5.map R) b (pre.length : Int)) r
  | _, [], pre, x5, b, _, h2, _, hr => by
    have : L.length = pre.length := by rw [h2]; simp
    simp only [rnd, List.append_nil, Bool.or_false, this] at hr
    exact hr
  | 0, p :: t, pre, x5, b, hd, _, _, _ => absurd hd (by simp)
  | d + 1, p :: t, pre, x5, b, hd, h2, hb, hr => by
    simp only [List.length_cons] at hd hb
    have hl2 : L.length = pre.length + t.length + 1 := by rw [h2]; simp; omega
    have hrp : rd_T101 (L.map R) (pre.length : Int) = R p := by rw [h2]; exact rd_R pre p t
    have vp : V p := hV p (by rw [h2]; simp)
    have ih := fun x5' b' => l2_walk hV hS hn (r := r) d t (pre ++ [p]) x5' b' (by omega) (by rw [h2]; simp)
    have el : ((pre ++ [p]).length : Int) = (pre.length : Int) + 1 := by simp
    rw [el] at ih
    refine Ev.step (fun k => by rw [waymarkref04_Cover.l2]) ?_
    refine Ev.pos (by simp; omega) ?_
    refine l3_walk hV hn pre p t h2 L [] false rfl ?_
    have e : decide (false = true ∨ ∃ m : Nat, ([] : List S26).length ≤ m ∧ m ≠ pre.length ∧ ∃ q, L[m]? = some q ∧ wi p q) = decide (inn L p) := by
      apply decide_eq_decide.2
      rw [← inn_iff hS h2]
      simp
    rw [e]
    refine Ev.step (fun k => by rw [waymarkref04_Cover.l3, hrp]) ?_
    refine Ev.neg (by simp) ?_
    rw [w64 (n := (pre.length : Int) + 1) (by omega) (by omega)]
    by_cases ci : inn L p
    · refine Ev.pos (decide_eq_true ci) (ih x5 true (by omega) ?_)
      cases t with
      | nil => simp only [rnd, if_pos ci, Bool.or_true, Bool.or_false] at hr ⊢; exact hr
      | cons q t => simp only [rnd, if_pos ci, Bool.or_true, Bool.true_or] at hr ⊢; exact hr
    · refine Ev.neg (by simpa using ci) ?_
      refine Ev.pos (by omega) ?_
      refine Ev.pos (by simp; omega) ?_
      cases t with
      | nil =>
        refine Ev.neg (by simp at hl2 ⊢; omega) ?_
        refine Ev.step (fun k => by rw [waymarkref04_Cover.j4, hrp]) ?_
        refine Ev.neg Bool.false_ne_true ?_
        refine Ev.pos (by omega) ?_
        refine Ev.pos (by simp; omega) ?_
        refine Ev.pos (by simp; omega) ?_
        rw [w64 (n := (pre.length : Int) + 1) (by omega) (by omega)]
        have ih := ih (x5 ++ [p]) b (by simp; omega)
        simp only [rnd, if_neg ci, Bool.or_false, List.append_nil, List.map_append, List.map_cons, List.map_nil] at hr ih
        exact ih hr
      | cons q t =>
        have hrq : rd_T101 (L.map R) ((pre.length : Int) + 1) = R q := by rw [h2]; exact rd_R1 pre p q t
        have vq : V q := hV q (by rw [h2]; simp)
        have hlt : lt p q := by
          rw [h2] at hS
          have := (List.pairwise_append.1 hS).2.1
          exact (List.pairwise_cons.1 this).1 q (by simp)
        simp only [List.length_cons] at hl2 hd hb
        -- nothing to merge
        have plain : ¬ sib p q → Ev (fun k => waymarkref04_Cover.l2 k (L.map R) (x5.map R ++ [(⟨⟨(R p).f0.f0, (R p).f0.f1⟩, (R p).f1⟩ : S101)]) b ((pre.length : Int) + 1)) r := by
          intro hns
          have ih := ih (x5 ++ [p]) b (by simp; omega)
          simp only [rnd, if_neg ci, if_neg hns, List.append_assoc, List.cons_append, List.nil_append, List.map_append, List.map_cons, List.map_nil] at hr ih
          exact ih hr
        have skip : ¬ sib p q → ∀ x y, Ev (fun k => waymarkref04_Cover.j4 k (L.map R) (x5.map R) b (pre.length : Int) false x y) r := by
          intro hns x y
          refine Ev.step (fun k => by rw [waymarkref04_Cover.j4, hrp]) ?_
          refine Ev.neg Bool.false_ne_true ?_
          refine Ev.pos (by omega) ?_
          refine Ev.pos (by simp; omega) ?_
          refine Ev.pos (by simp; omega) ?_
          rw [w64 (n := (pre.length : Int) + 1) (by omega) (by omega)]
          exact plain hns
        refine Ev.pos (by simp; omega) ?_
        by_cases c0 : p.f1 > 0
        · refine Ev.pos c0 ?_
          refine Ev.pos (by omega) ?_
          rw [hrq]
          by_cases c1 : q.f1 = p.f1
          · have e1 : ((R q).f0.f1 == (R p).f0.f1) = true := beq_iff_eq.2 c1
            rw [e1]
            obtain ⟨r', hr', k1, k2⟩ := ev_Common vp vq c1.symm c0 hlt
            refine Ev.step (fun k => by rw [waymarkref04_Cover.j4, hrp]) ?_
            rw [w64 (n := (pre.length : Int) + 1) (by omega) (by omega), hrq]
            refine Ev.pos rfl ?_
            refine Ev.pos (by omega) ?_
            refine Ev.pos (by simp; omega) ?_
            refine Ev.bind hr' ?_
            have vp1 := vp.2.1
            have e2 : wrap64 ((R p).f0.f1 - 1) = p.f1 - 1 := w64 (n := p.f1 - 1) (by omega) (by omega)
            rw [e2]
            by_cases hs : sib p q
            · obtain ⟨a1, a2⟩ := k1 hs
              refine Ev.pos a2 ?_
              refine Ev.pos (by simp; omega) ?_
              rw [a1, a2, w64 (by omega) (by omega)]
              have ih2 := l2_walk hV hS hn (r := r) d t (pre ++ [p, q]) (x5 ++ [⟨p.f0, p.f1 - 1⟩]) true (by omega) (by rw [h2]; simp) (by simp; omega)
              have el2 : ((pre ++ [p, q]).length : Int) = (pre.length : Int) + 1 + 1 := by simp; omega
              rw [el2] at ih2
              simp only [rnd, if_neg ci, if_pos hs, Bool.or_true, Bool.true_or, List.append_assoc, List.cons_append, List.nil_append, List.map_append, List.map_cons, List.map_nil] at hr ih2
              exact ih2 hr
            · refine Ev.neg (k2 hs) ?_
              refine Ev.pos (by omega) ?_
              refine Ev.pos (by simp; omega) ?_
              refine Ev.pos (by simp; omega) ?_
              exact plain hs
          · have e1 : ((R q).f0.f1 == (R p).f0.f1) = false := beq_eq_false_iff_ne.2 c1
            rw [e1]
            exact skip (fun hs => c1 hs.1.symm) _ _
        · refine Ev.neg c0 ?_
          exact skip (fun hs => c0 hs.2.1) _ _

/-- Set many in, one by one; those that may not be are left out. -/
def insAll : List S26 → List S26 → List S26
  | acc, [] => acc
  | acc, p :: t => insAll (if chk p.f0 p.f1 = 0 then oins p acc else acc) t
theorem insAll_mem {x : S26} : ∀ {l acc : List S26}, x ∈ insAll acc l ↔ x ∈ acc ∨ (x ∈ l ∧ chk x.f0 x.f1 = 0)
  | [], acc => by simp [insAll]
  | p :: t, acc => by
    unfold insAll
    rw [insAll_mem]
    split
    · rename_i h
      rw [oins_mem, List.mem_cons]
      constructor
      · rintro ((rfl | h1) | h1)
        · exact Or.inr ⟨Or.inl rfl, h⟩
        · exact Or.inl h1
        · exact Or.inr ⟨Or.inr h1.1, h1.2⟩
      · rintro (h1 | ⟨rfl | h1, h2⟩)
        · exact Or.inl (Or.inr h1)
        · exact Or.inl (Or.inl rfl)
        · exact Or.inr ⟨h1, h2⟩
    · rename_i h
      rw [List.mem_cons]
      constructor
      · rintro (h1 | h1)
        · exact Or.inl h1
        · exact Or.inr ⟨Or.inr h1.1, h1.2⟩
      · rintro (h1 | ⟨rfl | h1, h2⟩)
        · exact Or.inl h1
        · exact absurd h2 h
        · exact Or.inr ⟨h1, h2⟩
theorem insAll_sorted : ∀ {l acc : List S26}, acc.Pairwise lt → (insAll acc l).Pairwise lt
  | [], _, h => h
  | p :: t, acc, h => by
    unfold insAll
    refine insAll_sorted ?_
    split
    · exact oins_sorted h
    · exact h
theorem insAll_len : ∀ {l acc : List S26}, (insAll acc l).length ≤ acc.length + l.length
  | [], acc => by simp [insAll]
  | p :: t, acc => by
    unfold insAll
    refine Nat.le_trans insAll_len ?_
    split
    · have := oins_len (p := p) (l := acc)
      simp; omega
    · simp

theorem l0_walk {L : List S26} (hn : L.length ≤ 400) {r : List S26} : ∀ (suf pre acc : List S26), L = pre ++ suf → (∀ p ∈ suf, U p.f0) → acc.Pairwise lt → acc.length + suf.length ≤ 800 →
    Ev (fun k => waymarkref04_Cover.l1 k ((insAll acc suf).map R)) r → Ev (fun k => waymarkref04_Cover.l0 k L (acc.map R) (pre.length : Int)) r
  | [], pre, acc, h, _, _, _, hr => by
    refine Ev.step (fun k => by rw [waymarkref04_Cover.l0]) (Ev.neg (by rw [h]; simp) ?_)
    exact hr
  | p :: t, pre, acc, h, hu, ha, hl, hr => by
    have hrd : rd_T26 L (pre.length : Int) = p := by rw [h]; exact rd_26 pre p t
    have hll : L.length = pre.length + t.length + 1 := by rw [h]; simp; omega
    simp only [List.length_cons] at hl
    have hp := ev_Put (l := acc) (hu p (by simp)) ha (by omega)
    refine Ev.step (fun k => by rw [waymarkref04_Cover.l0, hrd]) ?_
    refine Ev.pos (by omega) ?_
    refine Ev.pos (by omega) ?_
    refine Ev.bind hp ?_
    rw [w64 (by omega) (by omega)]
    unfold insAll at hr
    have key : ∀ acc', acc'.Pairwise lt → acc'.length ≤ acc.length + 1 → Ev (fun k => waymarkref04_Cover.l1 k ((insAll acc' t).map R)) r → Ev (fun k => waymarkref04_Cover.l0 k L (acc'.map R) ((pre.length : Int) + 1)) r := by
      intro acc' h1 h2 h3
      have := l0_walk hn t (pre ++ [p]) acc' (by rw [h]; simp) (fun q hq => hu q (by simp [hq])) h1 (by omega) h3
      rw [show ((pre ++ [p]).length : Int) = (pre.length : Int) + 1 by simp] at this
      exact this
    by_cases c : chk p.f0 p.f1 = 0
    · rw [if_pos c] at hr ⊢
      exact key _ (oins_sorted ha) oins_len hr
    · rw [if_neg c] at hr ⊢
      exact key _ ha (by omega) hr

theorem l4_walk {L : List S26} (hn : L.length ≤ 400) {r : List S26} : ∀ (suf pre acc : List S26), L = pre ++ suf → (∀ p ∈ suf, U p.f0) → acc.Pairwise lt → acc.length + suf.length ≤ 800 →
    Ev (fun k => waymarkref04_Cover.l1 k ((insAll acc suf).map R)) r → Ev (fun k => waymarkref04_Cover.l4 k (L.map R) (acc.map R) (pre.length : Int)) r
  | [], pre, acc, h, _, _, _, hr => by
    refine Ev.step (fun k => by rw [waymarkref04_Cover.l4]) (Ev.neg (by rw [h]; simp) ?_)
    exact hr
  | p :: t, pre, acc, h, hu, ha, hl, hr => by
    have hrd : rd_T101 (L.map R) (pre.length : Int) = R p := by rw [h]; exact rd_R pre p t
    have hll : L.length = pre.length + t.length + 1 := by rw [h]; simp; omega
    simp only [List.length_cons] at hl
    have hp := ev_Put (l := acc) (hu p (by simp)) ha (by omega)
    refine Ev.step (fun k => by rw [waymarkref04_Cover.l4, hrd]) ?_
    refine Ev.pos (by simp; omega) ?_
    refine Ev.pos (by omega) ?_
    refine Ev.bind hp ?_
    rw [w64 (by omega) (by omega)]
    unfold insAll at hr
    have key : ∀ acc', acc'.Pairwise lt → acc'.length ≤ acc.length + 1 → Ev (fun k => waymarkref04_Cover.l1 k ((insAll acc' t).map R)) r → Ev (fun k => waymarkref04_Cover.l4 k (L.map R) (acc'.map R) ((pre.length : Int) + 1)) r := by
      intro acc' h1 h2 h3
      have := l4_walk hn t (pre ++ [p]) acc' (by rw [h]; simp) (fun q hq => hu q (by simp [hq])) h1 (by omega) h3
      rw [show ((pre ++ [p]).length : Int) = (pre.length : Int) + 1 by simp] at this
      exact this
    by_cases c : chk p.f0 p.f1 = 0
    · rw [if_pos c] at hr ⊢
      exact key _ (oins_sorted ha) oins_len hr
    · rw [if_neg c] at hr ⊢
      exact key _ ha (by omega) hr

theorem l5_walk {L : List S26} (hn : L.length ≤ 400) : ∀ (suf pre acc : List S26), L = pre ++ suf → acc.length + suf.length ≤ 800 →
    Ev (fun k => waymarkref04_Cover.l5 k (L.map R) acc (pre.length : Int)) (acc ++ suf)
  | [], pre, acc, h, _ => by
    refine Ev.step (fun k => by rw [waymarkref04_Cover.l5]) (Ev.neg (by rw [h]; simp) (Ev.some' (by simp)))
  | p :: t, pre, acc, h, hl => by
    have hrd : rd_T101 (L.map R) (pre.length : Int) = R p := by rw [h]; exact rd_R pre p t
    have hll : L.length = pre.length + t.length + 1 := by rw [h]; simp; omega
    simp only [List.length_cons] at hl
    refine Ev.step (fun k => by rw [waymarkref04_Cover.l5, hrd]) ?_
    refine Ev.pos (by simp; omega) ?_
    refine Ev.pos (by omega) ?_
    refine Ev.pos (by omega) ?_
    rw [w64 (by omega) (by omega)]
    have := l5_walk hn t (pre ++ [p]) (acc ++ [p]) (by rw [h]; simp) (by simp; omega)
    rw [show ((pre ++ [p]).length : Int) = (pre.length : Int) + 1 by simp, show acc ++ [p] ++ t = acc ++ p :: t by simp] at this
    exact this
end Go.Proofs.Ytaplkfnolimdmaa.PC.Leaf
