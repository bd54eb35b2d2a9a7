/- The program's Cover answers the canonical list of what it was given. -/
import Derived.Test.YtaplkfnolimdmaaPCx7
import Derived.Test.YtaplkfnolimdmaaLeafI
import Derived.Test.YtaplkfnolimdmaaRefCanon
namespace Go.Proofs.Ytaplkfnolimdmaa.PC.Leaf
open Go.Proofs.YtaplkfnolimdmaaW.Bits Go.RowKit Go.Proofs.Ytaplkfnolimdmaa.PC Go.Proofs.YtaplkfnolimdmaaW.PrintWords Go.Proofs.YtaplkfnolimdmaaW.PrintLast Go.Proofs.Ytaplkfnolimdmaa.PC.Cov
set_option linter.unusedVariables false
set_option linter.unusedSimpArgs false

def bef (a b : S26) : Prop := a.f0 + sz a.f1 ≤ b.f0
structure Inv (C : List S26) : Prop where
  valid : ∀ p ∈ C, V p
  order : C.Pairwise bef
  nosib : ∀ p ∈ C, ∀ q ∈ C, ¬ sib p q
theorem bef_lt {a b : S26} (h : bef a b) : lt a b := Or.inl (by unfold bef at h; have := sz_pos a.f1; omega)
theorem bef_or {C : List S26} (h : C.Pairwise bef) {p q : S26} (hp : p ∈ C) (hq : q ∈ C) : p = q ∨ bef p q ∨ bef q p := by
  obtain ⟨a, b, rfl⟩ := List.append_of_mem hp
  obtain ⟨_, h2, h3⟩ := List.pairwise_append.1 h
  rcases List.mem_append.1 hq with e | e
  · exact .inr (.inr (h3 q e p (by simp)))
  · rcases List.mem_cons.1 e with e | e
    · exact .inl e.symm
    · exact .inr (.inl ((List.pairwise_cons.1 h2).1 q e))
theorem Inv.canon {C : List S26} (h : Inv C) : Canon C := by
  refine ⟨h.valid, h.order.imp bef_lt, fun p hp q hq hw => ?_, h.nosib⟩
  obtain ⟨_, h1, h2⟩ := hw
  have := sz_pos p.f1
  have := sz_pos q.f1
  rcases bef_or h.order hp hq with e | e | e
  · exact e
  · unfold bef at e; omega
  · unfold bef at e; omega
theorem Inv.left {C D : List S26} (h : Inv (C ++ D)) : Inv C :=
  ⟨fun p hp => h.valid p (by simp [hp]), (List.pairwise_append.1 h.order).1, fun p hp q hq => h.nosib p (by simp [hp]) q (by simp [hq])⟩

theorem cov_app (C D : List S26) (x : Int) : cov (C ++ D) x ↔ cov C x ∨ cov D x := by
  unfold cov
  constructor
  · rintro ⟨p, hp, h⟩
    rcases List.mem_append.1 hp with e | e
    · exact .inl ⟨p, e, h⟩
    · exact .inr ⟨p, e, h⟩
  · rintro (⟨p, hp, h⟩ | ⟨p, hp, h⟩)
    · exact ⟨p, List.mem_append_left _ hp, h⟩
    · exact ⟨p, List.mem_append_right _ hp, h⟩
theorem cov_one (p : S26) (x : Int) : cov [p] x ↔ inP x p := by simp [cov]

theorem l2_impl {x30 : List S26} {x31 x32 : Int} : ∀ (n : Nat) (pre : List S26) (b : S26), pre.length ≤ n → pre.length ≤ 900 → Inv pre → V b → (∀ a ∈ pre, bef a b) →
    ∃ pre' b', Inv (pre' ++ [b']) ∧ (∀ x, cov (pre' ++ [b']) x ↔ cov (pre ++ [b]) x) ∧ wi b b' ∧ pre'.length ≤ pre.length ∧
      ∀ r, Ev (fun k => trie_Cover.l1 k (pre' ++ [b']) x30 x31 (wrap64 (x32 + 1))) r → Ev (fun k => trie_Cover.l2 k (pre ++ [b]) x30 x31 x32) r
  | n, pre, b, hn, hl, hI, hv, hb => by
    rcases List.eq_nil_or_concat pre with rfl | ⟨pre2, a, e⟩
    · refine ⟨[], b, ⟨by simpa using hv, by simp, ?_⟩, fun x => Iff.rfl, wi_refl b, Nat.le_refl _, fun r hr => ?_⟩
      · intro p hp q hq hs
        obtain rfl : p = b := by simpa using hp
        obtain rfl : q = p := by simpa using hq
        have := hs.2.2.1
        have := sz_pos q.f1
        omega
      · refine Ev.step (fun k => by rw [trie_Cover.l2]) (Ev.neg (by simp) ?_)
        exact hr
    · have e : pre = pre2 ++ [a] := by rw [e]; simp
      subst e
      have hlen : ((pre2 ++ [a] ++ [b]).length : Int) = (pre2.length : Int) + 2 := by simp
      simp only [List.length_append, List.length_cons, List.length_nil] at hn hl
      have ra : rd_T26 (pre2 ++ [a] ++ [b]) (pre2.length : Int) = a := by
        have := rd_26 pre2 a [b]
        simpa using this
      have rb : rd_T26 (pre2 ++ [a] ++ [b]) ((pre2.length : Int) + 1) = b := by
        have := rd_26 (pre2 ++ [a]) b []
        simpa using this
      have va : V a := hI.valid a (by simp)
      have hab : bef a b := hb a (by simp)
      have w2 : wrap64 ((pre2.length : Int) + 2 - 2) = (pre2.length : Int) := by rw [w64 (by omega) (by omega)]; omega
      have w1 : wrap64 ((pre2.length : Int) + 2 - 1) = (pre2.length : Int) + 1 := by rw [w64 (by omega) (by omega)]; omega
      obtain ⟨m, m0, m1, hm, hms⟩ := ev_ACommon va hv
      have va1 := va.1
      have va2 := va.2.1
      have wa : wrap64 (a.f1 - 1) = a.f1 - 1 := w64 (by omega) (by omega)
      have open2 : ∀ {r}, Ev (fun k => if a.f1 = b.f1 then (if m = a.f1 - 1 then (trie_Cover.l2 k (pre2 ++ [(⟨a.f0 - a.f0 % sz m, m⟩ : S26)]) x30 x31 x32) else (trie_Cover.l1 k (pre2 ++ [a] ++ [b]) x30 x31 (wrap64 (x32 + 1)))) else (trie_Cover.l1 k (pre2 ++ [a] ++ [b]) x30 x31 (wrap64 (x32 + 1)))) r →
          Ev (fun k => trie_Cover.l2 k (pre2 ++ [a] ++ [b]) x30 x31 x32) r := by
        intro r hr
        refine Ev.step (fun k => by rw [trie_Cover.l2, hlen, w2, w1, ra, rb, wa]) ?_
        refine Ev.pos (by omega) ?_
        refine Ev.pos (by omega) ?_
        refine Ev.pos (by omega) ?_
        refine Ev.pos (by omega) ?_
        refine Ev.pos (by omega) ?_
        refine Ev.bind hm ?_
        by_cases c1 : a.f1 = b.f1
        · refine Ev.pos c1 ?_
          have hr := Ev.congr (fun k => (if_pos c1).symm) hr
          by_cases c2 : m = a.f1 - 1
          · have hr := Ev.congr (fun k => (if_pos c2).symm) hr
            refine Ev.pos c2 ?_
            refine Ev.pos (by omega) ?_
            refine Ev.bind (Ev.now _) ?_
            have et : (pre2 ++ [a] ++ [b]).take (pre2.length : Int).toNat = pre2 := by simp
            rw [et]
            exact Ev.pos (by omega) hr
          · have hr := Ev.congr (fun k => (if_neg c2).symm) hr
            exact Ev.neg c2 hr
        · have hr := Ev.congr (fun k => (if_neg c1).symm) hr
          exact Ev.neg c1 hr
      by_cases hs : sib a b
      · obtain ⟨hpos, hiff⟩ := hms hs.1 (bef_lt hab)
        have em : m = a.f1 - 1 := hiff.2 hs
        obtain ⟨s1, s2, s3, s4⟩ := sib_whole va hv hs
        have ew : (⟨a.f0 - a.f0 % sz m, m⟩ : S26) = ⟨a.f0, a.f1 - 1⟩ := by
          rw [em, Int.emod_eq_zero_of_dvd hs.2.2.2]
          simp
        cases n with
        | zero => omega
        | succ n =>
          obtain ⟨pre', b', i1, i2, i3, i4, i5⟩ := l2_impl (x30 := x30) (x31 := x31) (x32 := x32) n pre2 ⟨a.f0, a.f1 - 1⟩ (by omega) (by omega) hI.left s1 (fun c hc => (List.pairwise_append.1 hI.order).2.2 c hc a (by simp))
          have vb' : V b' := i1.valid b' (by simp)
          refine ⟨pre', b', i1, fun x => ?_, wi_trans hv s1 vb' s3 i3, by simp; omega, fun r hr => open2 ?_⟩
          · rw [i2, cov_app, cov_app, cov_app, cov_one, cov_one, cov_one]
            constructor
            · rintro (h | h)
              · exact .inl (.inl h)
              · rcases s4 x h with h | h
                · exact .inl (.inr h)
                · exact .inr h
            · rintro ((h | h) | h)
              · exact .inl h
              · exact .inr (wi_in va s1 s2 h)
              · exact .inr (wi_in hv s1 s3 h)
          · refine Ev.pos hs.1 (Ev.pos em ?_)
            rw [ew]
            exact i5 r hr
      · refine ⟨pre2 ++ [a], b, ⟨?_, ?_, ?_⟩, fun x => Iff.rfl, wi_refl b, Nat.le_refl _, fun r hr => open2 ?_⟩
        · intro p hp
          rcases List.mem_append.1 hp with h | h
          · exact hI.valid p h
          · obtain rfl : p = b := by simpa using h
            exact hv
        · exact List.pairwise_append.2 ⟨hI.order, by simp, fun c hc d hd => by
            obtain rfl : d = b := by simpa using hd
            exact hb c hc⟩
        · intro p hp q hq h
          have hsz := sz_pos p.f1
          have hsa := sz_pos a.f1
          have hsb := sz_pos b.f1
          rcases List.mem_append.1 hp with hp2 | hp2
          · rcases List.mem_append.1 hq with hq2 | hq2
            · exact hI.nosib p hp2 q hq2 h
            · obtain rfl : q = b := by simpa using hq2
              rcases List.mem_append.1 hp2 with hp3 | hp3
              · have h1 := (List.pairwise_append.1 hI.order).2.2 p hp3 a (by simp)
                have h2 := h.2.2.1
                unfold bef at h1 hab
                omega
              · obtain rfl : p = a := by simpa using hp3
                exact hs h
          · obtain rfl : p = b := by simpa using hp2
            have h2 := h.2.2.1
            rcases List.mem_append.1 hq with hq2 | hq2
            · have h1 := hb q hq2
              have := sz_pos q.f1
              unfold bef at h1
              omega
            · obtain rfl : q = p := by simpa using hq2
              omega
        · by_cases c1 : a.f1 = b.f1
          · refine Ev.pos c1 (Ev.neg (fun h => hs ((hms c1 (bef_lt hab)).2.1 h)) hr)
          · exact Ev.neg c1 hr

theorem l1_impl {S : List S26} (hV : ∀ p ∈ S, V p) (hS : S.Pairwise (fun a b => leP a b = true)) (hn : S.length ≤ 400) :
    ∀ (suf done C : List S26), S = done ++ suf → Inv C → C.length ≤ done.length → (∀ x, cov C x ↔ cov done x) →
      ((C = [] ∧ done = []) ∨ ∃ pre t z, C = pre ++ [t] ∧ wi z t ∧ ∀ p ∈ suf, leP z p = true) →
      ∃ D, Inv D ∧ (∀ x, cov D x ↔ cov S x) ∧ D.length ≤ S.length ∧ Ev (fun k => trie_Cover.l1 k C S (S.length : Int) (done.length : Int)) D
  | [], done, C, h, hI, hl, hc, _ => by
    have e : S = done := by rw [h]; simp
    refine ⟨C, hI, by rw [e]; exact hc, by rw [e]; exact hl, Ev.step (fun k => by rw [trie_Cover.l1]) (Ev.neg (by rw [e]; omega) (Ev.now _))⟩
  | p :: suf, done, C, h, hI, hl, hc, hz => by
    have hll : S.length = done.length + suf.length + 1 := by rw [h]; simp; omega
    have hrd : rd_T26 S (done.length : Int) = p := by rw [h]; exact rd_26 done p suf
    have vp : V p := hV p (by rw [h]; simp)
    have hS2 : (p :: suf).Pairwise (fun a b => leP a b = true) := by rw [h] at hS; exact (List.pairwise_append.1 hS).2.1
    have hpz : ∀ q ∈ suf, leP p q = true := (List.pairwise_cons.1 hS2).1
    have ed : ((done ++ [p]).length : Int) = (done.length : Int) + 1 := by simp
    have ew : wrap64 ((done.length : Int) + 1) = (done.length : Int) + 1 := w64 (by omega) (by omega)
    -- one that is pushed
    have push : (∀ a ∈ C, bef a p) → ∃ D, Inv D ∧ (∀ x, cov D x ↔ cov S x) ∧ D.length ≤ S.length ∧ Ev (fun k => trie_Cover.j2 k C S (S.length : Int) (done.length : Int) false p.f0 p.f1) D := by
      intro hb
      obtain ⟨pre', b', i1, i2, i3, i4, i5⟩ := l2_impl (x30 := S) (x31 := (S.length : Int)) (x32 := (done.length : Int)) _ C p (Nat.le_refl _) (by omega) hI vp hb
      obtain ⟨D, d1, d2, d3, d4⟩ := l1_impl hV hS hn suf (done ++ [p]) (pre' ++ [b']) (by rw [h]; simp) i1 (by simp; omega) (fun x => by rw [i2, cov_app, cov_app, hc]) (.inr ⟨pre', b', p, rfl, i3, hpz⟩)
      refine ⟨D, d1, d2, d3, Ev.step (fun k => by rw [trie_Cover.j2]) (Ev.neg Bool.false_ne_true (Ev.pos (by omega) (i5 D ?_)))⟩
      rw [ew, ← ed]
      exact d4
    have start : ∀ {D}, Ev (fun k => if (C.length : Int) > 0 then (if 0 ≤ (wrap64 ((C.length : Int) - 1)) then (if (wrap64 ((C.length : Int) - 1)) < (C.length : Int) then ((addr_Within.f k p.f0 p.f1 ((rd_T26 C (wrap64 ((C.length : Int) - 1))).f0) ((rd_T26 C (wrap64 ((C.length : Int) - 1))).f1)).bind fun t224 => (trie_Cover.j2 k C S (S.length : Int) (done.length : Int) t224 p.f0 p.f1)) else (none)) else (none)) else (trie_Cover.j2 k C S (S.length : Int) (done.length : Int) false p.f0 p.f1)) D →
        Ev (fun k => trie_Cover.l1 k C S (S.length : Int) (done.length : Int)) D := by
      intro D hD
      refine Ev.step (fun k => by rw [trie_Cover.l1, hrd]) ?_
      refine Ev.pos (by omega) ?_
      refine Ev.pos (by omega) ?_
      exact Ev.pos (by omega) hD
    rcases hz with ⟨rfl, rfl⟩ | ⟨pre, t, z, rfl, hw, hle⟩
    · obtain ⟨D, d1, d2, d3, d4⟩ := push (by simp)
      exact ⟨D, d1, d2, d3, start (Ev.neg (by simp) d4)⟩
    · have vt : V t := hI.valid t (by simp)
      have hlt : ((pre ++ [t]).length : Int) = (pre.length : Int) + 1 := by simp
      simp only [List.length_append, List.length_cons, List.length_nil] at hl
      have hrt : rd_T26 (pre ++ [t]) (pre.length : Int) = t := rd_26 pre t []
      have wt : wrap64 ((pre.length : Int) + 1 - 1) = (pre.length : Int) := by rw [w64 (by omega) (by omega)]; omega
      have hwi := ev_AWithin (p := p) (q := t) (V_U vp) (V_U vt)
      have start2 : ∀ {D}, Ev (fun k => trie_Cover.j2 k (pre ++ [t]) S (S.length : Int) (done.length : Int) (decide (chk p.f0 p.f1 = 0 ∧ chk t.f0 t.f1 = 0 ∧ wi p t)) p.f0 p.f1) D → Ev (fun k => trie_Cover.l1 k (pre ++ [t]) S (S.length : Int) (done.length : Int)) D := by
        intro D hD
        refine start ?_
        rw [hlt, wt, hrt]
        refine Ev.pos (by omega) ?_
        refine Ev.pos (by omega) ?_
        refine Ev.pos (by omega) ?_
        exact Ev.bind hwi hD
      by_cases c : wi p t
      · have e : decide (chk p.f0 p.f1 = 0 ∧ chk t.f0 t.f1 = 0 ∧ wi p t) = true := decide_eq_true ⟨chk_of_V vp, chk_of_V vt, c⟩
        obtain ⟨D, d1, d2, d3, d4⟩ := l1_impl hV hS hn suf (done ++ [p]) (pre ++ [t]) (by rw [h]; simp) hI (by simp; omega) (fun x => by
          rw [cov_app done, cov_one, hc x]
          constructor
          · exact .inl
          · rintro (h1 | h1)
            · exact h1
            · rw [← hc x]
              exact ⟨t, by simp, wi_in vp vt c h1⟩) (.inr ⟨pre, t, p, rfl, c, hpz⟩)
        refine ⟨D, d1, d2, d3, start2 ?_⟩
        rw [e]
        refine Ev.step (fun k => by rw [trie_Cover.j2]) (Ev.pos rfl ?_)
        rw [ew, ← ed]
        exact d4
      · have e : decide (chk p.f0 p.f1 = 0 ∧ chk t.f0 t.f1 = 0 ∧ wi p t) = false := decide_eq_false (fun h => c h.2.2)
        have hzp := hle p (by simp)
        have hsp := sz_pos p.f1
        have hst := sz_pos t.f1
        unfold leP at hzp
        rw [decide_eq_true_iff] at hzp
        obtain ⟨w1, w2, w3⟩ := hw
        have htp : bef t p := by
          apply Classical.byContradiction
          intro hnb
          unfold bef at hnb
          have hin : inP p.f0 t := ⟨by omega, by omega⟩
          rcases Int.lt_or_le p.f1 t.f1 with h1 | h1
          · have hlam := laminar vt vp (by omega) hin inP_self
            have := hlam.2.1
            omega
          · exact c ⟨h1, hin⟩
        obtain ⟨D, d1, d2, d3, d4⟩ := push (fun a ha => by
          rcases List.mem_append.1 ha with h1 | h1
          · have := (List.pairwise_append.1 hI.order).2.2 a h1 t (by simp)
            unfold bef at this htp ⊢
            omega
          · obtain rfl : a = t := by simpa using h1
            exact htp)
        refine ⟨D, d1, d2, d3, start2 ?_⟩
        rw [e]
        exact d4

theorem l0_impl {L : List S26} (hu : ∀ p ∈ L, U p.f0) (hn : L.length ≤ 400) : ∀ (suf pre acc : List S26), L = pre ++ suf → acc.length ≤ pre.length → ∀ {r}, Ev (fun k => (slices_SortFunc_Prefix.f (acc ++ suf.filter (fun p => decide (chk p.f0 p.f1 = 0)))).bind fun t220 => (trie_Cover.l1 k ([] : List (S26)) t220 ((acc ++ suf.filter (fun p => decide (chk p.f0 p.f1 = 0))).length : Int) 0)) r →
    Ev (fun k => trie_Cover.l0 k acc L (L.length : Int) (pre.length : Int)) r
  | [], pre, acc, h, hl, r, hr => by
    have e : L = pre := by rw [h]; simp
    simp only [List.filter_nil, List.append_nil] at hr
    exact Ev.step (fun k => by rw [trie_Cover.l0]) (Ev.neg (by rw [e]; omega) hr)
  | p :: suf, pre, acc, h, hl, r, hr => by
    have hll : L.length = pre.length + suf.length + 1 := by rw [h]; simp; omega
    have hrd : rd_T26 L (pre.length : Int) = p := by rw [h]; exact rd_26 pre p suf
    have hup := hu p (by rw [h]; simp)
    have ed : ((pre ++ [p]).length : Int) = (pre.length : Int) + 1 := by simp
    have ew : wrap64 ((pre.length : Int) + 1) = (pre.length : Int) + 1 := w64 (by omega) (by omega)
    have ih := fun acc' hle => l0_impl hu hn suf (pre ++ [p]) acc' (by rw [h]; simp) hle (r := r)
    refine Ev.step (fun k => by rw [trie_Cover.l0, hrd]) ?_
    refine Ev.pos (by omega) ?_
    refine Ev.pos (by omega) ?_
    refine Ev.pos (by omega) ?_
    refine Ev.bind (ev_ACheck _ _ hup.1 hup.2) ?_
    rw [ew, ← ed]
    by_cases c : chk p.f0 p.f1 = 0
    · refine Ev.pos c (Ev.pos (by omega) ?_)
      rw [List.filter_cons_of_pos (by simpa using c)] at hr
      refine ih (acc ++ [p]) (by simp; omega) ?_
      simpa using hr
    · refine Ev.neg c ?_
      rw [List.filter_cons_of_neg (by simpa using c)] at hr
      exact ih acc (by simp; omega) hr

/-- What the program's Cover answers. -/
theorem impl_cover {l : List S26} (hl : l.length ≤ 200) (hu : ∀ p ∈ l, U p.f0) :
    ∃ C, Canon C ∧ (∀ x, cov C x ↔ ∃ p ∈ l, chk p.f0 p.f1 = 0 ∧ inP x p) ∧ C.length ≤ l.length ∧ Ev (fun k => trie_Cover.f k l) C := by
  have hfl : (l.filter (fun p => decide (chk p.f0 p.f1 = 0))).length ≤ l.length := List.length_filter_le _ _
  generalize hF : l.filter (fun p => decide (chk p.f0 p.f1 = 0)) = F at hfl
  have hm : ∀ p, p ∈ F.mergeSort leP ↔ p ∈ l ∧ chk p.f0 p.f1 = 0 := by
    intro p
    rw [List.mem_mergeSort, ← hF, List.mem_filter]
    simp
  have hlen : (F.mergeSort leP).length = F.length := List.length_mergeSort F
  have hsort : (F.mergeSort leP).Pairwise (fun a b => leP a b = true) := by
    refine List.pairwise_mergeSort ?_ ?_ F
    · intro a b c h1 h2
      simp [leP] at h1 h2 ⊢
      omega
    · intro a b
      simp [leP]
      omega
  obtain ⟨D, d1, d2, d3, d4⟩ := l1_impl (S := F.mergeSort leP) (fun p hp => V_of (hu p ((hm p).1 hp).1) ((hm p).1 hp).2) hsort (by omega) (F.mergeSort leP) [] [] rfl ⟨by simp, by simp, by simp⟩ (by simp) (fun x => Iff.rfl) (.inl ⟨rfl, rfl⟩)
  refine ⟨D, d1.canon, fun x => ?_, by omega, ?_⟩
  · rw [d2]
    constructor
    · rintro ⟨p, hp, hx⟩
      exact ⟨p, ((hm p).1 hp).1, ((hm p).1 hp).2, hx⟩
    · rintro ⟨p, hp, hc, hx⟩
      exact ⟨p, (hm p).2 ⟨hp, hc⟩, hx⟩
  · unfold trie_Cover.f
    refine l0_impl hu (by omega) l [] [] rfl (by simp) ?_
    rw [List.nil_append, hF]
    have : slices_SortFunc_Prefix.f F = some (F.mergeSort leP) := by
      unfold slices_SortFunc_Prefix.f
      rw [if_pos (by omega)]
    rw [this]
    refine Ev.bind (Ev.now _) ?_
    rw [← hlen]
    exact d4

/-- They answer one list. -/
theorem covers {l : List S26} (hl : l.length ≤ 200) (hu : ∀ p ∈ l, U p.f0) :
    ∃ C, C.length ≤ l.length ∧ Ev (fun k => waymarkref04_Cover.f k l) C ∧ Ev (fun k => trie_Cover.f k l) C := by
  obtain ⟨C, c1, c2, c3, c4⟩ := ref_cover hl hu
  obtain ⟨D, d1, d2, d3, d4⟩ := impl_cover hl hu
  have e : C = D := canon_unique c1 d1 (fun x => by rw [c2, d2])
  subst e
  exact ⟨C, c3, c4, d4⟩
end Go.Proofs.Ytaplkfnolimdmaa.PC.Leaf
