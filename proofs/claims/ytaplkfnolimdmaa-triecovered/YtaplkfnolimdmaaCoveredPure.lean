/- TrieCovered, plain: of a canonical list each address is in one at the most; two of its prefixes are strangers. And the callees' contracts without rounds. -/
import Derived.Test.YtaplkfnolimdmaaImplCover
namespace Go.Proofs.Ytaplkfnolimdmaa.PC.Leaf
open Go.Proofs.YtaplkfnolimdmaaW.Bits Go.RowKit Go.Proofs.Ytaplkfnolimdmaa.PC Go.Proofs.YtaplkfnolimdmaaW.PrintWords Go.Proofs.YtaplkfnolimdmaaW.PrintLast Go.Proofs.Ytaplkfnolimdmaa.PC.Cov
set_option linter.unusedVariables false
set_option linter.unusedSimpArgs false

theorem common_any {p q : S26} (hp : V p) (hq : V q) : ∀ (d : Nat) (i : Int), i.toNat = d → 0 ≤ i → i ≤ 32 →
    ∃ r : Int × Int × Int, Ev (fun k => waymarkref01_Common.l0 k i p.f0 p.f1 q.f0 q.f1) r ∧ r.2.2 = 0
  | 0, i, hd, hi0, hi1 => ⟨(0, 0, 0), Ev.step (fun k => by rw [waymarkref01_Common.l0]) (Ev.neg (by omega) (Ev.now _)), rfl⟩
  | d + 1, i, hd, hi0, hi1 => by
    have hpu := V_U hp
    have hqu := V_U hq
    obtain ⟨r, hr, h0⟩ := common_any hp hq d (i - 1) (by omega) (by omega) (by omega)
    have hV := par_V (b := i) hpu hi0 hi1
    have hsub := ev_Subnet (b := i) hpu hi0 hi1
    have hw := ev_Within (p := p) (q := ⟨p.f0 - p.f0 % sz i, i⟩) hpu (V_U hV)
    have hw2 := ev_Within (p := q) (q := ⟨p.f0 - p.f0 % sz i, i⟩) hqu (V_U hV)
    have hr' : Ev (fun k => waymarkref01_Common.l0 k (wrap64 (i - 1)) p.f0 p.f1 q.f0 q.f1) r := by rw [w64 (by omega) (by omega)]; exact hr
    generalize decide (chk p.f0 p.f1 = 0 ∧ chk (p.f0 - p.f0 % sz i) i = 0 ∧ wi p ⟨p.f0 - p.f0 % sz i, i⟩) = b1 at hw
    generalize decide (chk q.f0 q.f1 = 0 ∧ chk (p.f0 - p.f0 % sz i) i = 0 ∧ wi q ⟨p.f0 - p.f0 % sz i, i⟩) = b2 at hw2
    cases b1 with
    | false => exact ⟨r, Ev.step (fun k => by rw [waymarkref01_Common.l0]) (Ev.pos (by omega) (Ev.bind hsub (Ev.bind hw (Ev.neg Bool.false_ne_true hr')))), h0⟩
    | true =>
      cases b2 with
      | false => exact ⟨r, Ev.step (fun k => by rw [waymarkref01_Common.l0]) (Ev.pos (by omega) (Ev.bind hsub (Ev.bind hw (Ev.pos rfl (Ev.bind hw2 (Ev.neg Bool.false_ne_true hr')))))), h0⟩
      | true => exact ⟨(p.f0 - p.f0 % sz i, i, 0), Ev.step (fun k => by rw [waymarkref01_Common.l0]) (Ev.pos (by omega) (Ev.bind hsub (Ev.bind hw (Ev.pos rfl (Ev.bind hw2 (Ev.pos rfl (Ev.now _))))))), rfl⟩

/-- What Common tells of two prefixes of a canonical list. -/
theorem common_canon {C : List S26} (hC : Canon C) {p q : S26} (hp : p ∈ C) (hq : q ∈ C) (hl : lt p q) :
    ∃ (r : Int × Int × Int) (k : Nat), waymarkref01_Common.f k p.f0 p.f1 q.f0 q.f1 = some r ∧ r.2.2 = 0 ∧ (p.f1 = q.f1 → r.2.1 ≠ p.f1 - 1) := by
  have vp := hC.valid p hp
  have vq := hC.valid q hq
  have hpu := V_U vp
  have hqu := V_U vq
  obtain ⟨r, hr, h0⟩ := common_any vp vq _ 32 rfl (by omega) (by omega)
  have c1 := ev_Check p.f0 p.f1 hpu.1 hpu.2
  rw [chk_of_V vp] at c1
  have c2 := ev_Check q.f0 q.f1 hqu.1 hqu.2
  rw [chk_of_V vq] at c2
  have hf : Ev (fun k => waymarkref01_Common.f k p.f0 p.f1 q.f0 q.f1) r := by
    unfold waymarkref01_Common.f
    exact Ev.bind c1 (Ev.pos rfl (Ev.bind c2 (Ev.step (fun k => by rw [waymarkref01_Common.j0]) (Ev.pos rfl hr))))
  obtain ⟨K1, hK1⟩ := hf
  refine ⟨r, K1, hK1 K1 (Nat.le_refl _), h0, fun hb => ?_⟩
  have hpos : 0 < p.f1 := by
    rcases Int.lt_or_le 0 p.f1 with h | h
    · exact h
    · exfalso
      have e : p.f1 = 0 := by have := vp.1; omega
      obtain ⟨c, hc⟩ := vp.2.2.2.2
      obtain ⟨d, hd⟩ := vq.2.2.2.2
      rw [← hb] at hd
      rw [e, sz0] at hc hd
      have := hpu.1; have := hpu.2; have := hqu.1; have := hqu.2
      unfold lt at hl
      omega
  obtain ⟨r', ⟨K2, hK2⟩, _, h2⟩ := ev_Common vp vq hb hpos hl
  have e : r = r' := by
    have a := hK1 (K1 + K2) (by omega)
    have b := hK2 (K1 + K2) (by omega)
    rw [a] at b
    exact Option.some.inj b
  rw [e]
  exact h2 (hC.nosib p hp q hq)

/-- Is the address in it? -/
def good (x : Int) (p : S26) : Bool := decide (chk p.f0 p.f1 = 0 ∧ inP x p)
theorem canon_count {C : List S26} (hC : Canon C) {x : Int} : (C.filter (good x)).length = if (∃ p ∈ C, good x p = true) then 1 else 0 := by
  have hs : (C.filter (good x)).Pairwise lt := hC.sorted.filter _
  have hall : ∀ p ∈ C.filter (good x), ∀ q ∈ C.filter (good x), p = q := by
    intro p hp q hq
    obtain ⟨hp1, hp2⟩ := List.mem_filter.1 hp
    obtain ⟨hq1, hq2⟩ := List.mem_filter.1 hq
    have ip := (of_decide_eq_true hp2).2
    have iq := (of_decide_eq_true hq2).2
    have vp := hC.valid p hp1
    have vq := hC.valid q hq1
    rcases Int.le_total q.f1 p.f1 with h | h
    · exact hC.flat p hp1 q hq1 (laminar vp vq h ip iq)
    · exact (hC.flat q hq1 p hp1 (laminar vq vp h iq ip)).symm
  cases hF : C.filter (good x) with
  | nil =>
    rw [if_neg]
    · rfl
    · rintro ⟨p, hp, hg⟩
      have : p ∈ C.filter (good x) := List.mem_filter.2 ⟨hp, hg⟩
      rw [hF] at this
      simp at this
  | cons p t =>
    rw [if_pos]
    · rw [hF] at hs hall
      cases t with
      | nil => rfl
      | cons q t =>
        exfalso
        have e := hall p (by simp) q (by simp)
        have := (List.pairwise_cons.1 hs).1 q (by simp)
        rw [e] at this
        exact lt_irrefl _ this
    · have : p ∈ C.filter (good x) := by rw [hF]; simp
      exact ⟨p, (List.mem_filter.1 this).1, (List.mem_filter.1 this).2⟩

theorem in_calls {x : Int} {p : S26} (hx : U x) (hp : U p.f0) (w : World) : Calls Try.prog 16 #[.int .u32 x, .agg #[.int .u32 p.f0, .int .i64 p.f1]] w fun e w' => e = .returned (.bool (good x p)) ∧ Below w.heap.size w w' := by
  obtain ⟨k, hk⟩ := (ev_In hx hp).rounds
  exact waymarkref01_In.calls k _ _ _ _ w hk
theorem cmp_calls {p q : S26} (hl : lt p q) (w : World) : Calls Try.prog 18 #[.agg #[.int .u32 p.f0, .int .i64 p.f1], .agg #[.int .u32 q.f0, .int .i64 q.f1]] w fun e w' => e = .returned (.int .i64 (-1)) ∧ Below w.heap.size w w' := by
  obtain ⟨k, hk⟩ := (ev_Cmp p q).rounds
  have e : cmpP p q = -1 := by unfold cmpP; rw [if_pos hl]
  rw [e] at hk
  exact waymarkref01_Cmp.calls k _ _ _ _ _ w hk
theorem within_calls {C : List S26} (hC : Canon C) {p q : S26} (hp : p ∈ C) (hq : q ∈ C) (hne : p ≠ q) (w : World) : Calls Try.prog 19 #[.agg #[.int .u32 p.f0, .int .i64 p.f1], .agg #[.int .u32 q.f0, .int .i64 q.f1]] w fun e w' => e = .returned (.bool false) ∧ Below w.heap.size w w' := by
  obtain ⟨k, hk⟩ := (ev_Within (V_U (hC.valid p hp)) (V_U (hC.valid q hq))).rounds
  have e : decide (chk p.f0 p.f1 = 0 ∧ chk q.f0 q.f1 = 0 ∧ wi p q) = false := decide_eq_false (fun h => hne (hC.flat p hp q hq h.2.2))
  rw [e] at hk
  exact waymarkref01_Within.calls k _ _ _ _ _ w hk
theorem common_calls {C : List S26} (hC : Canon C) {p q : S26} (hp : p ∈ C) (hq : q ∈ C) (hl : lt p q) : ∃ r0 r1 : Int, (p.f1 = q.f1 → r1 ≠ p.f1 - 1) ∧ ∀ w, Calls Try.prog 17 #[.agg #[.int .u32 p.f0, .int .i64 p.f1], .agg #[.int .u32 q.f0, .int .i64 q.f1]] w fun e w' => e = .returned (.tuple #[.agg #[.int .u32 r0, .int .i64 r1], .int .i64 0]) ∧ Below w.heap.size w w' := by
  obtain ⟨⟨r0, r1, r2⟩, k, hk, h0, h1⟩ := common_canon hC hp hq hl
  simp only at h0 h1
  subst h0
  exact ⟨r0, r1, h1, fun w => waymarkref01_Common.calls k _ _ _ _ _ _ _ w hk⟩
end Go.Proofs.Ytaplkfnolimdmaa.PC.Leaf
