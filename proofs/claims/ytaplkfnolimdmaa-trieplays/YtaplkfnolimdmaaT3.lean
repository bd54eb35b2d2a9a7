/- TrieLongest's own 'laid': a table of prefixes, each with its place. -/
import Derived.Test.YtaplkfnolimdmaaT2
import Derived.BigQuiet
namespace Go.Proofs.Ytaplkfnolimdmaa.Table
open Go.RowKit Go.Proofs.Ytaplkfnolimdmaa.PC Go.Proofs.YtaplkfnolimdmaaW.PrintWords Go.Proofs.YtaplkfnolimdmaaW.PrintLast Go.Proofs.YtaplkfnolimdmaaW.PrintMore Go.Proofs.YtaplkfnolimdmaaW.Bits Go.Proofs.YtaplkfnolimdmaaW.MapRaw
set_option linter.unusedVariables false
set_option linter.unusedSimpArgs false

/-- The table when the first n prefixes are put. -/
def laidN (l : List Pf) : Nat → List (Pf × Int)
  | 0 => []
  | i + 1 => if chk (l.getD i (0, 0)).1 (l.getD i (0, 0)).2 = 0 then putL (laidN l i) (l.getD i (0, 0)) (i : Int) else laidN l i
theorem laidN_len (l : List Pf) (n : Nat) : (laidN l n).length ≤ n := by
  induction n with
  | zero => simp [laidN]
  | succ i ih =>
    unfold laidN
    split
    · have := put_len (laidN l i) (l.getD i (0, 0)) (i : Int); omega
    · omega
set_option maxRecDepth 100000 in
set_option maxHeartbeats 2000000 in
theorem laid_calls (A : Option Addr) (c : Nat) (l : List Pf) (w : World) (hr : Kd.C kP w A l.length l) (hw : ∀ p ∈ l, wfP p) (hl : l.length ≤ 200) :
    Calls Try.prog 20 #[.slice A l.length c] w fun e w' => ∃ bt bm, e = .returned (.pointer (some ⟨bt, 0, none⟩)) ∧ TabIs w' bt bm (laidN l l.length) ∧ w.heap.size ≤ bt ∧ w.heap.size ≤ bm ∧ Below w.heap.size w w' := by
  have HR := Aside0.mk hr
  have HW := Aside0.mk hw
  have HL := Aside0.mk hl
  clear hr hw
  obtain ⟨M, hM⟩ : ∃ M : Nat, M = l.length + 2 := ⟨_, rfl⟩
  have HM := Aside0.mk hM
  clear hM
  go_enter Try.func20, Try.ntmps20
  go_wp2_with (first | (go_at_call 26; refine (new_calls _).mono ?_; rintro e w1 ⟨bt, bm, rfl, hT, h1, h2, hb⟩; have HT := Aside0.mk hT; have HN := Aside0.mk (show w.heap.size ≤ bt ∧ w.heap.size ≤ bm from ⟨h1, h2⟩); have HB := Aside0.mk hb; clear hT h1 h2 hb))
  go_loopw [4] (fun i wr => ∃ k : Nat, k ≤ l.length ∧ i = .int .i64 k ∧ Aside0 (TabIs wr bt bm (laidN l k)) ∧ Aside0 (Below w.heap.size w wr)) (fun i _ => l.length - (intOf i).toNat)
  case atStart => exact ⟨0, Nat.zero_le _, rfl, HT, HB⟩
  case round =>
    clear HT HB
    obtain ⟨k, hk, rfl, HT, HB⟩ := hrel
    by_cases hlt : k < l.length
    · have cib : decide ((k : Int) < (l.length : Int)) = true := decide_eq_true (by omega)
      have cib2 : decide (k < l.length) = true := decide_eq_true hlt
      have cic : decide ((k : Int) < 200) = true := decide_eq_true (by omega)
      have cic2 : decide (k < 200) = true := decide_eq_true (by omega)
      obtain ⟨ad, ea, d0, d1⟩ := at_P (Kd.C_below HR.out HB.out) (k : Int) (by omega) (by omega)
      cases ea
      have e1 : rdP l (k : Int) = l[k] := by unfold rdP; rw [List.getD_eq_getElem?_getD, Int.toNat_natCast, List.getElem?_eq_getElem hlt]; rfl
      rw [e1] at d0 d1
      simp only [Int.toNat_natCast] at d0 d1
      have HP := Aside0.mk (show wfP l[k] ∧ laidN l (k + 1) = (if chk l[k].1 l[k].2 = 0 then putL (laidN l k) l[k] (k : Int) else laidN l k) from ⟨HW.out _ (List.getElem_mem hlt), by
        have e2 : l.getD k (0, 0) = l[k] := by rw [List.getD_eq_getElem?_getD, List.getElem?_eq_getElem hlt]; rfl
        conv => lhs; unfold laidN
        rw [e2]⟩)
      clear e1
      obtain ⟨p, hp⟩ : ∃ p, l[k] = p := ⟨_, rfl⟩
      rw [hp] at d0 d1 HP
      clear hp
      have hpu := wf_U HP.out.1
      have HN2 := Aside0.mk (laidN_len l k)
      have hq1 : (0 : Int) ≤ (k : Int) := by omega
      have hq2 : (k : Int) < (l.length : Int) := by omega
      go_wp2_with (first
        | (go_at_call 27; refine (put_calls p (k : Int) HP.out.1 _ bt bm (laidN l k) HT.out (by have := HN2.out; omega)).mono ?_; rintro e w6 ⟨rfl, hT6, hb6⟩; have HT6 := Aside0.mk hT6; have HB6 := Aside0.mk (HB.out.trans (hb6.below HB.out.size (fun k hk => by have := HN.out; rcases hk with rfl | rfl <;> omega))); clear hT6 hb6))
      go_roundw
      case rel => exact ⟨k + 1, by omega, (by first | (simp; done) | go_num), ⟨by rw [HP.out.2]; exact HT6.out⟩, HB6⟩
      case measure => simp [intOf]; omega
    · obtain rfl : k = l.length := by omega
      have cib : decide ((l.length : Int) < (l.length : Int)) = false := decide_eq_false (by omega)
      have cib2 : decide (l.length < l.length) = false := decide_eq_false (by omega)
      go_wp2
      go_ret
      exact ⟨bt, bm, rfl, HT.out, HN.out.1, HN.out.2, HB.out⟩
end Go.Proofs.Ytaplkfnolimdmaa.Table
namespace Go.Proofs.Ytaplkfnolimdmaa.Table
open Go.RowKit Go.Proofs.Ytaplkfnolimdmaa.PC Go.Proofs.YtaplkfnolimdmaaW.PrintWords Go.Proofs.YtaplkfnolimdmaaW.PrintLast Go.Proofs.YtaplkfnolimdmaaW.PrintMore Go.Proofs.YtaplkfnolimdmaaW.Bits Go.Proofs.YtaplkfnolimdmaaW.MapRaw
set_option linter.unusedVariables false
set_option linter.unusedSimpArgs false

/-- What the reference's In tells. -/
def gX (x : Int) (p : Pf) : Bool := decide (Leaf.chk p.1 p.2 = 0 ∧ Cov.inP x (toS p))
theorem refIn_calls {x : Int} {p : Pf} (hx : 0 ≤ x ∧ x < 4294967296) (hp : wfP p) (w : World) : Calls Try.prog 16 #[.int .u32 x, .agg #[.int .u32 p.1, .int .i64 p.2]] w fun e w' => e = .returned (.bool (gX x p)) ∧ Below w.heap.size w w' := by
  obtain ⟨k, hk⟩ := (Leaf.ev_In (x := x) (p := toS p) hx (wf_U hp)).rounds
  exact waymarkref01_In.calls k _ _ _ _ w hk
theorem refWithin_calls {p q : Pf} (hp : wfP p) (hq : wfP q) (w : World) : Calls Try.prog 19 #[.agg #[.int .u32 p.1, .int .i64 p.2], .agg #[.int .u32 q.1, .int .i64 q.2]] w fun e w' => e = .returned (.bool (gIn q p)) ∧ Below w.heap.size w w' := by
  obtain ⟨k, hk⟩ := (Leaf.ev_Within (p := toS p) (q := toS q) (wf_U hp) (wf_U hq)).rounds
  exact waymarkref01_Within.calls k _ _ _ _ _ w hk
theorem gX_iff {x : Int} {p : Pf} (hx : 0 ≤ x ∧ x < 4294967296) (hp : wfP p) (hc : chk p.1 p.2 = 0) : gX x p = true ↔ par x p.2 = p.1 := by
  have hv : Cov.V (toS p) := Leaf.V_of (p := toS p) (wf_U hp) hc
  unfold gX
  rw [decide_eq_true_iff, ← Leaf.in_iff hv]
  exact ⟨fun h => h.2, fun h => ⟨hc, h⟩⟩
theorem gX_chk {x : Int} {p : Pf} (h : gX x p = true) : chk p.1 p.2 = 0 := (of_decide_eq_true h).1

theorem laidN_some (y : List Pf) : ∀ (n : Nat) (p : Pf) (v : Int), lkL (laidN y n) p = some v → ∃ i : Nat, v = (i : Int) ∧ i < n ∧ y.getD i (0, 0) = p ∧ chk p.1 p.2 = 0
  | 0, p, v, h => by cases h
  | n + 1, p, v, h => by
    unfold laidN at h
    by_cases c : chk (y.getD n (0, 0)).1 (y.getD n (0, 0)).2 = 0
    · rw [if_pos c, lk_put] at h
      by_cases e : p = y.getD n (0, 0)
      · rw [if_pos e] at h
        cases h
        exact ⟨n, rfl, by omega, e.symm, by rw [e]; exact c⟩
      · rw [if_neg e] at h
        obtain ⟨i, h1, h2, h3⟩ := laidN_some y n p v h
        exact ⟨i, h1, by omega, h3⟩
    · rw [if_neg c] at h
      obtain ⟨i, h1, h2, h3⟩ := laidN_some y n p v h
      exact ⟨i, h1, by omega, h3⟩
theorem laidN_has (y : List Pf) : ∀ (n i : Nat), i < n → chk (y.getD i (0, 0)).1 (y.getD i (0, 0)).2 = 0 → (lkL (laidN y n) (y.getD i (0, 0))).isSome = true
  | 0, i, h, _ => absurd h (by omega)
  | n + 1, i, h, hc => by
    unfold laidN
    by_cases c : chk (y.getD n (0, 0)).1 (y.getD n (0, 0)).2 = 0
    · rw [if_pos c, lk_put]
      by_cases e : y.getD i (0, 0) = y.getD n (0, 0)
      · rw [if_pos e]; rfl
      · rw [if_neg e]
        exact laidN_has y n i (by rcases Nat.lt_or_ge i n with h' | h'; exact h'; exact absurd (by rw [show i = n by omega]) e) hc
    · rw [if_neg c]
      exact laidN_has y n i (by rcases Nat.lt_or_ge i n with h' | h'; exact h'; exact absurd (by rw [← show i = n by omega]; exact hc) c) hc

theorem overL_mem {L : List (Pf × Int)} {x : Int} {n : Nat} {p : Pf} : p ∈ overL L x n ↔ ∃ i : Nat, i < n ∧ p = (par x i, (i : Int)) ∧ (lkL L p).isSome = true := by
  unfold overL
  rw [List.mem_filterMap]
  constructor
  · rintro ⟨i, hi, h⟩
    unfold hit at h
    split at h
    · rename_i hs
      cases h
      exact ⟨i, by simpa using hi, rfl, hs⟩
    · cases h
  · rintro ⟨i, hi, rfl, h⟩
    exact ⟨i, by simpa using hi, if_pos h⟩
theorem overL_sorted (L : List (Pf × Int)) (x : Int) (n : Nat) : (overL L x n).Pairwise (fun p q => p.2 < q.2) := by
  induction n with
  | zero => exact List.Pairwise.nil
  | succ n ih =>
    rw [overL_succ, List.pairwise_append]
    refine ⟨ih, ?_, ?_⟩
    · cases hit L x n <;> simp
    · intro p hp q hq
      obtain ⟨i, hi, rfl, _⟩ := overL_mem.1 hp
      unfold hit at hq
      split at hq
      · obtain rfl : q = (par x n, (n : Int)) := by simpa using hq
        show (i : Int) < (n : Int)
        omega
      · simp at hq
theorem overL_nodup (L : List (Pf × Int)) (x : Int) (n : Nat) : (overL L x n).Nodup := (overL_sorted L x n).imp (fun h e => by rw [e] at h; omega)
/-- A key of the table in which the address is stands in the list. -/
theorem overL_of {L : List (Pf × Int)} {x : Int} {p : Pf} (hx : 0 ≤ x ∧ x < 4294967296) (hp : wfP p) (hg : gX x p = true) (hs : (lkL L p).isSome = true) : p ∈ overL L x 33 := by
  have hc := gX_chk hg
  have hb := chk_bits hc
  have he := (gX_iff hx hp hc).1 hg
  refine overL_mem.2 ⟨p.2.toNat, by omega, ?_, hs⟩
  have e2 : ((p.2.toNat : Nat) : Int) = p.2 := by omega
  rw [e2, he]
theorem overL_in {L : List (Pf × Int)} {x : Int} {p : Pf} (hx : 0 ≤ x ∧ x < 4294967296) (hL : ∀ p v, lkL L p = some v → chk p.1 p.2 = 0) (h : p ∈ overL L x 33) : gX x p = true := by
  have hw := (overL_wf hx h).1
  obtain ⟨i, hi, e, hs⟩ := overL_mem.1 h
  obtain ⟨v, hv⟩ := Option.isSome_iff_exists.1 hs
  refine (gX_iff hx hw (hL p v hv)).2 ?_
  rw [e]
theorem countX {L : List (Pf × Int)} {lp : List Pf} {x : Int} (hx : 0 ≤ x ∧ x < 4294967296) (hL : ∀ p v, lkL L p = some v → chk p.1 p.2 = 0) (hn : (L.map Prod.fst).Nodup) (hw : ∀ p ∈ L.map Prod.fst, wfP p) (hp : lp.Perm (L.map Prod.fst)) :
    ((rowsOf L (sortP lp)).filter (fun r => gX x r.1)).length = (overL L x 33).length := by
  have e1 : (rowsOf L (sortP lp)).filter (fun r => gX x r.1) = rowsOf L ((sortP lp).filter (gX x)) := by
    unfold rowsOf
    rw [List.filter_map]
    rfl
  rw [e1]
  unfold rowsOf
  rw [List.length_map, (((sortP_perm lp).trans hp).filter (gX x)).length_eq]
  refine List.Perm.length_eq ((List.perm_ext_iff_of_nodup (hn.filter _) (overL_nodup L x 33)).2 fun p => ?_)
  rw [List.mem_filter]
  constructor
  · rintro ⟨h1, h2⟩
    exact overL_of hx (hw p h1) h2 (lk_mem_iff.2 h1)
  · intro h
    exact ⟨lk_mem_iff.1 (by obtain ⟨_, v, hv⟩ := overL_wf hx h; rw [hv]; rfl), overL_in hx hL h⟩
theorem countI {L : List (Pf × Int)} {lp lq : List Pf} {q : Pf} (hp : lp.Perm (L.map Prod.fst)) (hq : lq.Perm ((L.map Prod.fst).filter (gIn q))) :
    ((rowsOf L (sortP lp)).filter (fun r => gIn q r.1)).length = (rowsOf L (sortP lq)).length := by
  have e1 : (rowsOf L (sortP lp)).filter (fun r => gIn q r.1) = rowsOf L ((sortP lp).filter (gIn q)) := by
    unfold rowsOf
    rw [List.filter_map]
    rfl
  rw [e1]
  unfold rowsOf
  rw [List.length_map, List.length_map, (((sortP_perm lp).trans hp).filter (gIn q)).length_eq, ((sortP_perm lq).trans hq).length_eq]
/-- The last one's bits, or -1. -/
def lastB : List Pf → Int
  | [] => -1
  | [p] => p.2
  | _ :: l => lastB l
theorem lastB_snoc (l : List Pf) (p : Pf) : lastB (l ++ [p]) = p.2 := by
  induction l with
  | nil => rfl
  | cons x l ih =>
    cases l with
    | nil => rfl
    | cons y l => exact ih
theorem lastB_lt {l : List Pf} {p : Pf} (h : (l ++ [p]).Pairwise (fun p q => p.2 < q.2)) (hp : 0 ≤ p.2) : lastB l < p.2 := by
  rcases List.eq_nil_or_concat l with rfl | ⟨m, q, rfl⟩
  · show (-1 : Int) < p.2; omega
  · rw [List.concat_eq_append] at h ⊢
    rw [lastB_snoc]
    exact (List.pairwise_append.1 h).2.2 q (by simp) p (by simp)
/-- What Longest tells, held against the prefixes. -/
theorem longest_law {y : List Pf} {x : Int} (hx : 0 ≤ x ∧ x < 4294967296) (hy : ∀ p ∈ y, wfP p) :
    ∃ (p : Pf) (v : Int) (is : Bool), longest (laidN y y.length) x = (p, v, is) ∧ (is = true → gX x p = true ∧ wfP p ∧ ∃ i : Nat, v = (i : Int) ∧ i < y.length ∧ y.getD i (0, 0) = p) ∧
      (∀ i : Nat, i < y.length → gX x (y.getD i (0, 0)) = true → is = true ∧ (y.getD i (0, 0)).2 ≤ p.2) ∧ lastB (overL (laidN y y.length) x 33) = (if is = true then p.2 else -1) ∧ (is = true → 0 ≤ p.2) ∧ wfP p := by
  have hL : ∀ p v, lkL (laidN y y.length) p = some v → chk p.1 p.2 = 0 := fun p v h => by obtain ⟨_, _, _, _, h4⟩ := laidN_some y _ p v h; exact h4
  have hin : ∀ i : Nat, i < y.length → gX x (y.getD i (0, 0)) = true → y.getD i (0, 0) ∈ overL (laidN y y.length) x 33 := fun i hi hg => by
    have hm : y.getD i (0, 0) ∈ y := by rw [List.getD_eq_getElem?_getD, List.getElem?_eq_getElem hi]; exact List.getElem_mem hi
    exact overL_of hx (hy _ hm) hg (laidN_has y _ i hi (gX_chk hg))
  rcases List.eq_nil_or_concat (overL (laidN y y.length) x 33) with h | ⟨m, p, h⟩
  · refine ⟨(0, 0), 0, false, ?_, by simp, fun i hi hg => ?_, by rw [h]; rfl, by simp, by unfold wfP; decide⟩
    · unfold longest
      rw [h]
      rfl
    · have := hin i hi hg
      rw [h] at this
      cases this
  · rw [List.concat_eq_append] at h
    have hp : p ∈ overL (laidN y y.length) x 33 := by rw [h]; simp
    obtain ⟨hw, v, hv⟩ := overL_wf hx hp
    obtain ⟨i, h1, h2, h3, h4⟩ := laidN_some y _ p v hv
    refine ⟨p, v, true, ?_, fun _ => ⟨overL_in hx hL hp, hw, i, h1, h2, h3⟩, fun j hj hg => ⟨rfl, ?_⟩, by rw [h, lastB_snoc]; rfl, fun _ => (chk_bits h4).1, hw⟩
    · unfold longest
      rw [h, List.getLast?_append]
      simp [hv]
    · have hm := hin j hj hg
      have hs := overL_sorted (laidN y y.length) x 33
      rw [h] at hm hs
      rcases List.mem_append.1 hm with hm | hm
      · have := (List.pairwise_append.1 hs).2.2 _ hm p (by simp)
        omega
      · rw [show y.getD j (0, 0) = p by simpa using hm]
        exact Int.le_refl _
/-- How many have come in which the address is; and that are within q. -/
def cB {rows : List Row} (b : Pf → Bool) (pre : List (Sub rows)) : Int := ((pre.filter (fun r => b r.1.1)).length : Int)
theorem cB_snoc {rows : List Row} (b : Pf → Bool) (pre : List (Sub rows)) (r : Sub rows) : cB b (pre ++ [r]) = cB b pre + (if b r.1.1 = true then 1 else 0) := by
  unfold cB
  rw [List.filter_append, List.length_append]
  by_cases h : b r.1.1 = true <;> simp [h]
theorem cB_bound {rows : List Row} (b : Pf → Bool) (pre : List (Sub rows)) : 0 ≤ cB b pre ∧ cB b pre ≤ pre.length := by
  unfold cB
  have := List.length_filter_le (fun r : Sub rows => b r.1.1) pre
  omega
theorem cB_all {rows : List Row} (b : Pf → Bool) {xs : List (Sub rows)} (h : xs.map (·.1) = rows) : cB b xs = ((rows.filter (fun r => b r.1)).length : Int) := by
  unfold cB
  conv => rhs; rw [← h]
  rw [List.filter_map, List.length_map]
  rfl
/-- The prefixes of what has come. -/
def psOf {rows : List Row} (pre : List (Sub rows)) : List Pf := pre.map (fun r => r.1.1)
theorem psOf_snoc {rows : List Row} (pre : List (Sub rows)) (r : Sub rows) : psOf (pre ++ [r]) = psOf pre ++ [r.1.1] := by
  unfold psOf
  rw [List.map_append]
  rfl
theorem rowsOf_length (L : List (Pf × Int)) (l : List Pf) : (rowsOf L l).length = l.length := by unfold rowsOf; rw [List.length_map]
theorem rowsOf_fst (L : List (Pf × Int)) (l : List Pf) : (rowsOf L l).map Prod.fst = l := by
  unfold rowsOf
  rw [List.map_map]
  exact List.map_id _
theorem all_len {rows : List Row} {xs : List (Sub rows)} (h : xs.map (·.1) = rows) : xs.length = rows.length := by
  have := congrArg List.length h
  rwa [List.length_map] at this
theorem psOf_all {L : List (Pf × Int)} {l : List Pf} {xs : List (Sub (rowsOf L l))} (h : xs.map (·.1) = rowsOf L l) : psOf xs = l := by
  have h1 := congrArg (List.map Prod.fst) h
  rw [rowsOf_fst, List.map_map] at h1
  exact h1
theorem psOf_pre {L : List (Pf × Int)} {l : List Pf} {xs : List (Sub (rowsOf L l))} (h : xs.map (·.1) <+: rowsOf L l) : (psOf xs).Sublist l := by
  have h1 := (h.map Prod.fst).sublist
  rw [rowsOf_fst, List.map_map] at h1
  exact h1
end Go.Proofs.Ytaplkfnolimdmaa.Table
namespace Go.Proofs.Ytaplkfnolimdmaa.Table
open Go.RowKit Go.Proofs.Ytaplkfnolimdmaa.PC Go.Proofs.YtaplkfnolimdmaaW.PrintWords Go.Proofs.YtaplkfnolimdmaaW.PrintLast Go.Proofs.YtaplkfnolimdmaaW.PrintMore Go.Proofs.YtaplkfnolimdmaaW.Bits Go.Proofs.YtaplkfnolimdmaaW.MapRaw
set_option linter.unusedVariables false
set_option linter.unusedSimpArgs false

theorem calls_of_wp_marks {P : Program} {f : FuncId} {fn : Func} {c : Code} {args : Array Value} {w : World} {R : Ending → World → Prop} (hf : P.funcs[f]? = some fn) (hb : fn.body = some c)
    (h : c.wp P (bodyPostM Fence.wide 3 P fn R) { tmps := args ++ Array.replicate (fn.ntmps - args.size) undef, defers := [] } w) : Calls P f args w R :=
  (callsIn_wide (n := 3)).1 (callsIn_of_wp_marks hf hb trivial (wpIn_wide.2 h) rfl)
theorem leaves_taken {P : Program} {F : Fence} {n : Nat} {fn : Func} {tmps : Array Value} {R : Ending → World → Prop} : ∀ (Ds : List Nat) (W : World), Ds.Nodup → (∀ D ∈ Ds, W.heap[D]? = some (.deferred (some []))) →
    (∀ W', But (fun k => k ∈ Ds) W W' → ∃ v, (results fn tmps).run P W' = .ok v W' ∧ R (.returned v) W') → LeavesInM F n P fn tmps R (Ds.map fun D => { target := .collected D, args := #[] }) .returning W
  | [], W, _, _, h => h W (But.refl _ W)
  | D :: Ds, W, hn, hd, h => by
    have hD := hd D (by simp)
    have hp : But (fun k => k ∈ D :: Ds) W (W.putObj D (.deferred none)) := ⟨rfl, rfl, rfl, by simp [World.putObj], fun k hk hne => World.putObj_heap_other (fun e => hne (by simp [e]))⟩
    refine ⟨by simp, .inl ⟨_, _, rfl, run_takeDeferred hD, ?_⟩⟩
    refine leaves_taken Ds _ (List.nodup_cons.1 hn).2 (fun D' h' => ?_) (fun W' hb => h W' (hp.trans (hb.mono (fun k hk => by simp [hk]))))
    have hne : D' ≠ D := fun e => (List.nodup_cons.1 hn).1 (by rw [← e]; exact h')
    exact (World.putObj_heap_other (by first | exact hne | exact hne.symm)).trans (hd D' (by simp [h']))

section
variable {P : Program} {ops : Array Oper} {K : World → Prop} {R : Act → Prop} {a : Act} {o : Oper} {rest : List Oper}
theorem q_region {id : Nat} {T : Exit → Act → World → Prop} {w : World} {l : List Oper} (K : World → Prop) (hm : P.follows .mixedOrders = true) (hB : Region.lexB .any l.toArray = true) (hK : K { w with drawn := w.drawn + 1 })
    (h : wpQuiet P l.toArray K (fun a' => ∀ w', K w' → T .normal a' w') l a) : (Code.region id l.toArray true).wp P T a w := wp_region_quiet hm hB hK (by simpa using h)
theorem q_op {v : Value} {N : Act → Prop} (h : ∀ W, K W → (execOp a.eval o).run P W = .ok (.value v) W) (hr : N (a.put o.dst v)) : o.quiet P a K N :=
  ⟨v, fun W hW => by unfold Oper.quietAt; rw [h W hW]; exact ⟨rfl, rfl⟩, hr⟩
theorem q_call {v : Value} {N : Act → Prop} {f : FuncId} {args : Array Value} (h : ∀ W, K W → (execOp a.eval o).run P W = .ok (.enter f args) W) (hc : ∀ W, K W → Calls P f args W fun e w' => e = .returned v ∧ K w') (hr : N (a.put o.dst v)) : o.quiet P a K N :=
  ⟨v, fun W hW => by unfold Oper.quietAt; rw [h W hW]; exact ⟨rfl, hc W hW⟩, hr⟩
end

theorem eql_P (p : Pf) (W : World) : (binOp BinOp.eql 26 (.agg #[.int .u32 p.1, .int .i64 p.2]) (.agg #[.int .u32 p.1, .int .i64 p.2])).run Try.prog W = .ok (.bool true) W := by
  have h : (Op.equalIn Op.maxDepth 26 (.agg #[.int .u32 p.1, .int .i64 p.2]) (.agg #[.int .u32 p.1, .int .i64 p.2])).run Try.prog W = .ok (decide (p.1 = p.1) && decide (p.2 = p.2)) W := by
    refine eqA_of Try.underlying26 (by kernel_rfl) ?_
    refine eqf_cons (by rfl) (by go_simp; rfl) (by go_simp; rfl) (by go_simp) ?_
    exact eqf_last (by rfl) (by go_simp; rfl) (by go_simp; rfl) (by go_simp)
  simp [binOp, Op.equal, go_sem, h]
theorem neq_P (p q : Pf) (W : World) : (binOp BinOp.neq 26 (.agg #[.int .u32 p.1, .int .i64 p.2]) (.agg #[.int .u32 q.1, .int .i64 q.2])).run Try.prog W = .ok (.bool (!(p.1 == q.1 && p.2 == q.2))) W := by
  have h : (Op.equalIn Op.maxDepth 26 (.agg #[.int .u32 p.1, .int .i64 p.2]) (.agg #[.int .u32 q.1, .int .i64 q.2])).run Try.prog W = .ok (p.1 == q.1 && p.2 == q.2) W := by
    refine eqA_of Try.underlying26 (by kernel_rfl) ?_
    refine eqf_cons (by rfl) (by go_simp; rfl) (by go_simp; rfl) (by go_simp) ?_
    exact eqf_last (by rfl) (by go_simp; rfl) (by go_simp; rfl) (by go_simp)
  simp [binOp, Op.equal, go_sem, h]
end Go.Proofs.Ytaplkfnolimdmaa.Table
