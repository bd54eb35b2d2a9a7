/- A map's block as a list of keys and values: what a look-putL, a store, a deletion and len do to it. Generic over the program. -/
import Derived.Maps.Own
namespace Go.Proofs.YtaplkfnolimdmaaW.MapRaw
open Go.ChangeMaps Go.MapKept
open Go.Maps (Keyed)
set_option linter.unusedVariables false
set_option linter.unusedSimpArgs false

variable {κ ν : Type}

/-- What stands at a key. -/
def lkL [DecidableEq κ] : List (κ × ν) → κ → Option ν
  | [], _ => none
  | x :: l, p => if x.1 = p then some x.2 else lkL l p
/-- Put in: where the key stands, else behind all. -/
def putL [DecidableEq κ] : List (κ × ν) → κ → ν → List (κ × ν)
  | [], p, v => [(p, v)]
  | x :: l, p, v => if x.1 = p then (p, v) :: l else x :: putL l p v
/-- Take out. -/
def delL [DecidableEq κ] : List (κ × ν) → κ → List (κ × ν)
  | [], _ => []
  | x :: l, p => if x.1 = p then l else x :: delL l p

structure Key (P : Program) (k : TypeId) (eK : κ → Value) (ok : κ → Prop) : Prop where
  keyed : Keyed P k
  inj : ∀ {p q : κ}, eK p = eK q → p = q
  reads : ∀ {p : κ}, ok p → ∃ l, keyOf P k (eK p) = some l

/-- Block b of w is a map with these entries. -/
def MapIs (w : World) (eK : κ → Value) (ok : κ → Prop) (eV : ν → Value) (b : Nat) (L : List (κ × ν)) : Prop :=
  ∃ es clock, w.heap[b]? = some (.map es clock) ∧ es.toList.map (fun e => (e.key, e.val)) = L.map (fun x => (eK x.1, eV x.2)) ∧ Stamped es clock ∧ (∀ x ∈ L, ok x.1)

variable {P : Program} {k e t : TypeId} {eK : κ → Value} {ok : κ → Prop} {eV : ν → Value} {w : World} {b : Nat} {L : List (κ × ν)}

theorem MapIs.lt (h : MapIs w eK ok eV b L) : b < w.heap.size := by
  obtain ⟨es, clock, hb, _⟩ := h
  exact (Array.getElem?_eq_some_iff.1 hb).1
theorem MapIs.at {w' : World} (h : MapIs w eK ok eV b L) (hb : w'.heap[b]? = w.heap[b]?) : MapIs w' eK ok eV b L := by
  obtain ⟨es, clock, h0, h1⟩ := h
  exact ⟨es, clock, hb.trans h0, h1⟩
theorem MapIs.made (w : World) : MapIs (w.alloc (.map #[] 0)) eK ok eV w.heap.size ([] : List (κ × ν)) :=
  ⟨#[], 0, (MapKept.heap_alloc w _).1, rfl, stamped_empty 0, by simp⟩

theorem row_of {es : Array MapEntry} (h : es.toList.map (fun e => (e.key, e.val)) = L.map (fun x => (eK x.1, eV x.2))) {j : Nat} {e0 : MapEntry} (hj : es.toList[j]? = some e0) : ∃ x, L[j]? = some x ∧ e0.key = eK x.1 ∧ e0.val = eV x.2 := by
  have : (es.toList.map (fun e => (e.key, e.val)))[j]? = some (e0.key, e0.val) := by rw [List.getElem?_map, hj]; rfl
  rw [h, List.getElem?_map] at this
  cases hx : L[j]? with
  | none => rw [hx] at this; cases this
  | some x => rw [hx] at this; simp at this; exact ⟨x, rfl, this.1.symm, this.2.symm⟩
theorem keys_of (K : Key P k eK ok) {es : Array MapEntry} (h : es.toList.map (fun e => (e.key, e.val)) = L.map (fun x => (eK x.1, eV x.2))) (ho : ∀ x ∈ L, ok x.1) : ∀ e ∈ es.toList, ∃ l, keyOf P k e.key = some l := by
  intro e0 he
  obtain ⟨j, hj⟩ := List.mem_iff_getElem?.1 he
  obtain ⟨x, hx, h1, _⟩ := row_of h hj
  rw [h1]
  exact K.reads (ho x (List.mem_of_getElem? hx))
theorem nodup_of (K : Key P k eK ok) {es : Array MapEntry} {clock : Nat} (h : es.toList.map (fun e => (e.key, e.val)) = L.map (fun x => (eK x.1, eV x.2))) (hs : Stamped es clock) : (L.map Prod.fst).Nodup := by
  have h3 := hs.2.2
  have e1 : es.toList.map (·.key) = (L.map Prod.fst).map eK := by
    have := congrArg (List.map Prod.fst) h
    simpa [List.map_map, Function.comp_def] using this
  rw [e1] at h3
  exact List.Pairwise.of_map _ (fun a b hab e => hab (by rw [e])) h3
theorem MapIs.nodup (h : MapIs w eK ok eV b L) (K : Key P k eK ok) : (L.map Prod.fst).Nodup := by
  obtain ⟨es, clock, _, h1, h2, _⟩ := h
  exact nodup_of K h1 h2
theorem MapIs.len (h : MapIs w eK ok eV b L) : ∃ es clock, w.heap[b]? = some (.map es clock) ∧ es.size = L.length := by
  obtain ⟨es, clock, hb, h1, _⟩ := h
  refine ⟨es, clock, hb, ?_⟩
  have := congrArg List.length h1
  simpa using this

variable [DecidableEq κ]
theorem lk_none {L : List (κ × ν)} {p : κ} (h : ∀ x ∈ L, x.1 ≠ p) : lkL L p = none := by
  induction L with
  | nil => rfl
  | cons x l ih =>
    unfold lkL
    rw [if_neg (h x (by simp))]
    exact ih fun y hy => h y (by simp [hy])
theorem lk_some {L : List (κ × ν)} {p : κ} {j : Nat} {x : κ × ν} (hn : (L.map Prod.fst).Nodup) (hj : L[j]? = some x) (hx : x.1 = p) : lkL L p = some x.2 := by
  induction L generalizing j with
  | nil => simp at hj
  | cons y l ih =>
    simp only [List.map_cons, List.nodup_cons] at hn
    unfold lkL
    cases j with
    | zero =>
      simp at hj
      subst hj
      rw [if_pos hx]
    | succ j =>
      simp at hj
      have : y.1 ≠ p := by
        intro e
        rw [e, ← hx] at hn
        exact hn.1 (List.mem_map.2 ⟨x, List.mem_of_getElem? hj, rfl⟩)
      rw [if_neg this]
      exact ih hn.2 hj
theorem up_none {L : List (κ × ν)} {p : κ} {v : ν} (h : ∀ x ∈ L, x.1 ≠ p) : putL L p v = L ++ [(p, v)] := by
  induction L with
  | nil => rfl
  | cons x l ih =>
    unfold putL
    rw [if_neg (h x (by simp)), ih fun y hy => h y (by simp [hy])]
    rfl
theorem up_some {L : List (κ × ν)} {p : κ} {v : ν} {j : Nat} {x : κ × ν} (hn : (L.map Prod.fst).Nodup) (hj : L[j]? = some x) (hx : x.1 = p) : putL L p v = L.set j (p, v) := by
  induction L generalizing j with
  | nil => simp at hj
  | cons y l ih =>
    simp only [List.map_cons, List.nodup_cons] at hn
    unfold putL
    cases j with
    | zero =>
      simp at hj
      subst hj
      rw [if_pos hx]
      rfl
    | succ j =>
      simp at hj
      have : y.1 ≠ p := by
        intro e
        rw [e, ← hx] at hn
        exact hn.1 (List.mem_map.2 ⟨x, List.mem_of_getElem? hj, rfl⟩)
      rw [if_neg this, ih hn.2 hj]
      rfl
theorem del_none {L : List (κ × ν)} {p : κ} (h : ∀ x ∈ L, x.1 ≠ p) : delL L p = L := by
  induction L with
  | nil => rfl
  | cons x l ih =>
    unfold delL
    rw [if_neg (h x (by simp)), ih fun y hy => h y (by simp [hy])]
theorem del_some {L : List (κ × ν)} {p : κ} {j : Nat} {x : κ × ν} (hn : (L.map Prod.fst).Nodup) (hj : L[j]? = some x) (hx : x.1 = p) : delL L p = L.eraseIdx j := by
  induction L generalizing j with
  | nil => simp at hj
  | cons y l ih =>
    simp only [List.map_cons, List.nodup_cons] at hn
    unfold delL
    cases j with
    | zero =>
      simp at hj
      subst hj
      rw [if_pos hx]
      rfl
    | succ j =>
      simp at hj
      have : y.1 ≠ p := by
        intro e
        rw [e, ← hx] at hn
        exact hn.1 (List.mem_map.2 ⟨x, List.mem_of_getElem? hj, rfl⟩)
      rw [if_neg this, ih hn.2 hj]
      rfl

/-- 'm[k]' (c = false) and 'v, ok := m[k]' (c = true). -/
theorem MapIs.look (h : MapIs w eK ok eV b L) (K : Key P k eK ok) (c : Bool) (ht : P.underlying t = some (.map k e)) {z : Value} (hz : (zeroValue e).run P w = .ok z w) {p : κ} (hp : ok p) :
    (Instr.lookup t (.map (some b)) (eK p) c).run P w = .ok (match lkL L p with | some v => if c then .tuple #[eV v, .bool true] else eV v | none => if c then .tuple #[z, .bool false] else z) w := by
  obtain ⟨es, clock, hb, h1, hs, ho⟩ := h
  obtain ⟨kl, hkey⟩ := K.reads hp
  have hn := nodup_of K h1 hs
  rcases K.keyed.find w hkey es.toList (keys_of K h1 ho) with ⟨f1, f2⟩ | ⟨j, e0, f1, f2, f3⟩
  · have : lkL L p = none := lk_none fun x hx e => by
      obtain ⟨j, hj⟩ := List.mem_iff_getElem?.1 hx
      have : (es.toList.map (fun e => (e.key, e.val)))[j]? = some (eK x.1, eV x.2) := by rw [h1, List.getElem?_map, hj]; rfl
      rw [List.getElem?_map] at this
      cases hy : es.toList[j]? with
      | none => rw [hy] at this; cases this
      | some y =>
        rw [hy] at this
        simp at this
        exact f2 y (List.mem_of_getElem? hy) (by rw [this.1, e])
    rw [this]
    simp [Instr.lookup, run_underlying ht, MapKept.run_getObj_map hb, K.keyed.check w _ hkey, f1, hz, Result.andThen]
  · obtain ⟨x, hx, g1, g2⟩ := row_of h1 f2
    have : lkL L p = some x.2 := lk_some hn hx (K.inj (by rw [← g1, f3]))
    rw [this]
    simp [Instr.lookup, run_underlying ht, MapKept.run_getObj_map hb, K.keyed.check w _ hkey, f1, g2, Result.andThen]

/-- 'm[k] = v'. -/
theorem MapIs.store (h : MapIs w eK ok eV b L) (K : Key P k eK ok) (ht : P.underlying t = some (.map k e)) {p : κ} (hp : ok p) (v : ν) :
    ∃ w', (Instr.mapUpdate t (.map (some b)) (eK p) (eV v)).run P w = .ok () w' ∧ MapIs w' eK ok eV b (putL L p v) ∧ w.grownBy w' (some b) ∧ w'.heap.size = w.heap.size := by
  obtain ⟨es, clock, hb, h1, hs, ho⟩ := h
  obtain ⟨kl, hkey⟩ := K.reads hp
  have hn := nodup_of K h1 hs
  have gr : ∀ o, w.grownBy (setBlock w b o) (some b) := fun o => ⟨rfl, rfl, rfl, by simp [setBlock], fun i _ hi => heap_setBlock_other hb _ (fun e => hi (by rw [e]))⟩
  rcases K.keyed.find w hkey es.toList (keys_of K h1 ho) with ⟨f1, f2⟩ | ⟨j, e0, f1, f2, f3⟩
  · have hno : ∀ x ∈ L, x.1 ≠ p := fun x hx e => by
      obtain ⟨j, hj⟩ := List.mem_iff_getElem?.1 hx
      have : (es.toList.map (fun e => (e.key, e.val)))[j]? = some (eK x.1, eV x.2) := by rw [h1, List.getElem?_map, hj]; rfl
      rw [List.getElem?_map] at this
      cases hy : es.toList[j]? with
      | none => rw [hy] at this; cases this
      | some y =>
        rw [hy] at this
        simp at this
        exact f2 y (List.mem_of_getElem? hy) (by rw [this.1, e])
    refine ⟨setBlock w b (.map (es.push ⟨eK p, eV v, clock⟩) (clock + 1)), ?_, ⟨_, _, heap_setBlock_same hb _, ?_, stamped_push hs f2, ?_⟩, gr _, by simp [setBlock]⟩
    · simp [Instr.mapUpdate, run_underlying ht, MapKept.run_getObj_map hb, K.keyed.check w false hkey, f1, MapKept.run_setObj_map _ hb, Result.andThen, setBlock]
    · rw [up_none hno]
      simp [h1]
    · rw [up_none hno]
      intro x hx
      rcases List.mem_append.1 hx with hx | hx
      · exact ho x hx
      · obtain rfl : x = (p, v) := by simpa using hx
        exact hp
  · obtain ⟨x, hx, g1, g2⟩ := row_of h1 f2
    have hxp : x.1 = p := K.inj (by rw [← g1, f3])
    have hj : es[j]? = some e0 := by simpa using f2
    have hkeyf : ∀ e', es[j]? = some e' → ({ e' with key := eK p, val := eV v } : MapEntry).key = e'.key := fun e' he' => by rw [hj] at he'; cases he'; exact f3.symm
    have hlist : (es.modify j (fun e' => { e' with key := eK p, val := eV v })).toList = es.toList.set j { e0 with key := eK p, val := eV v } := by rw [Array.toList_modify, modify_eq_set _ _ _ _ f2]
    refine ⟨setBlock w b (.map (es.modify j (fun e' => { e' with key := eK p, val := eV v })) clock), ?_, ⟨_, _, heap_setBlock_same hb _, ?_, stamped_modify hs _ _ (fun _ _ => rfl) (fun e' _ he' => hkeyf e' he'), ?_⟩, gr _, by simp [setBlock]⟩
    · simp [Instr.mapUpdate, run_underlying ht, MapKept.run_getObj_map hb, K.keyed.check w false hkey, f1, hj, f3, K.keyed.stays w hkey, MapKept.run_setObj_map _ hb, Result.andThen, setBlock]
    · rw [up_some hn hx hxp, hlist, List.map_set, List.map_set, h1]
    · rw [up_some hn hx hxp]
      intro y hy
      rcases List.mem_or_eq_of_mem_set hy with hy | rfl
      · exact ho y hy
      · exact hp

/-- 'delete(m, k)'. -/
theorem MapIs.delete (h : MapIs w eK ok eV b L) (K : Key P k eK ok) {ty : TypeId} (ht : P.underlying t = some (.map k e)) {p : κ} (hp : ok p) :
    ∃ w', (Builtin.delete_ #[t, k] ty #[.map (some b), eK p]).run P w = .ok (.tuple #[]) w' ∧ MapIs w' eK ok eV b (delL L p) ∧ w.grownBy w' (some b) ∧ w'.heap.size = w.heap.size := by
  obtain ⟨es, clock, hb, h1, hs, ho⟩ := h
  obtain ⟨kl, hkey⟩ := K.reads hp
  have hn := nodup_of K h1 hs
  have gr : ∀ o, w.grownBy (setBlock w b o) (some b) := fun o => ⟨rfl, rfl, rfl, by simp [setBlock], fun i _ hi => heap_setBlock_other hb _ (fun e => hi (by rw [e]))⟩
  rcases K.keyed.find w hkey es.toList (keys_of K h1 ho) with ⟨f1, f2⟩ | ⟨j, e0, f1, f2, f3⟩
  · have hno : ∀ x ∈ L, x.1 ≠ p := fun x hx e => by
      obtain ⟨j, hj⟩ := List.mem_iff_getElem?.1 hx
      have : (es.toList.map (fun e => (e.key, e.val)))[j]? = some (eK x.1, eV x.2) := by rw [h1, List.getElem?_map, hj]; rfl
      rw [List.getElem?_map] at this
      cases hy : es.toList[j]? with
      | none => rw [hy] at this; cases this
      | some y =>
        rw [hy] at this
        simp at this
        exact f2 y (List.mem_of_getElem? hy) (by rw [this.1, e])
    refine ⟨setBlock w b (.map es clock), ?_, ⟨_, _, heap_setBlock_same hb _, ?_, hs, ?_⟩, gr _, by simp [setBlock]⟩
    · simp [Builtin.delete_, run_underlying ht, MapKept.run_getObj_map hb, K.keyed.check w _ hkey, f1, MapKept.run_setObj_map _ hb, Result.andThen, setBlock]
    · rw [del_none hno]; exact h1
    · rw [del_none hno]; exact ho
  · obtain ⟨x, hx, g1, g2⟩ := row_of h1 f2
    have hxp : x.1 = p := K.inj (by rw [← g1, f3])
    have hjl : j < es.toList.length := (List.getElem?_eq_some_iff.1 f2).1
    have hjs : j < es.size := by simpa using hjl
    have hsub : (es.eraseIdxIfInBounds j).toList = es.toList.eraseIdx j := by
      unfold Array.eraseIdxIfInBounds
      rw [dif_pos hjs]
      simp
    refine ⟨setBlock w b (.map (es.eraseIdxIfInBounds j) clock), ?_, ⟨_, _, heap_setBlock_same hb _, ?_, stamped_erase hs j, ?_⟩, gr _, by simp [setBlock]⟩
    · simp [Builtin.delete_, run_underlying ht, MapKept.run_getObj_map hb, K.keyed.check w _ hkey, f1, MapKept.run_setObj_map _ hb, Result.andThen, setBlock]
    · rw [del_some hn hx hxp, hsub, map_eraseIdx, map_eraseIdx, h1]
    · rw [del_some hn hx hxp]
      intro y hy
      exact ho y ((List.eraseIdx_sublist _ _).subset hy)
end Go.Proofs.YtaplkfnolimdmaaW.MapRaw
