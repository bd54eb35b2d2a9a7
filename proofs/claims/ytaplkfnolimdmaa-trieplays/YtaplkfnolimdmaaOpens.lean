/- From a datum's reading ('DataW.trod') to the kinds of the printed contracts ('Kd'): what came in as an argument is a value of its kind. Generic over the program. -/
import Derived.Test.YtaplkfnolimdmaaWWords
import Derived.Deep.Slices
import Derived.ChangeArms
import Derived.WideShapes
import Derived.SizedLaws
import Derived.ProofKit
namespace Go.Proofs.YtaplkfnolimdmaaW.Opens
open Go.RowKit Go.Proofs.YtaplkfnolimdmaaW.PrintWords

/-- Cells that read as a datum of type t are a value of the kind d. -/
def Opens (P : Program) (t : TypeId) {α : Type} (d : Kd α) (wf : α → Prop) : Prop :=
  ∀ (H : Type) (enc : TypeId × Value → H) (w : World) (base : Nat) (sp : Nat → Bool) (held : Bool) (fuel : Nat) (cs : List Value) (x : DataW H × List MemPlace),
    DataW.trod enc P w base sp held fuel t cs = some x → ∃ y, d.K w y cs ∧ wf y

theorem Opens.imp {P : Program} {t : TypeId} {α : Type} {d : Kd α} {wf wf' : α → Prop} (h : Opens P t d wf) (hw : ∀ y, wf y → wf' y) : Opens P t d wf' := by
  intro H enc w base sp held fuel cs x hx
  obtain ⟨y, hy, hz⟩ := h H enc w base sp held fuel cs x hx
  exact ⟨y, hy, hw y hz⟩

theorem Opens.int {P : Program} {t : TypeId} {k : IntKind} (hu : P.underlying t = some (.int k)) : Opens P t (Kd.int k) (fun n => (Lit.int k n).wf = true) := by
  intro H enc w base sp held fuel cs x h
  obtain ⟨n, rfl, _, hw⟩ := DataW.trod_int hu h
  exact ⟨n, rfl, hw⟩
theorem Opens.bool {P : Program} {t : TypeId} (hu : P.underlying t = some .bool) : Opens P t Kd.bool (fun _ => True) := by
  intro H enc w base sp held fuel cs x h
  obtain ⟨n, rfl, _⟩ := DataW.trod_bool hu h
  exact ⟨n, rfl, trivial⟩
theorem Opens.string {P : Program} {t : TypeId} (hu : P.underlying t = some .string) : Opens P t Kd.string (fun s => s.size ≤ maxLen) := by
  intro H enc w base sp held fuel cs x h
  obtain ⟨s, rfl, _, hs⟩ := DataW.trod_string hu h
  exact ⟨s, rfl, hs⟩

theorem list_of {α : Type} {p : Nat → α → Prop} : ∀ n, (∀ i, i < n → ∃ y, p i y) → ∃ l : List α, l.length = n ∧ ∀ j y, l[j]? = some y → p j y
  | 0, _ => ⟨[], rfl, fun j y h => by simp at h⟩
  | n + 1, h => by
    obtain ⟨l, hl, hp⟩ := list_of n (fun i hi => h i (by omega))
    obtain ⟨y, hy⟩ := h n (by omega)
    refine ⟨l ++ [y], by simp [hl], fun j z hz => ?_⟩
    rcases Nat.lt_trichotomy j n with hj | hj | hj
    · rw [List.getElem?_append_left (by omega)] at hz
      exact hp j z hz
    · subst hj
      rw [List.getElem?_append_right (by omega), hl, Nat.sub_self] at hz
      simp at hz
      subst hz
      exact hy
    · rw [List.getElem?_eq_none (by simp [hl]; omega)] at hz
      cases hz

theorem cells_get {w : World} {base : Nat} {a : Addr} {n : Nat} {cs : List Value} (h : w.cells? base a n = some cs) : cs.length = n ∧ ∀ i u, cs[i]? = some u → w.cell? (a.add i) = some u := by
  unfold World.cells? at h
  split at h
  · have hl := mapM_some_length h
    refine ⟨by simpa using hl, fun i u hu => ?_⟩
    have hi : i < n := by
      have := (List.getElem?_eq_some_iff.1 hu).1
      simp at hl
      omega
    have := mapM_some_get h i i (by simp [hi])
    rw [this]
    exact hu
  · cases h

theorem Opens.slice {P : Program} {t e : TypeId} {α : Type} {d : Kd α} {wf : α → Prop} (hu : P.underlying t = some (.slice e)) (hs : P.cellsOf e = d.sz) (h : Opens P e d wf) :
    Opens P t (Kd.slice e d) (fun l => l.length ≤ maxLen ∧ ∀ y ∈ l, wf y) := by
  intro H enc w base sp held fuel cs x hx
  rcases Deep.open_slice hu hx with ⟨rfl, _⟩ | ⟨a, len, cap, m, n, D, Pl, rfl, hb, hl, hm, hmm, _, hc⟩
  · exact ⟨[], ⟨none, 0, rfl, Nat.le_refl _, Kd.C_nil d w⟩, by simp⟩
  · have hle : len ≤ m := by rw [hmm]; split <;> omega
    obtain ⟨l, hlen, hp⟩ := list_of (p := fun i y => (∃ c, w.cells? base (a.add (i * P.cellsOf e)) (P.cellsOf e) = some c ∧ d.K w y c) ∧ wf y) len (fun i hi => by
      obtain ⟨c, h1, h2⟩ := hc i (by omega)
      obtain ⟨y, hy, hw⟩ := h H enc w base sp held n c _ h2
      exact ⟨y, ⟨c, h1, hy⟩, hw⟩)
    refine ⟨l, ⟨some a, cap, by rw [hlen], by omega, rfl, ?_, fun _ => ⟨a, rfl, fun j p hj => ?_⟩⟩, ?_, fun y hy => ?_⟩
    · simp only [maxLen] at hm
      omega
    · obtain ⟨⟨c, h1, h2⟩, _⟩ := hp j p hj
      obtain ⟨h3, h4⟩ := cells_get h1
      refine ⟨c, by rw [h3, hs], h2, fun i u hi => ?_⟩
      have := h4 i u hi
      rwa [Deep.add_add, hs] at this
    · omega
    · obtain ⟨j, hj⟩ := List.mem_iff_getElem?.1 hy
      exact (hp j y hj).2

/-! structs -/
def FieldsRead {H : Type} (enc : TypeId × Value → H) (P : Program) (w : World) (base : Nat) (sp : Nat → Bool) (held : Bool) (n : Nat) (fs : List Field) (cs : List Value) : Prop :=
  ∀ f ∈ fs, ∃ z, DataW.trod enc P w base sp held n f.type ((cs.drop f.offset).take (P.cellsOf f.type)) = some z
def OpensF (P : Program) (fs : List Field) (off n : Nat) {α : Type} (d : Kd α) (wf : α → Prop) : Prop :=
  ∀ (H : Type) (enc : TypeId × Value → H) (w : World) (base : Nat) (sp : Nat → Bool) (held : Bool) (fuel : Nat) (cs : List Value),
    FieldsRead enc P w base sp held fuel fs cs → ∃ y, d.K w y ((cs.drop off).take n) ∧ wf y
theorem OpensF.one {P : Program} {f : Field} {off n : Nat} {α : Type} {d : Kd α} {wf : α → Prop} (ho : f.offset = off) (hc : P.cellsOf f.type = n) (h : Opens P f.type d wf) : OpensF P [f] off n d wf := by
  intro H enc w base sp held fuel cs hf
  obtain ⟨z, hz⟩ := hf f (by simp)
  rw [ho, hc] at hz
  exact h H enc w base sp held fuel _ z hz
theorem OpensF.cons {P : Program} {f : Field} {fs : List Field} {off n m : Nat} {α β : Type} {d : Kd α} {d2 : Kd β} {wf : α → Prop} {wf2 : β → Prop} (ho : f.offset = off) (hc : P.cellsOf f.type = n) (h : Opens P f.type d wf) (h2 : OpensF P fs (off + n) m d2 wf2) :
    OpensF P (f :: fs) off (n + m) (Kd.pair d d2) (fun y => wf y.1 ∧ wf2 y.2) := by
  intro H enc w base sp held fuel cs hf
  obtain ⟨z, hz⟩ := hf f (by simp)
  rw [ho, hc] at hz
  obtain ⟨y, hy, hw⟩ := h H enc w base sp held fuel _ z hz
  obtain ⟨y2, hy2, hw2⟩ := h2 H enc w base sp held fuel cs (fun g hg => hf g (List.mem_cons_of_mem _ hg))
  refine ⟨(y, y2), ⟨_, _, ?_, hy, hy2⟩, hw, hw2⟩
  rw [List.take_add, List.drop_drop]
theorem Opens.struct {P : Program} {t : TypeId} {fs : Array Field} {n : Nat} {α β : Type} {d : Kd β} {wf : β → Prop} (hu : P.underlying t = some (.struct fs)) (hc : P.cellsOf t = n) (h : OpensF P fs.toList 0 n d wf) (f : α → β) (g : β → α) (hfg : ∀ y, f (g y) = y) :
    Opens P t (Kd.iso d f) (fun x => wf (f x)) := by
  intro H enc w base sp held fuel cs x hx
  obtain ⟨xs, n', rfl, _, hl, hxl, hf⟩ := DataW.trod_struct hu hx
  obtain ⟨y, hy, hw⟩ := h H enc w base sp held n' cs (fun f hfm => by
    obtain ⟨i, hi⟩ := List.mem_iff_getElem?.1 hfm
    have hi' : fs[i]? = some f := by simpa using hi
    have hlt : i < fs.size := (Array.getElem?_eq_some_iff.1 hi').1
    exact ⟨xs[i]'(by omega), by rw [hf i f hi', List.getElem?_eq_getElem]⟩)
  rw [List.drop_zero, List.take_of_length_le (by omega)] at hy
  exact ⟨g y, by show d.K w (f (g y)) cs; rw [hfg]; exact hy, by show wf (f (g y)); rw [hfg]; exact hw⟩

/-- An argument as a row hands it: it reads as a datum whose weights are within reach, and its value is of its type's form. -/
def Reads (P : Program) (t : TypeId) (W : World) (v : Value) : Prop :=
  ∃ (H : Type) (enc : TypeId × Value → H) (base : Nat) (sp : Nat → Bool) (held : Bool) (ts : List TypeId) (ds : List (DataW H)) (j : Nat) (d : DataW H) (ps : List MemPlace),
    (DataW.weightsEach P ts ds).all (· ≤ reachBytes) = true ∧ ts[j]? = some t ∧ ds[j]? = some d ∧ DataW.Trod enc P W 0 sp held t v d ps ∧ Value.okWide P W .any base t v
theorem Reads.opens {P : Program} {t : TypeId} {W : World} {v : Value} (h : Reads P t W v) {α : Type} {d : Kd α} {wf : α → Prop} (ho : Opens P t d wf) : ∃ y, d.K W y v.cells.toList ∧ wf y := by
  obtain ⟨H, enc, base, sp, held, ts, ds, j, dd, ps, _, _, _, ⟨fuel, hf⟩, _⟩ := h
  exact ho H enc W 0 sp held fuel _ _ hf
theorem Reads.agg {P : Program} {t : TypeId} {W : World} {v : Value} (h : Reads P t W v) {fs : Array Field} (hu : P.underlying t = some (.struct fs)) : ∃ cs, v = .agg cs := by
  obtain ⟨H, enc, base, sp, held, ts, ds, j, dd, ps, _, _, _, _, ho⟩ := h
  obtain ⟨cs, h1, _⟩ := WideShapes.okWide_struct hu ho
  exact ⟨cs, h1⟩
/-- A slice argument: its value, its elements, the reach. -/
theorem Reads.slice {P : Program} {t e : TypeId} {W : World} {v : Value} (h : Reads P t W v) (hu : P.underlying t = some (.slice e)) {α : Type} {d : Kd α} {wf : α → Prop} (hs : P.cellsOf e = d.sz) (ho : Opens P e d wf) :
    ∃ (A : Option Addr) (c : Nat) (l : List α), v = .slice A l.length c ∧ l.length ≤ c ∧ d.C W A l.length l ∧ l.length ≤ maxLen ∧ (∀ y ∈ l, wf y) ∧ l.length * P.bytesOf e ≤ 140737488351232 := by
  obtain ⟨y, ⟨A, c, hc, hl, hC⟩, hm, hw⟩ := h.opens (Opens.slice hu hs ho)
  obtain ⟨H, enc, base, sp, held, ts, ds, j, dd, ps, hsz, h1, h2, ⟨fuel, hf⟩, ho2⟩ := h
  obtain ⟨A', len, cap, rfl⟩ := WideShapes.okWide_slice hu ho2
  simp [Value.cells] at hc
  obtain ⟨rfl, rfl, rfl⟩ := hc
  refine ⟨A', cap, y, rfl, hl, hC, hm, hw, ?_⟩
  rcases Deep.open_slice hu hf with ⟨hcs, hx⟩ | ⟨a, len, cap', m, n, D, Pl, hcs, _, _, _, hmm, hx, _⟩
  · simp [Value.cells] at hcs
    rw [hcs.2.1]
    simp
  · simp [Value.cells] at hcs
    obtain ⟨rfl, hlen, rfl⟩ := hcs
    simp only [Prod.mk.injEq] at hx
    obtain ⟨rfl, _⟩ := hx
    have z := sized_slice hsz h1 h2 hu
    simp only [List.length_map, List.length_range] at z
    refine Nat.le_trans (Nat.mul_le_mul_right _ ?_) z
    omega
/-- A whole number that came in. -/
theorem Reads.int {P : Program} {t : TypeId} {W : World} {v : Value} (h : Reads P t W v) {k : IntKind} (hu : P.underlying t = some (.int k)) : ∃ n, v = .int k n ∧ (Lit.int k n).wf = true := by
  obtain ⟨y, hy, hw⟩ := h.opens (Opens.int hu)
  obtain ⟨H, enc, base, sp, held, ts, ds, j, dd, ps, _, _, _, _, ho⟩ := h
  obtain ⟨n, rfl⟩ := WideShapes.okWide_int hu ho
  have e : [Value.int k n] = [Value.int k y] := hy
  simp at e
  exact ⟨n, rfl, by rw [e]; exact hw⟩
end Go.Proofs.YtaplkfnolimdmaaW.Opens
