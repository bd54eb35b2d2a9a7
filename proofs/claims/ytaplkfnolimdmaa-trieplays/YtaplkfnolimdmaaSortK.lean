/- slices.SortFunc at structs without slices in them, in the words of the printed contracts: a row of the call's own comes back sorted. Out of the shelf's contract. -/
import Derived.Shelf.SlSortCmp.NoneTotal
import Derived.Test.YtaplkfnolimdmaaWWords
import Derived.Test.YtaplkfnolimdmaaWKept
namespace Go.Proofs.YtaplkfnolimdmaaW.SortK
open Go.Shelf Go.RowKit Go.Lib Go.Sort Go.Proofs.YtaplkfnolimdmaaW.PrintWords
variable {α : Type} [Inhabited α]

/-- What is asked of the order's function: it answers cf, whatever the world; it may draw and make memory. -/
def CmpGives (P : Program) (g : Nat) (enc : α → List Value) (cf : α → α → Int) : Prop :=
  ∀ (x y : α) (W : World), Calls P g #[.agg (enc x).toArray, .agg (enc y).toArray] W fun e w' => e = .returned (.int .i64 (cf x y)) ∧ ∃ q os', w' = grow (W.drewN q) os'

omit [Inhabited α] in
theorem reps_unique {enc : α → List Value} {k : Nat} {xs : List α} {c1 c2 : List Value} (h1 : Reps (fun x cs => cs = enc x) k xs c1) (h2 : Reps (fun x cs => cs = enc x) k xs c2) : c1 = c2 := by
  obtain ⟨l1, g1⟩ := h1
  obtain ⟨l2, g2⟩ := h2
  apply List.ext_getElem?
  intro t
  rcases Nat.lt_or_ge t (xs.length * k) with ht | ht
  · have k0 : 0 < k := by
      rcases Nat.eq_zero_or_pos k with h | h
      · subst h; simp at ht
      · exact h
    have hd : t / k < xs.length := (Nat.div_lt_iff_lt_mul k0).2 ht
    have hx := List.getElem?_eq_getElem hd
    have e1 := g1 _ _ hx
    have e2 := g2 _ _ hx
    have e3 : (List.take k (List.drop (t / k * k) c1))[t % k]? = (List.take k (List.drop (t / k * k) c2))[t % k]? := by rw [e1, e2]
    rw [List.getElem?_take_of_lt (Nat.mod_lt _ k0), List.getElem?_take_of_lt (Nat.mod_lt _ k0), List.getElem?_drop, List.getElem?_drop, Nat.div_add_mod'] at e3
    exact e3
  · rw [List.getElem?_eq_none (by omega), List.getElem?_eq_none (by omega)]

theorem flatK_reps (enc : α → List Value) (k : Nat) (hk : ∀ x, (enc x).length = k) (xs : List α) : Reps (fun x cs => cs = enc x) k xs (flatK enc k xs.toArray).toList := by
  refine ⟨by simp, fun j p hj => ?_⟩
  have hjl : j < xs.length := (List.getElem?_eq_some_iff.1 hj).1
  have hjp : xs[j] = p := (List.getElem?_eq_some_iff.1 hj).2
  have hmul : j * k + k ≤ xs.length * k := by rw [← Nat.succ_mul]; exact Nat.mul_le_mul_right _ hjl
  apply List.ext_getElem
  · simp [hk]
    omega
  · intro i h1 h2
    have hi : i < k := by rw [hk] at h2; exact h2
    have k0 : 0 < k := by omega
    have hb : j * k + i < xs.toArray.size * k := by simp; omega
    have hg := get_flatK enc k xs.toArray (j * k + i) hb
    have hdiv : (j * k + i) / k = j := by
      rw [Nat.mul_comm, Nat.mul_add_div k0, Nat.div_eq_of_lt hi, Nat.add_zero]
    have hmod : (j * k + i) % k = i := by
      rw [Nat.mul_comm, Nat.mul_add_mod, Nat.mod_eq_of_lt hi]
    rw [hdiv, hmod] at hg
    have hs : j * k + i < (flatK enc k xs.toArray).size := by simp; omega
    rw [getElem!_pos (flatK enc k xs.toArray) (j * k + i) hs] at hg
    have hx : xs.toArray[j]! = p := by simp [hjl, hjp]
    rw [hx] at hg
    simp only [List.getElem_take, List.getElem_drop, Array.getElem_toList]
    rw [hg, getElem!_pos (enc p) i h2]

theorem heap_sortedK {enc : α → List Value} {k : Nat} {w : World} {g n : Nat} {os : Array Obj} {cur : Array Value} {e : TypeId} {fr : Nat × Nat} (d : Array α) (hb : w.heap[g]? = some (.cells cur e fr)) :
    (sortWorldK enc k w g 0 n d os).heap[g]? = some (.cells (putCells id 0 (flatK enc k d) cur) e fr) := by
  have hg : g < w.heap.size := (Array.getElem?_eq_some_iff.1 hb).1
  unfold sortWorldK putRowK
  rw [heap_grow_old _ _ (by simpa using hg)]
  simp [putRow, mapBlock, Sort.ahead, Array.getElem?_modify, hb, onCells]

theorem grownBy_sortedK {enc : α → List Value} {k : Nat} {w : World} {g n : Nat} {os : Array Obj} (d : Array α) : w.grownBy (sortWorldK enc k w g 0 n d os) (some g) := by
  unfold sortWorldK putRowK
  refine ⟨rfl, rfl, rfl, by simp, fun k hk hne => ?_⟩
  rw [heap_grow_old _ _ (by simpa using hk)]
  have : g ≠ k := fun e => hne (by rw [e])
  simp [putRow, mapBlock, Sort.ahead, Array.getElem?_modify, this]

theorem take_putCells_id (cur F : Array Value) (h : F.size ≤ cur.size) : (putCells id 0 F cur).toList.take F.size = F.toList := by
  apply List.ext_getElem?
  intro j
  by_cases hj : j < F.size
  · rw [List.getElem?_take_of_lt hj, Array.getElem?_toList]
    simp [putCells, hj, show j < cur.size by omega]
  · rw [List.getElem?_eq_none (by simp; omega), List.getElem?_eq_none (by simp; omega)]

set_option maxHeartbeats 1000000 in
/-- A row of the call's own, sorted in place. -/
theorem sort_R {P : Program} {ρ : Ren} (L : SlLaysF0.n6 P ρ) (d : Kd α) (aE : ∀ w, (isAgg (ρ.t 24)).run P w = .ok true w) (zE : ∀ w, (Go.sizeOf (ρ.t 24)).run P w = .ok d.sz w) (enc : α → List Value)
    (hM : ∀ w base ok x cs, d.M w base ok x cs ↔ cs = enc x) (hk : ∀ x, (enc x).length = d.sz) (h1 : ∀ x, ∀ v ∈ enc x, v.oneCell' = true) (cf : α → α → Int) (hO : SWO (ltOf cf)) (hT : ∀ x y, (ltOf cf) x y = false → (ltOf cf) y x = false → x = y)
    (g : Nat) (eg : ∀ args w, (callFunc g args).run P w = .ok (.enter g args) w) (hcmp : CmpGives P g enc cf) {e : Nat} {w : World} {base : Nat} {ok : Nat → Prop} {v : Value} {xs : List α} (h : d.R e w base ok v xs) (hsz : xs.length < 4611686018427387904) :
    Calls P (ρ.f 6) #[v, .func (.func g) #[] #[]] w fun e' w' => e' = .returned (.tuple #[]) ∧ d.R e w' base ok v (xs.mergeSort fun x y => !(ltOf cf) y x) ∧ w.grownBy w' v.ownBlock := by
  obtain ⟨h0, inner, ho, hr⟩ := h
  have hr' : Reps (fun x cs => cs = enc x) d.sz xs inner := hr.imp_ (fun _ _ hp => (hM _ _ _ _ _).1 hp)
  by_cases hz : xs.length = 0
  · obtain rfl : xs = [] := List.eq_nil_of_length_eq_zero hz
    obtain ⟨A, c, rfl⟩ := own_slice ho
    refine (AnyF.slices_SortFunc_none { L with } A c (.func (.func g) #[] #[]) w).mono ?_
    rintro e' w' ⟨rfl, rfl⟩
    exact ⟨rfl, ⟨h0, inner, by simpa using ho, by simpa using hr⟩, World.grownBy.refl _ _⟩
  · rcases ho.2 with ⟨_, hn⟩ | ⟨b, cap, cur, rfl, hb, hh, hn, hc, hs, ht⟩
    · exact absurd hn hz
    · have hin : inner = (flatK enc d.sz xs.toArray).toList := reps_unique hr' (flatK_reps enc d.sz hk xs)
      have hcap : xs.length * d.sz ≤ cur.size := by rw [hs]; exact Nat.mul_le_mul_right _ hn
      have hH : HoldsK enc d.sz w b 0 xs.toArray := by
        intro j hj
        have hj' : j < xs.length * d.sz := by simpa using hj
        refine ⟨?_, by simp [World.frozen?, hh]⟩
        have e1 : (cur.toList.take (xs.length * d.sz))[j]? = (flatK enc d.sz xs.toArray).toList[j]? := by rw [ht, hin]
        rw [List.getElem?_take_of_lt hj', Array.getElem?_toList, Array.getElem?_toList, Array.getElem?_eq_getElem hj] at e1
        rw [getElem!_pos (flatK enc d.sz xs.toArray) j hj]
        simp only [World.cell?, hh, Nat.zero_add, id]
        simpa using e1
      have hcon := AnyQ.slices_SortFunc_total L d.sz aE zE enc hk h1 cf hO g #[] b 0 cap xs.toArray w eg (fun _ _ _ _ x y => hcmp x y _) hH (Array.getElem?_eq_some_iff.1 hh).1 (by simpa using hsz) hT
      have hcon' : Calls P (ρ.f 6) #[.slice (some ⟨b, 0, none⟩) xs.length cap, .func (.func g) #[] #[]] w fun e w' =>
          e = .returned (.tuple #[]) ∧ ∃ n os, w' = sortWorldK enc d.sz w b 0 n (xs.mergeSort fun x y => !(ltOf cf) y x).toArray os := by simpa using hcon
      refine hcon'.mono ?_
      rintro e' w' ⟨rfl, n, os, rfl⟩
      have hl : (xs.mergeSort fun x y => !(ltOf cf) y x).length = xs.length := List.length_mergeSort _
      refine ⟨rfl, ⟨h0, (flatK enc d.sz (xs.mergeSort fun x y => !(ltOf cf) y x).toArray).toList, ⟨by simp [hl], .inr ⟨b, cap, _, by rw [hl], hb, heap_sortedK _ hh, by rw [hl]; exact hn, hc, by simp [putCells, hs], ?_⟩⟩, ?_⟩, ?_⟩
      · have := take_putCells_id cur (flatK enc d.sz (xs.mergeSort fun x y => !(ltOf cf) y x).toArray) (by simpa [hl] using hcap)
        rw [← this]
        simp
      · exact (flatK_reps enc d.sz hk _).imp_ (fun _ _ hp => (hM _ _ _ _ _).2 hp)
      · exact grownBy_sortedK _
end Go.Proofs.YtaplkfnolimdmaaW.SortK
