/- TrieNames: the law's function answers true. -/
import Derived.Test.YtaplkfnolimdmaaIterNilS
namespace Go.Proofs.Ytaplkfnolimdmaa.TableS
open Go.Proofs.Ytaplkfnolimdmaa.Table (Pf eP wfP keyP)
open Go.RowKit Go.Proofs.Ytaplkfnolimdmaa.PC Go.Proofs.YtaplkfnolimdmaaW.PrintWords Go.Proofs.YtaplkfnolimdmaaW.PrintLast Go.Proofs.YtaplkfnolimdmaaW.PrintMore Go.Proofs.YtaplkfnolimdmaaW.Bits Go.Proofs.YtaplkfnolimdmaaW.MapRaw
set_option linter.unusedVariables false
set_option linter.unusedSimpArgs false

theorem eql_func (W : World) (g : Nat) (c : Array Value) : (binOp BinOp.eql 73 (Value.func (Fn.func g) #[] c) Value.nilFunc).run Try.prog W = .ok (.bool false) W := by
  kernel_rfl
/-- What stands through the law's walk: the answer's own cell, and the blocks for the loops' deferred calls. -/
structure St (w : World) (Ds : List Nat) (N : Nat) (W : World) : Prop where
  below : Below w.heap.size w W
  box : W.heap[w.heap.size]? = some (.cells #[.bool false] 4 (0, 0))
  defs : ∀ D ∈ Ds, W.heap[D]? = some (.deferred (some []))
  lt : ∀ D ∈ Ds, w.heap.size < D ∧ D < N
  nodup : Ds.Nodup
  low : w.heap.size < N
  size : N ≤ W.heap.size
variable {w W W' : World} {Ds : List Nat} {N : Nat}
theorem St.to (h : St w Ds N W) (hb : Below W.heap.size W W') : St w Ds N W' :=
  ⟨h.below.trans (hb.mono h.below.size), (hb.block _ (by have := h.low; have := h.size; omega)).trans h.box, fun D hD => (hb.block _ (by have := (h.lt D hD).2; have := h.size; omega)).trans (h.defs D hD), h.lt, h.nodup, h.low, Nat.le_trans h.size hb.size⟩
theorem St.alloc (h : St w Ds N W) (o : Obj) : St w Ds N (W.alloc o) := h.to ((Below.refl _ W).alloc (Nat.le_refl _) o)
theorem St.grow (h : St w Ds N W) {D : Nat} (h1 : N ≤ D) (h2 : W.heap[D]? = some (.deferred (some []))) : St w (D :: Ds) W.heap.size W :=
  ⟨h.below, h.box, fun D' hD => (List.mem_cons.1 hD).elim (fun e => e ▸ h2) (h.defs D'), fun D' hD => (List.mem_cons.1 hD).elim (fun e => by subst e; exact ⟨by have := h.low; omega, (Array.getElem?_eq_some_iff.1 h2).1⟩) (fun h3 => ⟨(h.lt D' h3).1, by have := (h.lt D' h3).2; have := h.size; omega⟩), List.nodup_cons.2 ⟨fun h3 => by have := (h.lt D h3).2; omega, h.nodup⟩, by have := h.low; have := h.size; omega, Nat.le_refl _⟩
theorem St.but (h : St w Ds N W) {S : Nat → Prop} (hb : But S W W') (hS : ∀ k, S k → N ≤ k) : St w Ds N W' :=
  ⟨h.below.trans (hb.below h.below.size (fun k hk => by have := hS k hk; have := h.low; omega)), (hb.block _ (by have := h.low; have := h.size; omega) (fun hs => by have := hS _ hs; have := h.low; omega)).trans h.box,
    fun D hD => (hb.block _ (by have := (h.lt D hD).2; have := h.size; omega) (fun hs => by have := hS _ hs; have := (h.lt D hD).2; omega)).trans (h.defs D hD), h.lt, h.nodup, h.low, Nat.le_trans h.size hb.size⟩
theorem St.start (w : World) : St w [] (w.heap.size + 1) (w.alloc (.cells #[.bool false] 4)) :=
  ⟨(Below.refl w.heap.size w).alloc (Nat.le_refl _) _, blk_new w _, by simp, by simp, by simp, by omega, by simp⟩

theorem calls_of_wp_marks {P : Program} {f : FuncId} {fn : Func} {c : Code} {args : Array Value} {w : World} {R : Ending → World → Prop} (hf : P.funcs[f]? = some fn) (hb : fn.body = some c)
    (h : c.wp P (bodyPostM Fence.wide 3 P fn R) { tmps := args ++ Array.replicate (fn.ntmps - args.size) undef, defers := [] } w) : Calls P f args w R :=
  (callsIn_wide (n := 3)).1 (callsIn_of_wp_marks hf hb trivial (wpIn_wide.2 h) rfl)
theorem leaves_taken {P : Program} {F : Fence} {n : Nat} {fn : Func} {tmps : Array Value} {R : Ending → World → Prop} : ∀ (Ds : List Nat) (W : World), Ds.Nodup → (∀ D ∈ Ds, W.heap[D]? = some (.deferred (some []))) →
    (∀ W', But (fun k => k ∈ Ds) W W' → ∃ v, (results fn tmps).run P W' = .ok v W' ∧ R (.returned v) W') → LeavesInM F n P fn tmps R (Ds.map fun D => { target := .collected D, args := #[] }) .returning W
  | [], W, _, _, h => h W (But.refl _ W)
  | D :: Ds, W, hn, hd, h => by
    have hD := hd D (by simp)
    have hp : But (fun k => k ∈ D :: Ds) W (W.putObj D (.deferred none)) := ⟨rfl, rfl, rfl, by simp [World.putObj], fun k hk hne => World.putObj_heap_other (fun e => hne (by simp [e]))⟩
    refine ⟨by simp, .inl ⟨_, _, rfl, run_takeDeferred hD, ?_⟩⟩
    refine leaves_taken Ds _ (List.nodup_cons.1 hn).2 (fun D' h' => ?_) (fun W' hb => h W' (hp.trans (hb.mono (fun k hk => by simp [hk]))))
    have hne : D' ≠ D := fun e => (List.nodup_cons.1 hn).1 (by rw [← e]; exact h')
    exact (World.putObj_heap_other (by first | exact hne | exact hne.symm)).trans (hd D' (by simp [h']))

abbrev q0 : Pf := (0, 0)
theorem wf0 : wfP q0 := by unfold Go.Proofs.Ytaplkfnolimdmaa.Table.wfP; decide
theorem chk0 : chk q0.1 q0.2 = 0 := by kernel_rfl
abbrev sAll : ByteArray := ⟨#[97, 108, 108]⟩
abbrev LA : List (Pf × Vt) := [(q0, sAll)]
theorem putA : (if chk q0.1 q0.2 = 0 then putL ([] : List (Pf × Vt)) q0 sAll else []) = LA := by rw [if_pos chk0]; rfl
abbrev q33 : Pf := (0, 33)
theorem wf33 : wfP q33 := by unfold Go.Proofs.Ytaplkfnolimdmaa.Table.wfP; decide
theorem chk33 : chk q33.1 q33.2 = 1 := by kernel_rfl
abbrev qM : Pf := (1, 0)
theorem wfM : wfP qM := by unfold Go.Proofs.Ytaplkfnolimdmaa.Table.wfP; decide
theorem chkM : chk qM.1 qM.2 = 10 := by kernel_rfl
abbrev q1 : Pf := (0, 1)
theorem wf1 : wfP q1 := by unfold Go.Proofs.Ytaplkfnolimdmaa.Table.wfP; decide
theorem chk1 : chk q1.1 q1.2 = 0 := by kernel_rfl
theorem lkA1 : lkL LA q1 = none := by rfl
theorem longA : longest LA 4294967295 = (q0, sAll, true) := by kernel_rfl

theorem putAll (W : World) (bt bm : Nat) (h : TabIs W bt bm []) : Calls Try.prog 43 #[.pointer (some ⟨bt, 0, none⟩), .agg #[.int .u32 0, .int .i64 0], .string ⟨#[97, 108, 108]⟩] W fun e w' => e = .returned (.int .i64 0) ∧ TabIs w' bt bm LA ∧ But (fun k => k = bt ∨ k = bm) W w' := by
  have := put_calls q0 sAll wf0 W bt bm [] h (by simp)
  rw [putA, chk0] at this
  exact this
theorem put33 (W : World) (bt bm : Nat) (v : ByteArray) (h : TabIs W bt bm LA) : Calls Try.prog 43 #[.pointer (some ⟨bt, 0, none⟩), .agg #[.int .u32 0, .int .i64 33], .string v] W fun e w' => e = .returned (.int .i64 1) ∧ TabIs w' bt bm LA ∧ But (fun k => k = bt ∨ k = bm) W w' := by
  have := put_calls q33 v wf33 W bt bm LA h (by simp)
  rw [chk33] at this
  exact this
theorem putM (W : World) (bt bm : Nat) (v : ByteArray) (h : TabIs W bt bm LA) : Calls Try.prog 43 #[.pointer (some ⟨bt, 0, none⟩), .agg #[.int .u32 1, .int .i64 0], .string v] W fun e w' => e = .returned (.int .i64 10) ∧ TabIs w' bt bm LA ∧ But (fun k => k = bt ∨ k = bm) W w' := by
  have := put_calls qM v wfM W bt bm LA h (by simp)
  rw [chkM] at this
  exact this
theorem drop1 (W : World) (bt bm : Nat) (h : TabIs W bt bm LA) : Calls Try.prog 46 #[.pointer (some ⟨bt, 0, none⟩), .agg #[.int .u32 0, .int .i64 1]] W fun e w' => e = .returned (.int .i64 5) ∧ Below W.heap.size W w' :=
  drop_none q1 wf1 W bt bm LA h lkA1 chk1
theorem longAll (W : World) (bt bm : Nat) (h : TabIs W bt bm LA) : Calls Try.prog 38 #[.pointer (some ⟨bt, 0, none⟩), .int .u32 4294967295] W fun e w' => e = .returned (.tuple #[.agg #[.int .u32 0, .int .i64 0], .string ⟨#[97, 108, 108]⟩, .bool true]) ∧ Below W.heap.size W w' := by
  have := longest_calls 4294967295 (by omega) W bt bm LA h
  rw [longA] at this
  exact this
theorem put_nil0 (v : ByteArray) (w : World) : Calls Try.prog 43 #[.pointer none, .agg #[.int .u32 0, .int .i64 0], .string v] w fun e w' => e = .returned (.int .i64 2) ∧ Below w.heap.size w w' := put_nil (0, 0) v w
theorem drop_nil0 (w : World) : Calls Try.prog 46 #[.pointer none, .agg #[.int .u32 0, .int .i64 0]] w fun e w' => e = .returned (.int .i64 2) ∧ Below w.heap.size w w' := drop_nil (0, 0) w
set_option maxRecDepth 100000 in
set_option maxHeartbeats 4000000 in
theorem names_walk (w : World) : Calls Try.prog 8 #[] w fun e w' => e = .returned (.bool true) ∧ Below w.heap.size w w' := by
  have HS := Aside0.mk (St.start w)
  have hfe := eql_func
  refine calls_of_wp_marks Try.func8 rfl ?_
  simp only [Try.ntmps8, List.size_toArray, List.length_cons, List.length_nil, Nat.reduceAdd, Nat.reduceSub, Array.replicate_succ, Array.replicate_zero, List.push_toArray, List.append_toArray, List.nil_append, List.cons_append]
  go_wp2_with (first
    | (go_at_call 37; refine (at_nil (0, 0) _).mono ?_; rintro e w1 ⟨rfl, hb⟩; have n0_ := Aside0.mk (HS.out.to hb); clear HS hb; have HS := n0_; clear n0_)
    | (go_at_call 38; refine (longest_nil _ _).mono ?_; rintro e w2 ⟨rfl, hb⟩; have n0_ := Aside0.mk (HS.out.to hb); clear HS hb; have HS := n0_; clear n0_)
    | (go_at_call 39; refine (all_nil _).mono ?_; rintro e w3 ⟨rfl, rfl⟩)
    | (go_at_call 40; refine (Over_nil _ _).mono ?_; rintro e w3 ⟨rfl, rfl⟩)
    | (go_at_call 41; refine (Within_nil (0, 0) _).mono ?_; rintro e w3 ⟨rfl, rfl⟩))
  have hs1 := ((((((HS.out.alloc (Obj.cells #[Value.int IntKind.u32 0, Value.int IntKind.i64 0] 26)).alloc (Obj.cells #[Value.slice none 0 0] 146)).alloc (Obj.cells #[Value.slice none 0 0] 146)).alloc (Obj.cells #[Value.int IntKind.u32 0, Value.int IntKind.i64 0] 26)).alloc (Obj.cells #[Value.slice none 0 0] 146)).alloc (Obj.cells #[Value.slice none 0 0] 146))
  refine range_nil rfl (by simp) (by simp [go_sem]) ?_
  intro D1 w4 hD hK hb
  have HS1 := Aside0.mk ((hs1.to hb).grow (Nat.le_trans hs1.size hD) hK)
  clear hs1 hD hK hb HS
  go_wp2_with (first
    | (go_at_call 40; refine (Over_nil _ _).mono ?_; rintro e w3 ⟨rfl, rfl⟩))
  have hs1 := HS1.out.alloc (Obj.cells #[Value.slice none 0 0] 146)
  refine range_nil rfl (by simp) (by simp [go_sem]) ?_
  intro D2 w5 hD hK hb
  have HS2 := Aside0.mk ((hs1.to hb).grow (Nat.le_trans hs1.size hD) hK)
  clear hs1 hD hK hb HS1
  go_wp2_with (first
    | (go_at_call 41; refine (Within_nil (0, 0) _).mono ?_; rintro e w3 ⟨rfl, rfl⟩))
  have hs1 := (HS2.out.alloc (Obj.cells #[Value.int IntKind.u32 0, Value.int IntKind.i64 0] 26)).alloc (Obj.cells #[Value.slice none 0 0] 146)
  refine range_nil rfl (by simp) (by simp [go_sem]) ?_
  intro D3 w6 hD hK hb
  have HS3 := Aside0.mk ((hs1.to hb).grow (Nat.le_trans hs1.size hD) hK)
  clear hs1 hD hK hb HS2
  go_wp2_with (first
    | (go_at_call 42; refine (new_calls _).mono ?_; rintro e w7 ⟨bt, bm, rfl, hT, h1, h2, hb⟩; have T0 := Aside0.mk hT; have BT := Aside0.mk (show w6.heap.size ≤ bt ∧ w6.heap.size ≤ bm from ⟨h1, h2⟩); have HS := Aside0.mk (HS3.out.to hb); clear HS3 hT h1 h2 hb)
    | (go_at_call 43; (with_reducible refine (putAll _ bt bm T0.out).mono ?_); rintro e w8 ⟨rfl, hT, hb⟩; have T1 := Aside0.mk hT; have n0_ := Aside0.mk (HS.out.but hb (fun k hk => by rcases hk with rfl | rfl; exact BT.out.1; exact BT.out.2)); clear HS T0 hT hb; have HS := n0_; clear n0_)
    | (go_at_call 38; (with_reducible refine (longAll _ bt bm T1.out).mono ?_); rintro e w9 ⟨rfl, hb⟩; have T2 := Aside0.mk ((T1.out.below hb).below ((Below.refl _ _).alloc (Nat.le_refl _) (Obj.cells #[Value.int IntKind.u32 0, Value.int IntKind.i64 0] 26))); have n0_ := Aside0.mk ((HS.out.to hb).alloc (Obj.cells #[Value.int IntKind.u32 0, Value.int IntKind.i64 0] 26)); clear HS T1 hb; have HS := n0_; clear n0_)
    | (go_at_call 44; refine (len_nil _).mono ?_; rintro e w3 ⟨rfl, rfl⟩)
    | (go_at_call 45; refine (copy_nil _).mono ?_; rintro e w3 ⟨rfl, rfl⟩)
    | (go_at_call 43; (with_reducible refine (put_nil0 _ _).mono ?_); rintro e w10 ⟨rfl, hb⟩; have T3 := Aside0.mk (T2.out.below hb); have n0_ := Aside0.mk (HS.out.to hb); clear HS T2 hb; have HS := n0_; clear n0_)
    | (go_at_call 46; (with_reducible refine (drop_nil0 _).mono ?_); rintro e w11 ⟨rfl, hb⟩; have T4 := Aside0.mk (T3.out.below hb); have n0_ := Aside0.mk (HS.out.to hb); clear HS T3 hb; have HS := n0_; clear n0_)
    | (go_at_call 43; (with_reducible refine (put33 _ bt bm _ T4.out).mono ?_); rintro e w12 ⟨rfl, hT, hb⟩; have T5 := Aside0.mk hT; have n0_ := Aside0.mk (HS.out.but hb (fun k hk => by rcases hk with rfl | rfl; exact BT.out.1; exact BT.out.2)); clear HS T4 hT hb; have HS := n0_; clear n0_)
    | (go_at_call 43; (with_reducible refine (putM _ bt bm _ T5.out).mono ?_); rintro e w13 ⟨rfl, hT, hb⟩; have T6 := Aside0.mk hT; have n0_ := Aside0.mk (HS.out.but hb (fun k hk => by rcases hk with rfl | rfl; exact BT.out.1; exact BT.out.2)); clear HS T5 hT hb; have HS := n0_; clear n0_)
    | (go_at_call 46; (with_reducible refine (drop1 _ bt bm T6.out).mono ?_); rintro e w14 ⟨rfl, hb⟩; have n0_ := Aside0.mk (HS.out.to hb); clear HS T6 hb; have HS := n0_; have hbc := blk_cell n0_.out.box 0; have hbf := blk_frozen n0_.out.box 0; clear n0_))
  refine leaves_taken [D3, D2, D1] _ HS.out.nodup (fun D hD => (Below.heap_setCell _ _ _ _ (fun e => by have := (HS.out.lt D hD).1; simp at e; omega)).trans (HS.out.defs D hD)) ?_
  intro W' hb
  have hb2 := blk_put HS.out.box 0 (.bool true) rfl
  have hb3 := (hb.block w.heap.size (by have := HS.out.low; have := HS.out.size; simp; omega) (fun h => by have := (HS.out.lt _ h).1; omega)).trans hb2
  have hc : W'.cell? ⟨w.heap.size, 0, none⟩ = some (.bool true) := by rw [blk_cell hb3]; rfl
  refine ⟨.bool true, ?_, rfl, ?_⟩
  · simp [results, Try.f8, go_sem, hc]
  · exact (HS.out.below.setCell (p := ⟨w.heap.size, 0, none⟩) (Nat.le_refl _) _).trans (hb.below (by have := HS.out.low; have := HS.out.size; simp; omega) (fun k hk => by have := (HS.out.lt k hk).1; omega))
end Go.Proofs.Ytaplkfnolimdmaa.TableS
