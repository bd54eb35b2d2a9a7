/- trie.Table[int]: what the table's own functions do, as a list of prefixes with numbers. -/
import Derived.Test.YtaplkfnolimdmaaPCx6
import Derived.Test.YtaplkfnolimdmaaMapRaw
import Derived.Test.YtaplkfnolimdmaaBits
import Derived.DeepKeys4
import Derived.StillTailTactics
namespace Go.Proofs.Ytaplkfnolimdmaa.Table
open Go.RowKit Go.Proofs.Ytaplkfnolimdmaa.PC Go.Proofs.YtaplkfnolimdmaaW.PrintWords Go.Proofs.YtaplkfnolimdmaaW.PrintLast Go.Proofs.YtaplkfnolimdmaaW.PrintMore Go.Proofs.YtaplkfnolimdmaaW.Bits Go.Proofs.YtaplkfnolimdmaaW.MapRaw
set_option linter.unusedVariables false
set_option linter.unusedSimpArgs false

abbrev Pf := Int × Int
def eP (p : Pf) : Value := .agg #[.int .u32 p.1, .int .i64 p.2]
def wfP (p : Pf) : Prop := (Lit.int .u32 p.1).wf = true ∧ (Lit.int .i64 p.2).wf = true
def eV (v : Int) : Value := .int .i64 v

theorem laidOut : laidOutB Try.prog = true := by kernel_rfl
theorem rowP : (26 : TypeId) < Try.prog.types.size := of_decide_eq_true (by kernel_rfl)
theorem wideP : (match Try.prog.underlying 26 with | some (.array _ _) | some (.struct _) => true | _ => false) = true := by rw [Try.underlying26]
theorem typeP : Try.prog.keyTypeAt 2 26 = true := by kernel_rfl
theorem lawP : Go.WideMaps.KeyLaw Try.prog 26 := by
  refine deep_law_laid laidOut (m := 2) (by omega) rowP typeP ?_
  rw [Try.underlying26]
theorem keyedP : Go.Maps.Keyed Try.prog 26 := Go.Maps.Keyed.of_law lawP
theorem cellsP : Try.prog.cellsOf 26 = 2 := by kernel_rfl
theorem cellsA : Try.prog.cellsOf 24 = 1 := by kernel_rfl
theorem cellsI : Try.prog.cellsOf 3 = 1 := by kernel_rfl
theorem ktP : Try.prog.keyType 26 = true := by kernel_rfl
theorem reads_gen {P : Program} {k a i : TypeId} {f0 f1 : Field} (hk : P.keyType k = true) (hu : P.underlying k = some (.struct #[f0, f1])) (o0 : f0.offset = 0) (o1 : f1.offset = 1) (t0 : f0.type = a) (t1 : f1.type = i) (n0 : (f0.name != "_") = true) (n1 : (f1.name != "_") = true)
    (hs : Nat.ble 1 P.types.size = true) (ck : P.cellsOf k = 2) (ca : P.cellsOf a = 1) (ci : P.cellsOf i = 1) (ua : P.underlying a = some (.int .u32)) (ui : P.underlying i = some (.int .i64)) {p : Pf} (h : wfP p) : ∃ l, keyOf P k (eP p) = some l := by
  obtain ⟨h1, h2⟩ := h
  obtain ⟨d, hd⟩ : ∃ d, P.types.size = d + 1 := ⟨P.types.size - 1, by have := Nat.le_of_ble_eq_true hs; omega⟩
  simp [keyOf, hk, hu, eP, Value.formed, ck, Value.cells, hd, Program.keyLits, ca, ci, ua, ui, h1, h2, o0, o1, t0, t1]
  exact ⟨by simpa using n0, by simpa using n1⟩
theorem sizeT0 : Nat.ble 1 Try.prog.types.size = true := by kernel_rfl
theorem readsP {p : Pf} (h : wfP p) : ∃ l, keyOf Try.prog 26 (eP p) = some l :=
  reads_gen ktP Try.underlying26 rfl rfl rfl rfl (by decide) (by decide) sizeT0 cellsP cellsA cellsI Try.underlying24 Try.underlying3 h
theorem keyP : Key Try.prog 26 eP wfP := ⟨keyedP, fun {p q} h => by simp [eP] at h; exact Prod.ext h.1 h.2, readsP⟩
end Go.Proofs.Ytaplkfnolimdmaa.Table
