/-
  No cell of these rows narrows 'for every input' (looked for: loops, veiled, ifaces, maps, wideKeys, modest, calm, conditions, laid).
  DERIVED. THE GIVEN ROWS OF THIS SEAT. 9 by the template 'for every input the law returns true; each argument reads behind the call as it read before'; 0 by the template 'total and deterministic' (their statements: YtaplkfnolimdmaaTotals.lean).
  GIVEN WITH THE SEED: the statements are not yours to turn. If you find one false, say at which input.
  Laid BY PROGRAM, IN A SANDBOX (cutbox-rows.mjs): the forced cells as the released guide's own fill.sh prints them over the translation 4099694dae2f41ea… (all of the seat's roots in one cut). By AI agents, Wed Nov 11 2026. No macro, syntax, notation, axiom, sorry.
-/
import Derived.Test.YtaplkfnolimdmaaChecked
import GoSem.Claim
import GoSem.ClaimJoined
import GoSem.ClaimMapViews
import Derived.JoinedTies
import Derived.KernelRfl
namespace Go.Proofs.Ytaplkfnolimdmaa
/- THE CELL 'sum', in the pinned program and in every row, IS THE sha256 OF THE DUMP (.gsa) THAT YtaplkfnolimdmaaProg.lean LOADS. Nothing in Lean hashes anything: it is a label: what it is worth is what the hold of that sum in a sandbox is worth. -/
noncomputable def Try.pinned : Pinned := { name := "ytaplkfnolimdmaa", sum := "4099694dae2f41ead310c7808cac9ddbcd55223e7590a8a5df4cbbc12add6b68", checked := Try.checked }
namespace Rows
def none {H : Type} : Left H := { results := [], args := [] }

/-- 'waymarklaw04.TrieCovers': WHATEVER THE INPUT: true; the input reads as it did. -/
def trieCoversSpec : ChangeSpec := { name := "trieCovers", fn := fun _ => fun
  | [d] => { results := [.lit (.bool true)], args := [d] }
  | _ => none }
def trieCoversRow : OpenClaim := { program := "ytaplkfnolimdmaa", sum := "4099694dae2f41ead310c7808cac9ddbcd55223e7590a8a5df4cbbc12add6b68", func := "waymark/waymarklaw04.TrieCovers", spec := "trieCovers", unfollowed := true, recurses := true, plainKeys := false, apart := false }
def TrieCoversSaid : Prop := trieCoversRow.holds Try.pinned (OpenSpec.ofChange trieCoversSpec)

/-- ITS FALSE NEIGHBOUR: 'it returns false'. Refute it at one input. -/
def trieCoversWrong : ChangeSpec := { name := "trieCovers", fn := fun _ => fun
  | [d] => { results := [.lit (.bool false)], args := [d] }
  | _ => none }
def TrieCoversWrongFalsely : Prop := trieCoversRow.holds Try.pinned (OpenSpec.ofChange trieCoversWrong)

/-- 'waymarklaw04.TrieCovered': WHATEVER THE INPUT: true; the input reads as it did. -/
def trieCoveredSpec : ChangeSpec := { name := "trieCovered", fn := fun _ => fun
  | [d1, d2] => { results := [.lit (.bool true)], args := [d1, d2] }
  | _ => none }
def trieCoveredRow : OpenClaim := { program := "ytaplkfnolimdmaa", sum := "4099694dae2f41ead310c7808cac9ddbcd55223e7590a8a5df4cbbc12add6b68", func := "waymark/waymarklaw04.TrieCovered", spec := "trieCovered", unfollowed := true, recurses := true, plainKeys := false, apart := false }
def TrieCoveredSaid : Prop := trieCoveredRow.holds Try.pinned (OpenSpec.ofChange trieCoveredSpec)

/-- ITS FALSE NEIGHBOUR: 'it returns false'. Refute it at one input. -/
def trieCoveredWrong : ChangeSpec := { name := "trieCovered", fn := fun _ => fun
  | [d1, d2] => { results := [.lit (.bool false)], args := [d1, d2] }
  | _ => none }
def TrieCoveredWrongFalsely : Prop := trieCoveredRow.holds Try.pinned (OpenSpec.ofChange trieCoveredWrong)

/-- 'waymarklaw04.TrieLongest': WHATEVER THE INPUT: true; the input reads as it did. -/
def trieLongestSpec : ChangeSpec := { name := "trieLongest", fn := fun _ => fun
  | [d1, d2, d3] => { results := [.lit (.bool true)], args := [d1, d2, d3] }
  | _ => none }
def trieLongestRow : OpenClaim := { program := "ytaplkfnolimdmaa", sum := "4099694dae2f41ead310c7808cac9ddbcd55223e7590a8a5df4cbbc12add6b68", func := "waymark/waymarklaw04.TrieLongest", spec := "trieLongest", unfollowed := true, recurses := true, plainKeys := false, apart := false }
def TrieLongestSaid : Prop := trieLongestRow.holds Try.pinned (OpenSpec.ofChange trieLongestSpec)

/-- ITS FALSE NEIGHBOUR: 'it returns false'. Refute it at one input. -/
def trieLongestWrong : ChangeSpec := { name := "trieLongest", fn := fun _ => fun
  | [d1, d2, d3] => { results := [.lit (.bool false)], args := [d1, d2, d3] }
  | _ => none }
def TrieLongestWrongFalsely : Prop := trieLongestRow.holds Try.pinned (OpenSpec.ofChange trieLongestWrong)

/-- 'waymarklaw04.TrieAgain': WHATEVER THE INPUT: true; the input reads as it did. -/
def trieAgainSpec : ChangeSpec := { name := "trieAgain", fn := fun _ => fun
  | [d1, d2, d3, d4] => { results := [.lit (.bool true)], args := [d1, d2, d3, d4] }
  | _ => none }
def trieAgainRow : OpenClaim := { program := "ytaplkfnolimdmaa", sum := "4099694dae2f41ead310c7808cac9ddbcd55223e7590a8a5df4cbbc12add6b68", func := "waymark/waymarklaw04.TrieAgain", spec := "trieAgain", unfollowed := true, recurses := true, plainKeys := false, apart := false }
def TrieAgainSaid : Prop := trieAgainRow.holds Try.pinned (OpenSpec.ofChange trieAgainSpec)

/-- ITS FALSE NEIGHBOUR: 'it returns false'. Refute it at one input. -/
def trieAgainWrong : ChangeSpec := { name := "trieAgain", fn := fun _ => fun
  | [d1, d2, d3, d4] => { results := [.lit (.bool false)], args := [d1, d2, d3, d4] }
  | _ => none }
def TrieAgainWrongFalsely : Prop := trieAgainRow.holds Try.pinned (OpenSpec.ofChange trieAgainWrong)

/-- 'waymarklaw04.TriePlays': WHATEVER THE INPUT: true; the input reads as it did. -/
def triePlaysSpec : ChangeSpec := { name := "triePlays", fn := fun _ => fun
  | [d1, d2, d3] => { results := [.lit (.bool true)], args := [d1, d2, d3] }
  | _ => none }
def triePlaysRow : OpenClaim := { program := "ytaplkfnolimdmaa", sum := "4099694dae2f41ead310c7808cac9ddbcd55223e7590a8a5df4cbbc12add6b68", func := "waymark/waymarklaw04.TriePlays", spec := "triePlays", unfollowed := true, recurses := true, plainKeys := false, apart := false }
def TriePlaysSaid : Prop := triePlaysRow.holds Try.pinned (OpenSpec.ofChange triePlaysSpec)

/-- ITS FALSE NEIGHBOUR: 'it returns false'. Refute it at one input. -/
def triePlaysWrong : ChangeSpec := { name := "triePlays", fn := fun _ => fun
  | [d1, d2, d3] => { results := [.lit (.bool false)], args := [d1, d2, d3] }
  | _ => none }
def TriePlaysWrongFalsely : Prop := triePlaysRow.holds Try.pinned (OpenSpec.ofChange triePlaysWrong)

/-- 'waymarklaw04.TrieNames': WHATEVER THE INPUT: true; the input reads as it did. -/
def trieNamesSpec : ChangeSpec := { name := "trieNames", fn := fun _ => fun
  | [] => { results := [.lit (.bool true)], args := [] }
  | _ => none }
def trieNamesRow : OpenClaim := { program := "ytaplkfnolimdmaa", sum := "4099694dae2f41ead310c7808cac9ddbcd55223e7590a8a5df4cbbc12add6b68", func := "waymark/waymarklaw04.TrieNames", spec := "trieNames", unfollowed := true, recurses := true, plainKeys := false, apart := false }
def TrieNamesSaid : Prop := trieNamesRow.holds Try.pinned (OpenSpec.ofChange trieNamesSpec)

/-- ITS FALSE NEIGHBOUR: 'it returns false'. Refute it at one input. -/
def trieNamesWrong : ChangeSpec := { name := "trieNames", fn := fun _ => fun
  | [] => { results := [.lit (.bool false)], args := [] }
  | _ => none }
def TrieNamesWrongFalsely : Prop := trieNamesRow.holds Try.pinned (OpenSpec.ofChange trieNamesWrong)

/-- 'waymarklaw22.FibStep': WHATEVER THE INPUT: true; the input reads as it did. -/
def fibStepSpec : ChangeSpec := { name := "fibStep", fn := fun _ => fun
  | [d1, d2] => { results := [.lit (.bool true)], args := [d1, d2] }
  | _ => none }
def fibStepRow : OpenClaim := { program := "ytaplkfnolimdmaa", sum := "4099694dae2f41ead310c7808cac9ddbcd55223e7590a8a5df4cbbc12add6b68", func := "waymark/waymarklaw22.FibStep", spec := "fibStep", inPlace := ["internal/bytealg.abigen_runtime_cmpstring"], unfollowed := true, recurses := true, plainKeys := false, apart := false }
def FibStepSaid : Prop := fibStepRow.holds Try.pinned (OpenSpec.ofChange fibStepSpec)

/-- ITS FALSE NEIGHBOUR: 'it returns false'. Refute it at one input. -/
def fibStepWrong : ChangeSpec := { name := "fibStep", fn := fun _ => fun
  | [d1, d2] => { results := [.lit (.bool false)], args := [d1, d2] }
  | _ => none }
def FibStepWrongFalsely : Prop := fibStepRow.holds Try.pinned (OpenSpec.ofChange fibStepWrong)

/-- 'waymarklaw22.FibEach': WHATEVER THE INPUT: true; the input reads as it did. -/
def fibEachSpec : ChangeSpec := { name := "fibEach", fn := fun _ => fun
  | [d] => { results := [.lit (.bool true)], args := [d] }
  | _ => none }
def fibEachRow : OpenClaim := { program := "ytaplkfnolimdmaa", sum := "4099694dae2f41ead310c7808cac9ddbcd55223e7590a8a5df4cbbc12add6b68", func := "waymark/waymarklaw22.FibEach", spec := "fibEach", inPlace := ["internal/bytealg.abigen_runtime_cmpstring"], unfollowed := true, recurses := true, plainKeys := false, apart := false }
def FibEachSaid : Prop := fibEachRow.holds Try.pinned (OpenSpec.ofChange fibEachSpec)

/-- ITS FALSE NEIGHBOUR: 'it returns false'. Refute it at one input. -/
def fibEachWrong : ChangeSpec := { name := "fibEach", fn := fun _ => fun
  | [d] => { results := [.lit (.bool false)], args := [d] }
  | _ => none }
def FibEachWrongFalsely : Prop := fibEachRow.holds Try.pinned (OpenSpec.ofChange fibEachWrong)

/-- 'waymarklaw22.FibNames': WHATEVER THE INPUT: true; the input reads as it did. -/
def fibNamesSpec : ChangeSpec := { name := "fibNames", fn := fun _ => fun
  | [] => { results := [.lit (.bool true)], args := [] }
  | _ => none }
def fibNamesRow : OpenClaim := { program := "ytaplkfnolimdmaa", sum := "4099694dae2f41ead310c7808cac9ddbcd55223e7590a8a5df4cbbc12add6b68", func := "waymark/waymarklaw22.FibNames", spec := "fibNames", inPlace := ["internal/bytealg.abigen_runtime_cmpstring"], unfollowed := true, recurses := true, plainKeys := false, apart := false }
def FibNamesSaid : Prop := fibNamesRow.holds Try.pinned (OpenSpec.ofChange fibNamesSpec)

/-- ITS FALSE NEIGHBOUR: 'it returns false'. Refute it at one input. -/
def fibNamesWrong : ChangeSpec := { name := "fibNames", fn := fun _ => fun
  | [] => { results := [.lit (.bool false)], args := [] }
  | _ => none }
def FibNamesWrongFalsely : Prop := fibNamesRow.holds Try.pinned (OpenSpec.ofChange fibNamesWrong)

/- THE SECOND FORM. 'bulk': how many values and letters a reading holds, each counted each time it is reached (what is shared counts as often as it is met; a slice's spare places count too). A statement '..UptoSaid' is the law's where the arguments, and the package variables that the reading takes, are together of bulk at most 1048576: NARROWER than '..Said'. Prove '..Said' where nothing that the law and all that it calls make is longer than what came in: it says more and counts as full. Else prove '..UptoSaid'. A law counts once. -/
mutual
def uptoBulk {H : Type} : DataW H → Nat
  | .lit (.string bytes) => bytes.length + 1
  | .lit _ => 1
  | .nil => 1
  | .ptr d => uptoBulk d + 1
  | .slice elems spare => uptoBulkAll elems + uptoBulkAll spare + 1
  | .agg parts => uptoBulkAll parts + 1
  | .iface _ d => uptoBulk d + 1
  | .map entries => uptoBulkEntries entries + 1
  | .held _ => 1
def uptoBulkAll {H : Type} : List (DataW H) → Nat
  | [] => 0
  | d :: r => uptoBulk d + uptoBulkAll r
def uptoBulkEntries {H : Type} : List (Lit × DataW H) → Nat
  | [] => 0
  | x :: r => uptoBulkEntry x + uptoBulkEntries r
def uptoBulkEntry {H : Type} : Lit × DataW H → Nat
  | (.string bytes, d) => bytes.length + uptoBulk d + 1
  | (_, d) => uptoBulk d + 1
 end
def uptoSmall : (H : Type) → List (DataW H) → Bool := fun _ ds => decide (uptoBulkAll ds ≤ 1048576)
def OpenSpec.upto (s : _root_.Go.ChangeSpec) : _root_.Go.OpenSpec := { _root_.Go.OpenSpec.ofChange s with cond := some uptoSmall }

/-- 'waymarklaw04.TrieCovers', WHERE WHAT IT READS IS OF BULK AT MOST 1048576: true; the input reads as it did. -/
def trieCoversUptoRow : OpenClaim := { program := "ytaplkfnolimdmaa", sum := "4099694dae2f41ead310c7808cac9ddbcd55223e7590a8a5df4cbbc12add6b68", func := "waymark/waymarklaw04.TrieCovers", spec := "trieCovers", unfollowed := true, recurses := true, plainKeys := false, apart := false, narrowed := true }
def TrieCoversUptoSaid : Prop := trieCoversUptoRow.holds Try.pinned (OpenSpec.upto trieCoversSpec)

/-- 'waymarklaw04.TrieCovered', WHERE WHAT IT READS IS OF BULK AT MOST 1048576: true; the input reads as it did. -/
def trieCoveredUptoRow : OpenClaim := { program := "ytaplkfnolimdmaa", sum := "4099694dae2f41ead310c7808cac9ddbcd55223e7590a8a5df4cbbc12add6b68", func := "waymark/waymarklaw04.TrieCovered", spec := "trieCovered", unfollowed := true, recurses := true, plainKeys := false, apart := false, narrowed := true }
def TrieCoveredUptoSaid : Prop := trieCoveredUptoRow.holds Try.pinned (OpenSpec.upto trieCoveredSpec)

/-- 'waymarklaw04.TrieLongest', WHERE WHAT IT READS IS OF BULK AT MOST 1048576: true; the input reads as it did. -/
def trieLongestUptoRow : OpenClaim := { program := "ytaplkfnolimdmaa", sum := "4099694dae2f41ead310c7808cac9ddbcd55223e7590a8a5df4cbbc12add6b68", func := "waymark/waymarklaw04.TrieLongest", spec := "trieLongest", unfollowed := true, recurses := true, plainKeys := false, apart := false, narrowed := true }
def TrieLongestUptoSaid : Prop := trieLongestUptoRow.holds Try.pinned (OpenSpec.upto trieLongestSpec)

/-- 'waymarklaw04.TrieAgain', WHERE WHAT IT READS IS OF BULK AT MOST 1048576: true; the input reads as it did. -/
def trieAgainUptoRow : OpenClaim := { program := "ytaplkfnolimdmaa", sum := "4099694dae2f41ead310c7808cac9ddbcd55223e7590a8a5df4cbbc12add6b68", func := "waymark/waymarklaw04.TrieAgain", spec := "trieAgain", unfollowed := true, recurses := true, plainKeys := false, apart := false, narrowed := true }
def TrieAgainUptoSaid : Prop := trieAgainUptoRow.holds Try.pinned (OpenSpec.upto trieAgainSpec)

/-- 'waymarklaw04.TriePlays', WHERE WHAT IT READS IS OF BULK AT MOST 1048576: true; the input reads as it did. -/
def triePlaysUptoRow : OpenClaim := { program := "ytaplkfnolimdmaa", sum := "4099694dae2f41ead310c7808cac9ddbcd55223e7590a8a5df4cbbc12add6b68", func := "waymark/waymarklaw04.TriePlays", spec := "triePlays", unfollowed := true, recurses := true, plainKeys := false, apart := false, narrowed := true }
def TriePlaysUptoSaid : Prop := triePlaysUptoRow.holds Try.pinned (OpenSpec.upto triePlaysSpec)

/-- 'waymarklaw04.TrieNames', WHERE WHAT IT READS IS OF BULK AT MOST 1048576: true; the input reads as it did. -/
def trieNamesUptoRow : OpenClaim := { program := "ytaplkfnolimdmaa", sum := "4099694dae2f41ead310c7808cac9ddbcd55223e7590a8a5df4cbbc12add6b68", func := "waymark/waymarklaw04.TrieNames", spec := "trieNames", unfollowed := true, recurses := true, plainKeys := false, apart := false, narrowed := true }
def TrieNamesUptoSaid : Prop := trieNamesUptoRow.holds Try.pinned (OpenSpec.upto trieNamesSpec)

/-- 'waymarklaw22.FibStep', WHERE WHAT IT READS IS OF BULK AT MOST 1048576: true; the input reads as it did. -/
def fibStepUptoRow : OpenClaim := { program := "ytaplkfnolimdmaa", sum := "4099694dae2f41ead310c7808cac9ddbcd55223e7590a8a5df4cbbc12add6b68", func := "waymark/waymarklaw22.FibStep", spec := "fibStep", inPlace := ["internal/bytealg.abigen_runtime_cmpstring"], unfollowed := true, recurses := true, plainKeys := false, apart := false, narrowed := true }
def FibStepUptoSaid : Prop := fibStepUptoRow.holds Try.pinned (OpenSpec.upto fibStepSpec)

/-- 'waymarklaw22.FibEach', WHERE WHAT IT READS IS OF BULK AT MOST 1048576: true; the input reads as it did. -/
def fibEachUptoRow : OpenClaim := { program := "ytaplkfnolimdmaa", sum := "4099694dae2f41ead310c7808cac9ddbcd55223e7590a8a5df4cbbc12add6b68", func := "waymark/waymarklaw22.FibEach", spec := "fibEach", inPlace := ["internal/bytealg.abigen_runtime_cmpstring"], unfollowed := true, recurses := true, plainKeys := false, apart := false, narrowed := true }
def FibEachUptoSaid : Prop := fibEachUptoRow.holds Try.pinned (OpenSpec.upto fibEachSpec)

/-- 'waymarklaw22.FibNames', WHERE WHAT IT READS IS OF BULK AT MOST 1048576: true; the input reads as it did. -/
def fibNamesUptoRow : OpenClaim := { program := "ytaplkfnolimdmaa", sum := "4099694dae2f41ead310c7808cac9ddbcd55223e7590a8a5df4cbbc12add6b68", func := "waymark/waymarklaw22.FibNames", spec := "fibNames", inPlace := ["internal/bytealg.abigen_runtime_cmpstring"], unfollowed := true, recurses := true, plainKeys := false, apart := false, narrowed := true }
def FibNamesUptoSaid : Prop := fibNamesUptoRow.holds Try.pinned (OpenSpec.upto fibNamesSpec)

end Rows
end Go.Proofs.Ytaplkfnolimdmaa
