/- trie.Table[string]: the values. -/
import Derived.Test.YtaplkfnolimdmaaTable
namespace Go.Proofs.Ytaplkfnolimdmaa.TableS
abbrev Vt := ByteArray
def eV (v : Vt) : Value := Value.string v
end Go.Proofs.Ytaplkfnolimdmaa.TableS
