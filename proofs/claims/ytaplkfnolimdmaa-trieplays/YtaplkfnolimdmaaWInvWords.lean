import Derived.Test.YtaplkfnolimdmaaWInv
import Derived.Test.YtaplkfnolimdmaaWFootNe
namespace Go.Proofs.YtaplkfnolimdmaaW.PrintWords
open Go.RowKit
end Go.Proofs.YtaplkfnolimdmaaW.PrintWords
namespace Go.Proofs.YtaplkfnolimdmaaW.PrintLast
section
variable {ops : Array Oper} {a : Act} {o og : Oper} {g : Nat} {t : Tmp} {u : Bool}
end
end Go.Proofs.YtaplkfnolimdmaaW.PrintLast
