/- FnExactOpenFor: the program answers as the reference. -/
import Derived.Test.YtldifiededjgjaaQFInv
import Derived.Test.YtldifiededjgjaaQFFootNe
namespace Go.Proofs.YtldifiededjgjaaW.PrintWords
open Go.RowKit
end Go.Proofs.YtldifiededjgjaaW.PrintWords
namespace Go.Proofs.YtldifiededjgjaaW.PrintLast
section
variable {ops : Array Oper} {a : Act} {o og : Oper} {g : Nat} {t : Tmp} {u : Bool}
end
end Go.Proofs.YtldifiededjgjaaW.PrintLast
