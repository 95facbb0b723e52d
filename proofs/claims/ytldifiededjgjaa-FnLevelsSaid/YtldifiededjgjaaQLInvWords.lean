/- For every list of bytes the Go function laws.FnLevels returns true and leaves its argument as it was; no condition beyond the row's own. -/
import Derived.Test.YtldifiededjgjaaQLInv
import Derived.Test.YtldifiededjgjaaQLFootNe
namespace Go.Proofs.YtldifiededjgjaaW.PrintWords
open Go.RowKit
end Go.Proofs.YtldifiededjgjaaW.PrintWords
namespace Go.Proofs.YtldifiededjgjaaW.PrintLast
section
variable {ops : Array Oper} {a : Act} {o og : Oper} {g : Nat} {t : Tmp} {u : Bool}
end
end Go.Proofs.YtldifiededjgjaaW.PrintLast
