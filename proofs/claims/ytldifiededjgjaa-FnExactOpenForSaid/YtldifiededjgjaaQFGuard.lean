/- FnExactOpenFor: the program answers as the reference. -/
import Derived.Test.YtldifiededjgjaaQFWords
namespace Go.Proofs.YtldifiededjgjaaW.PrintWords
open Go.RowKit
section
variable {P : Program} {ops : Array Oper} {rest : List Oper} {o : Oper} {a : Act} {Q : Exit → Act → World → Prop} {W : World}
end
end Go.Proofs.YtldifiededjgjaaW.PrintWords
