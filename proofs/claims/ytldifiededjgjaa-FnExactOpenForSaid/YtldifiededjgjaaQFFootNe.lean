/- FnExactOpenFor: the program answers as the reference. -/
import Derived.Test.YtldifiededjgjaaQFN
namespace Go.Proofs.YtldifiededjgjaaW.PrintWords
open Go.RowKit
namespace Kd
section
variable {α : Type} {d : Kd α} {W : World} {g n : Nat} {S ok : Nat → Prop} {A : Option Addr} {ad : Addr} {xs : List α}
end
end Kd
end Go.Proofs.YtldifiededjgjaaW.PrintWords
