/-
  No cell of these rows narrows 'for every input' (looked for: loops, veiled, ifaces, maps, wideKeys, modest, calm, conditions, laid).
  DERIVED. THE GIVEN ROWS OF THIS SEAT. 5 by the template 'for every input the law returns true; each argument reads behind the call as it read before'; 0 by the template 'total and deterministic' (their statements: YtknphliohoklfaaTotals.lean).
  GIVEN WITH THE SEED: the statements are not yours to turn. If you find one false, say at which input.
  Laid BY PROGRAM, IN A SANDBOX (cutbox-rows.mjs): the forced cells as the released guide's own fill.sh prints them over the translation 340533561b765cf6… (all of the seat's roots in one cut). By AI agents, Wed Nov 11 2026. No macro, syntax, notation, axiom, sorry.
-/
import Derived.Test.YtknphliohoklfaaChecked
import GoSem.Claim
import GoSem.ClaimJoined
import GoSem.ClaimMapViews
import Derived.JoinedTies
import Derived.KernelRfl
namespace Go.Proofs.Ytknphliohoklfaa
/- THE CELL 'sum', in the pinned program and in every row, IS THE sha256 OF THE DUMP (.gsa) THAT YtknphliohoklfaaProg.lean LOADS. Nothing in Lean hashes anything: it is a label: what it is worth is what the hold of that sum in a sandbox is worth. -/
noncomputable def Try.pinned : Pinned := { name := "ytknphliohoklfaa", sum := "340533561b765cf64ad4d073326f466d2bd3a1888f390921dd069be1353d143d", checked := Try.checked }
namespace Rows
def none {H : Type} : Left H := { results := [], args := [] }

/-- 'laws.FnExplorations': WHATEVER THE INPUT: true; the input reads as it did. -/
def fnExplorationsSpec : ChangeSpec := { name := "fnExplorations", fn := fun _ => fun
  | [d] => { results := [.lit (.bool true)], args := [d] }
  | _ => none }
def fnExplorationsRow : OpenClaim := { program := "ytknphliohoklfaa", sum := "340533561b765cf64ad4d073326f466d2bd3a1888f390921dd069be1353d143d", func := "loop.example/g00933/laws.FnExplorations", spec := "fnExplorations", apart := false }
def FnExplorationsSaid : Prop := fnExplorationsRow.holds Try.pinned (OpenSpec.ofChange fnExplorationsSpec)

/-- ITS FALSE NEIGHBOUR: 'it returns false'. Refute it at one input. -/
def fnExplorationsWrong : ChangeSpec := { name := "fnExplorations", fn := fun _ => fun
  | [d] => { results := [.lit (.bool false)], args := [d] }
  | _ => none }
def FnExplorationsWrongFalsely : Prop := fnExplorationsRow.holds Try.pinned (OpenSpec.ofChange fnExplorationsWrong)

/-- 'laws.FnExactOpenLeads': WHATEVER THE INPUT: true; the input reads as it did. -/
def fnExactOpenLeadsSpec : ChangeSpec := { name := "fnExactOpenLeads", fn := fun _ => fun
  | [d] => { results := [.lit (.bool true)], args := [d] }
  | _ => none }
def fnExactOpenLeadsRow : OpenClaim := { program := "ytknphliohoklfaa", sum := "340533561b765cf64ad4d073326f466d2bd3a1888f390921dd069be1353d143d", func := "loop.example/g00933/laws.FnExactOpenLeads", spec := "fnExactOpenLeads", unfollowed := true, recurses := true, apart := false }
def FnExactOpenLeadsSaid : Prop := fnExactOpenLeadsRow.holds Try.pinned (OpenSpec.ofChange fnExactOpenLeadsSpec)

/-- ITS FALSE NEIGHBOUR: 'it returns false'. Refute it at one input. -/
def fnExactOpenLeadsWrong : ChangeSpec := { name := "fnExactOpenLeads", fn := fun _ => fun
  | [d] => { results := [.lit (.bool false)], args := [d] }
  | _ => none }
def FnExactOpenLeadsWrongFalsely : Prop := fnExactOpenLeadsRow.holds Try.pinned (OpenSpec.ofChange fnExactOpenLeadsWrong)

/-- 'laws.FnExactWalkOn': WHATEVER THE INPUT: true; the input reads as it did. -/
def fnExactWalkOnSpec : ChangeSpec := { name := "fnExactWalkOn", fn := fun _ => fun
  | [d1, d2] => { results := [.lit (.bool true)], args := [d1, d2] }
  | _ => none }
def fnExactWalkOnRow : OpenClaim := { program := "ytknphliohoklfaa", sum := "340533561b765cf64ad4d073326f466d2bd3a1888f390921dd069be1353d143d", func := "loop.example/g00933/laws.FnExactWalkOn", spec := "fnExactWalkOn", apart := false }
def FnExactWalkOnSaid : Prop := fnExactWalkOnRow.holds Try.pinned (OpenSpec.ofChange fnExactWalkOnSpec)

/-- ITS FALSE NEIGHBOUR: 'it returns false'. Refute it at one input. -/
def fnExactWalkOnWrong : ChangeSpec := { name := "fnExactWalkOn", fn := fun _ => fun
  | [d1, d2] => { results := [.lit (.bool false)], args := [d1, d2] }
  | _ => none }
def FnExactWalkOnWrongFalsely : Prop := fnExactWalkOnRow.holds Try.pinned (OpenSpec.ofChange fnExactWalkOnWrong)

/-- 'laws.FnExactWalkAll': WHATEVER THE INPUT: true; the input reads as it did. -/
def fnExactWalkAllSpec : ChangeSpec := { name := "fnExactWalkAll", fn := fun _ => fun
  | [d1, d2] => { results := [.lit (.bool true)], args := [d1, d2] }
  | _ => none }
def fnExactWalkAllRow : OpenClaim := { program := "ytknphliohoklfaa", sum := "340533561b765cf64ad4d073326f466d2bd3a1888f390921dd069be1353d143d", func := "loop.example/g00933/laws.FnExactWalkAll", spec := "fnExactWalkAll", apart := false }
def FnExactWalkAllSaid : Prop := fnExactWalkAllRow.holds Try.pinned (OpenSpec.ofChange fnExactWalkAllSpec)

/-- ITS FALSE NEIGHBOUR: 'it returns false'. Refute it at one input. -/
def fnExactWalkAllWrong : ChangeSpec := { name := "fnExactWalkAll", fn := fun _ => fun
  | [d1, d2] => { results := [.lit (.bool false)], args := [d1, d2] }
  | _ => none }
def FnExactWalkAllWrongFalsely : Prop := fnExactWalkAllRow.holds Try.pinned (OpenSpec.ofChange fnExactWalkAllWrong)

/-- 'laws.FnExplorers': WHATEVER THE INPUT: true; the input reads as it did. -/
def fnExplorersSpec : ChangeSpec := { name := "fnExplorers", fn := fun _ => fun
  | [d] => { results := [.lit (.bool true)], args := [d] }
  | _ => none }
def fnExplorersRow : OpenClaim := { program := "ytknphliohoklfaa", sum := "340533561b765cf64ad4d073326f466d2bd3a1888f390921dd069be1353d143d", func := "loop.example/g00933/laws.FnExplorers", spec := "fnExplorers", unfollowed := true, recurses := true, apart := false }
def FnExplorersSaid : Prop := fnExplorersRow.holds Try.pinned (OpenSpec.ofChange fnExplorersSpec)

/-- ITS FALSE NEIGHBOUR: 'it returns false'. Refute it at one input. -/
def fnExplorersWrong : ChangeSpec := { name := "fnExplorers", fn := fun _ => fun
  | [d] => { results := [.lit (.bool false)], args := [d] }
  | _ => none }
def FnExplorersWrongFalsely : Prop := fnExplorersRow.holds Try.pinned (OpenSpec.ofChange fnExplorersWrong)

/- THE SECOND FORM. 'bulk': how many values and letters a reading holds, each counted each time it is reached (what is shared counts as often as it is met; a slice's spare places count too). A statement '..UptoSaid' is the law's where the arguments, and the package variables that the reading takes, are together of bulk at most 1048576: NARROWER than '..Said'. Prove '..Said' where nothing that the law and all that it calls make is longer than what came in: it says more and counts as full. Else prove '..UptoSaid'. A law counts once. -/
mutual
def uptoBulk {H : Type} : DataW H → Nat
  | .lit (.string bytes) => bytes.length + 1
  | .lit _ => 1
  | .nil => 1
  | .ptr d => uptoBulk d + 1
  | .slice elems spare => uptoBulkAll elems + uptoBulkAll spare + 1
  | .agg parts => uptoBulkAll parts + 1
  | .iface _ d => uptoBulk d + 1
  | .map entries => uptoBulkEntries entries + 1
  | .held _ => 1
def uptoBulkAll {H : Type} : List (DataW H) → Nat
  | [] => 0
  | d :: r => uptoBulk d + uptoBulkAll r
def uptoBulkEntries {H : Type} : List (Lit × DataW H) → Nat
  | [] => 0
  | x :: r => uptoBulkEntry x + uptoBulkEntries r
def uptoBulkEntry {H : Type} : Lit × DataW H → Nat
  | (.string bytes, d) => bytes.length + uptoBulk d + 1
  | (_, d) => uptoBulk d + 1
 end
def uptoSmall : (H : Type) → List (DataW H) → Bool := fun _ ds => decide (uptoBulkAll ds ≤ 1048576)
def OpenSpec.upto (s : _root_.Go.ChangeSpec) : _root_.Go.OpenSpec := { _root_.Go.OpenSpec.ofChange s with cond := some uptoSmall }

/-- 'laws.FnExplorations', WHERE WHAT IT READS IS OF BULK AT MOST 1048576: true; the input reads as it did. -/
def fnExplorationsUptoRow : OpenClaim := { program := "ytknphliohoklfaa", sum := "340533561b765cf64ad4d073326f466d2bd3a1888f390921dd069be1353d143d", func := "loop.example/g00933/laws.FnExplorations", spec := "fnExplorations", apart := false, narrowed := true }
def FnExplorationsUptoSaid : Prop := fnExplorationsUptoRow.holds Try.pinned (OpenSpec.upto fnExplorationsSpec)

/-- 'laws.FnExactOpenLeads', WHERE WHAT IT READS IS OF BULK AT MOST 1048576: true; the input reads as it did. -/
def fnExactOpenLeadsUptoRow : OpenClaim := { program := "ytknphliohoklfaa", sum := "340533561b765cf64ad4d073326f466d2bd3a1888f390921dd069be1353d143d", func := "loop.example/g00933/laws.FnExactOpenLeads", spec := "fnExactOpenLeads", unfollowed := true, recurses := true, apart := false, narrowed := true }
def FnExactOpenLeadsUptoSaid : Prop := fnExactOpenLeadsUptoRow.holds Try.pinned (OpenSpec.upto fnExactOpenLeadsSpec)

/-- 'laws.FnExactWalkOn', WHERE WHAT IT READS IS OF BULK AT MOST 1048576: true; the input reads as it did. -/
def fnExactWalkOnUptoRow : OpenClaim := { program := "ytknphliohoklfaa", sum := "340533561b765cf64ad4d073326f466d2bd3a1888f390921dd069be1353d143d", func := "loop.example/g00933/laws.FnExactWalkOn", spec := "fnExactWalkOn", apart := false, narrowed := true }
def FnExactWalkOnUptoSaid : Prop := fnExactWalkOnUptoRow.holds Try.pinned (OpenSpec.upto fnExactWalkOnSpec)

/-- 'laws.FnExactWalkAll', WHERE WHAT IT READS IS OF BULK AT MOST 1048576: true; the input reads as it did. -/
def fnExactWalkAllUptoRow : OpenClaim := { program := "ytknphliohoklfaa", sum := "340533561b765cf64ad4d073326f466d2bd3a1888f390921dd069be1353d143d", func := "loop.example/g00933/laws.FnExactWalkAll", spec := "fnExactWalkAll", apart := false, narrowed := true }
def FnExactWalkAllUptoSaid : Prop := fnExactWalkAllUptoRow.holds Try.pinned (OpenSpec.upto fnExactWalkAllSpec)

/-- 'laws.FnExplorers', WHERE WHAT IT READS IS OF BULK AT MOST 1048576: true; the input reads as it did. -/
def fnExplorersUptoRow : OpenClaim := { program := "ytknphliohoklfaa", sum := "340533561b765cf64ad4d073326f466d2bd3a1888f390921dd069be1353d143d", func := "loop.example/g00933/laws.FnExplorers", spec := "fnExplorers", unfollowed := true, recurses := true, apart := false, narrowed := true }
def FnExplorersUptoSaid : Prop := fnExplorersUptoRow.holds Try.pinned (OpenSpec.upto fnExplorersSpec)

end Rows
end Go.Proofs.Ytknphliohoklfaa
