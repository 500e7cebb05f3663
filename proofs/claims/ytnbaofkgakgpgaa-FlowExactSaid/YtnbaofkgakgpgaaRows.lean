/-
  NARROWER THAN 'FOR EVERY INPUT', by the rows' own cells (each row's printed sentence says how): FlowExact: loops · FlowReaches: loops · FlowFollows: loops · FlowSpins: loops · FlowWalks: loops.
  DERIVED. THE GIVEN ROWS OF THIS SEAT. 5 by the template 'for every input the law returns true; each argument reads behind the call as it read before'; 0 by the template 'total and deterministic' (their statements: YtnbaofkgakgpgaaTotals.lean).
  GIVEN WITH THE SEED: the statements are not yours to turn. If you find one false, say at which input.
  Laid BY PROGRAM, IN A SANDBOX (cutbox-rows.mjs): the forced cells as the released guide's own fill.sh prints them over the translation 56c485644e640a68… (all of the seat's roots in one cut). By AI agents, Wed Nov 11 2026. No macro, syntax, notation, axiom, sorry.
-/
import Derived.Test.YtnbaofkgakgpgaaChecked
import GoSem.Claim
import GoSem.ClaimJoined
import GoSem.ClaimMapViews
import Derived.JoinedTies
import Derived.KernelRfl
namespace Go.Proofs.Ytnbaofkgakgpgaa
/- THE CELL 'sum', in the pinned program and in every row, IS THE sha256 OF THE DUMP (.gsa) THAT YtnbaofkgakgpgaaProg.lean LOADS. Nothing in Lean hashes anything: it is a label: what it is worth is what the hold of that sum in a sandbox is worth. -/
noncomputable def Try.pinned : Pinned := { name := "ytnbaofkgakgpgaa", sum := "56c485644e640a687aee08a6bae3816e10139122dc16dcb6f75360430250f769", checked := Try.checked }
namespace Rows
def none {H : Type} : Left H := { results := [], args := [] }

/-- 'simulatorlaw19.FlowExact': WHATEVER THE INPUT: true; the input reads as it did. -/
def flowExactSpec : ChangeSpec := { name := "flowExact", fn := fun _ => fun
  | [d1, d2] => { results := [.lit (.bool true)], args := [d1, d2] }
  | _ => none }
def flowExactRow : OpenClaim := { program := "ytnbaofkgakgpgaa", sum := "56c485644e640a687aee08a6bae3816e10139122dc16dcb6f75360430250f769", func := "simulator/simulatorlaw19.FlowExact", spec := "flowExact", recurses := true, loops := true, apart := false }
def FlowExactSaid : Prop := flowExactRow.holds Try.pinned (OpenSpec.ofChange flowExactSpec)

/-- ITS FALSE NEIGHBOUR: 'it returns false'. Refute it at one input. -/
def flowExactWrong : ChangeSpec := { name := "flowExact", fn := fun _ => fun
  | [d1, d2] => { results := [.lit (.bool false)], args := [d1, d2] }
  | _ => none }
def FlowExactWrongFalsely : Prop := flowExactRow.holds Try.pinned (OpenSpec.ofChange flowExactWrong)

/-- 'simulatorlaw19.FlowReaches': WHATEVER THE INPUT: true; the input reads as it did. -/
def flowReachesSpec : ChangeSpec := { name := "flowReaches", fn := fun _ => fun
  | [d] => { results := [.lit (.bool true)], args := [d] }
  | _ => none }
def flowReachesRow : OpenClaim := { program := "ytnbaofkgakgpgaa", sum := "56c485644e640a687aee08a6bae3816e10139122dc16dcb6f75360430250f769", func := "simulator/simulatorlaw19.FlowReaches", spec := "flowReaches", recurses := true, loops := true, apart := false }
def FlowReachesSaid : Prop := flowReachesRow.holds Try.pinned (OpenSpec.ofChange flowReachesSpec)

/-- ITS FALSE NEIGHBOUR: 'it returns false'. Refute it at one input. -/
def flowReachesWrong : ChangeSpec := { name := "flowReaches", fn := fun _ => fun
  | [d] => { results := [.lit (.bool false)], args := [d] }
  | _ => none }
def FlowReachesWrongFalsely : Prop := flowReachesRow.holds Try.pinned (OpenSpec.ofChange flowReachesWrong)

/-- 'simulatorlaw19.FlowFollows': WHATEVER THE INPUT: true; the input reads as it did. -/
def flowFollowsSpec : ChangeSpec := { name := "flowFollows", fn := fun _ => fun
  | [d] => { results := [.lit (.bool true)], args := [d] }
  | _ => none }
def flowFollowsRow : OpenClaim := { program := "ytnbaofkgakgpgaa", sum := "56c485644e640a687aee08a6bae3816e10139122dc16dcb6f75360430250f769", func := "simulator/simulatorlaw19.FlowFollows", spec := "flowFollows", recurses := true, loops := true, apart := false }
def FlowFollowsSaid : Prop := flowFollowsRow.holds Try.pinned (OpenSpec.ofChange flowFollowsSpec)

/-- ITS FALSE NEIGHBOUR: 'it returns false'. Refute it at one input. -/
def flowFollowsWrong : ChangeSpec := { name := "flowFollows", fn := fun _ => fun
  | [d] => { results := [.lit (.bool false)], args := [d] }
  | _ => none }
def FlowFollowsWrongFalsely : Prop := flowFollowsRow.holds Try.pinned (OpenSpec.ofChange flowFollowsWrong)

/-- 'simulatorlaw19.FlowSpins': WHATEVER THE INPUT: true; the input reads as it did. -/
def flowSpinsSpec : ChangeSpec := { name := "flowSpins", fn := fun _ => fun
  | [d] => { results := [.lit (.bool true)], args := [d] }
  | _ => none }
def flowSpinsRow : OpenClaim := { program := "ytnbaofkgakgpgaa", sum := "56c485644e640a687aee08a6bae3816e10139122dc16dcb6f75360430250f769", func := "simulator/simulatorlaw19.FlowSpins", spec := "flowSpins", recurses := true, loops := true, apart := false }
def FlowSpinsSaid : Prop := flowSpinsRow.holds Try.pinned (OpenSpec.ofChange flowSpinsSpec)

/-- ITS FALSE NEIGHBOUR: 'it returns false'. Refute it at one input. -/
def flowSpinsWrong : ChangeSpec := { name := "flowSpins", fn := fun _ => fun
  | [d] => { results := [.lit (.bool false)], args := [d] }
  | _ => none }
def FlowSpinsWrongFalsely : Prop := flowSpinsRow.holds Try.pinned (OpenSpec.ofChange flowSpinsWrong)

/-- 'simulatorlaw19.FlowWalks': WHATEVER THE INPUT: true; the input reads as it did. -/
def flowWalksSpec : ChangeSpec := { name := "flowWalks", fn := fun _ => fun
  | [d1, d2] => { results := [.lit (.bool true)], args := [d1, d2] }
  | _ => none }
def flowWalksRow : OpenClaim := { program := "ytnbaofkgakgpgaa", sum := "56c485644e640a687aee08a6bae3816e10139122dc16dcb6f75360430250f769", func := "simulator/simulatorlaw19.FlowWalks", spec := "flowWalks", recurses := true, loops := true, apart := false }
def FlowWalksSaid : Prop := flowWalksRow.holds Try.pinned (OpenSpec.ofChange flowWalksSpec)

/-- ITS FALSE NEIGHBOUR: 'it returns false'. Refute it at one input. -/
def flowWalksWrong : ChangeSpec := { name := "flowWalks", fn := fun _ => fun
  | [d1, d2] => { results := [.lit (.bool false)], args := [d1, d2] }
  | _ => none }
def FlowWalksWrongFalsely : Prop := flowWalksRow.holds Try.pinned (OpenSpec.ofChange flowWalksWrong)

/- THE SECOND FORM. 'bulk': how many values and letters a reading holds, each counted each time it is reached (what is shared counts as often as it is met; a slice's spare places count too). A statement '..UptoSaid' is the law's where the arguments, and the package variables that the reading takes, are together of bulk at most 1048576: NARROWER than '..Said'. Prove '..Said' where nothing that the law and all that it calls make is longer than what came in: it says more and counts as full. Else prove '..UptoSaid'. A law counts once. -/
mutual
def uptoBulk {H : Type} : DataW H → Nat
  | .lit (.string bytes) => bytes.length + 1
  | .lit _ => 1
  | .nil => 1
  | .ptr d => uptoBulk d + 1
  | .slice elems spare => uptoBulkAll elems + uptoBulkAll spare + 1
  | .agg parts => uptoBulkAll parts + 1
  | .iface _ d => uptoBulk d + 1
  | .map entries => uptoBulkEntries entries + 1
  | .held _ => 1
def uptoBulkAll {H : Type} : List (DataW H) → Nat
  | [] => 0
  | d :: r => uptoBulk d + uptoBulkAll r
def uptoBulkEntries {H : Type} : List (Lit × DataW H) → Nat
  | [] => 0
  | x :: r => uptoBulkEntry x + uptoBulkEntries r
def uptoBulkEntry {H : Type} : Lit × DataW H → Nat
  | (.string bytes, d) => bytes.length + uptoBulk d + 1
  | (_, d) => uptoBulk d + 1
 end
def uptoSmall : (H : Type) → List (DataW H) → Bool := fun _ ds => decide (uptoBulkAll ds ≤ 1048576)
def OpenSpec.upto (s : _root_.Go.ChangeSpec) : _root_.Go.OpenSpec := { _root_.Go.OpenSpec.ofChange s with cond := some uptoSmall }

/-- 'simulatorlaw19.FlowExact', WHERE WHAT IT READS IS OF BULK AT MOST 1048576: true; the input reads as it did. -/
def flowExactUptoRow : OpenClaim := { program := "ytnbaofkgakgpgaa", sum := "56c485644e640a687aee08a6bae3816e10139122dc16dcb6f75360430250f769", func := "simulator/simulatorlaw19.FlowExact", spec := "flowExact", recurses := true, loops := true, apart := false, narrowed := true }
def FlowExactUptoSaid : Prop := flowExactUptoRow.holds Try.pinned (OpenSpec.upto flowExactSpec)

/-- 'simulatorlaw19.FlowReaches', WHERE WHAT IT READS IS OF BULK AT MOST 1048576: true; the input reads as it did. -/
def flowReachesUptoRow : OpenClaim := { program := "ytnbaofkgakgpgaa", sum := "56c485644e640a687aee08a6bae3816e10139122dc16dcb6f75360430250f769", func := "simulator/simulatorlaw19.FlowReaches", spec := "flowReaches", recurses := true, loops := true, apart := false, narrowed := true }
def FlowReachesUptoSaid : Prop := flowReachesUptoRow.holds Try.pinned (OpenSpec.upto flowReachesSpec)

/-- 'simulatorlaw19.FlowFollows', WHERE WHAT IT READS IS OF BULK AT MOST 1048576: true; the input reads as it did. -/
def flowFollowsUptoRow : OpenClaim := { program := "ytnbaofkgakgpgaa", sum := "56c485644e640a687aee08a6bae3816e10139122dc16dcb6f75360430250f769", func := "simulator/simulatorlaw19.FlowFollows", spec := "flowFollows", recurses := true, loops := true, apart := false, narrowed := true }
def FlowFollowsUptoSaid : Prop := flowFollowsUptoRow.holds Try.pinned (OpenSpec.upto flowFollowsSpec)

/-- 'simulatorlaw19.FlowSpins', WHERE WHAT IT READS IS OF BULK AT MOST 1048576: true; the input reads as it did. -/
def flowSpinsUptoRow : OpenClaim := { program := "ytnbaofkgakgpgaa", sum := "56c485644e640a687aee08a6bae3816e10139122dc16dcb6f75360430250f769", func := "simulator/simulatorlaw19.FlowSpins", spec := "flowSpins", recurses := true, loops := true, apart := false, narrowed := true }
def FlowSpinsUptoSaid : Prop := flowSpinsUptoRow.holds Try.pinned (OpenSpec.upto flowSpinsSpec)

/-- 'simulatorlaw19.FlowWalks', WHERE WHAT IT READS IS OF BULK AT MOST 1048576: true; the input reads as it did. -/
def flowWalksUptoRow : OpenClaim := { program := "ytnbaofkgakgpgaa", sum := "56c485644e640a687aee08a6bae3816e10139122dc16dcb6f75360430250f769", func := "simulator/simulatorlaw19.FlowWalks", spec := "flowWalks", recurses := true, loops := true, apart := false, narrowed := true }
def FlowWalksUptoSaid : Prop := flowWalksUptoRow.holds Try.pinned (OpenSpec.upto flowWalksSpec)

end Rows
end Go.Proofs.Ytnbaofkgakgpgaa
