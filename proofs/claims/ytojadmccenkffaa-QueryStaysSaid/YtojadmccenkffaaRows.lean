/-
  No cell of these rows narrows 'for every input' (looked for: loops, veiled, ifaces, maps, wideKeys, modest, calm, conditions, laid).
  DERIVED. THE GIVEN ROWS OF THIS SEAT. 6 by the template 'for every input the law returns true; each argument reads behind the call as it read before'; 0 by the template 'total and deterministic' (their statements: YtojadmccenkffaaTotals.lean).
  GIVEN WITH THE SEED: the statements are not yours to turn. If you find one false, say at which input.
  Laid BY PROGRAM, IN A SANDBOX (cutbox-rows.mjs): the forced cells as the released guide's own fill.sh prints them over the translation f9c3a42bdc88cdaf… (all of the seat's roots in one cut). By AI agents, Wed Nov 11 2026. No macro, syntax, notation, axiom, sorry.
-/
import Derived.Test.YtojadmccenkffaaChecked
import GoSem.Claim
import GoSem.ClaimJoined
import GoSem.ClaimMapViews
import Derived.JoinedTies
import Derived.KernelRfl
namespace Go.Proofs.Ytojadmccenkffaa
/- THE CELL 'sum', in the pinned program and in every row, IS THE sha256 OF THE DUMP (.gsa) THAT YtojadmccenkffaaProg.lean LOADS. Nothing in Lean hashes anything: it is a label: what it is worth is what the hold of that sum in a sandbox is worth. -/
noncomputable def Try.pinned : Pinned := { name := "ytojadmccenkffaa", sum := "f9c3a42bdc88cdaf4f28a8c4be365a10ff84e7c02ad7f44712f96ca194e5ec62", checked := Try.checked }
namespace Rows
def none {H : Type} : Left H := { results := [], args := [] }

/-- 'simulatorlaw43.QueryFilters': WHATEVER THE INPUT: true; the input reads as it did. -/
def queryFiltersSpec : ChangeSpec := { name := "queryFilters", fn := fun _ => fun
  | [d1, d2] => { results := [.lit (.bool true)], args := [d1, d2] }
  | _ => none }
def queryFiltersRow : OpenClaim := { program := "ytojadmccenkffaa", sum := "f9c3a42bdc88cdaf4f28a8c4be365a10ff84e7c02ad7f44712f96ca194e5ec62", func := "simulator/simulatorlaw43.QueryFilters", spec := "queryFilters", plainKeys := false, apart := false }
def QueryFiltersSaid : Prop := queryFiltersRow.holds Try.pinned (OpenSpec.ofChange queryFiltersSpec)

/-- ITS FALSE NEIGHBOUR: 'it returns false'. Refute it at one input. -/
def queryFiltersWrong : ChangeSpec := { name := "queryFilters", fn := fun _ => fun
  | [d1, d2] => { results := [.lit (.bool false)], args := [d1, d2] }
  | _ => none }
def QueryFiltersWrongFalsely : Prop := queryFiltersRow.holds Try.pinned (OpenSpec.ofChange queryFiltersWrong)

/-- 'simulatorlaw43.QueryParts': WHATEVER THE INPUT: true; the input reads as it did. -/
def queryPartsSpec : ChangeSpec := { name := "queryParts", fn := fun _ => fun
  | [d1, d2, d3] => { results := [.lit (.bool true)], args := [d1, d2, d3] }
  | _ => none }
def queryPartsRow : OpenClaim := { program := "ytojadmccenkffaa", sum := "f9c3a42bdc88cdaf4f28a8c4be365a10ff84e7c02ad7f44712f96ca194e5ec62", func := "simulator/simulatorlaw43.QueryParts", spec := "queryParts", plainKeys := false, apart := false }
def QueryPartsSaid : Prop := queryPartsRow.holds Try.pinned (OpenSpec.ofChange queryPartsSpec)

/-- ITS FALSE NEIGHBOUR: 'it returns false'. Refute it at one input. -/
def queryPartsWrong : ChangeSpec := { name := "queryParts", fn := fun _ => fun
  | [d1, d2, d3] => { results := [.lit (.bool false)], args := [d1, d2, d3] }
  | _ => none }
def QueryPartsWrongFalsely : Prop := queryPartsRow.holds Try.pinned (OpenSpec.ofChange queryPartsWrong)

/-- 'simulatorlaw43.QueryStays': WHATEVER THE INPUT: true; the input reads as it did. -/
def queryStaysSpec : ChangeSpec := { name := "queryStays", fn := fun _ => fun
  | [d1, d2, d3] => { results := [.lit (.bool true)], args := [d1, d2, d3] }
  | _ => none }
def queryStaysRow : OpenClaim := { program := "ytojadmccenkffaa", sum := "f9c3a42bdc88cdaf4f28a8c4be365a10ff84e7c02ad7f44712f96ca194e5ec62", func := "simulator/simulatorlaw43.QueryStays", spec := "queryStays", plainKeys := false, apart := false }
def QueryStaysSaid : Prop := queryStaysRow.holds Try.pinned (OpenSpec.ofChange queryStaysSpec)

/-- ITS FALSE NEIGHBOUR: 'it returns false'. Refute it at one input. -/
def queryStaysWrong : ChangeSpec := { name := "queryStays", fn := fun _ => fun
  | [d1, d2, d3] => { results := [.lit (.bool false)], args := [d1, d2, d3] }
  | _ => none }
def QueryStaysWrongFalsely : Prop := queryStaysRow.holds Try.pinned (OpenSpec.ofChange queryStaysWrong)

/-- 'simulatorlaw43.QueryMatches': WHATEVER THE INPUT: true; the input reads as it did. -/
def queryMatchesSpec : ChangeSpec := { name := "queryMatches", fn := fun _ => fun
  | [d1, d2, d3] => { results := [.lit (.bool true)], args := [d1, d2, d3] }
  | _ => none }
def queryMatchesRow : OpenClaim := { program := "ytojadmccenkffaa", sum := "f9c3a42bdc88cdaf4f28a8c4be365a10ff84e7c02ad7f44712f96ca194e5ec62", func := "simulator/simulatorlaw43.QueryMatches", spec := "queryMatches", plainKeys := false, apart := false }
def QueryMatchesSaid : Prop := queryMatchesRow.holds Try.pinned (OpenSpec.ofChange queryMatchesSpec)

/-- ITS FALSE NEIGHBOUR: 'it returns false'. Refute it at one input. -/
def queryMatchesWrong : ChangeSpec := { name := "queryMatches", fn := fun _ => fun
  | [d1, d2, d3] => { results := [.lit (.bool false)], args := [d1, d2, d3] }
  | _ => none }
def QueryMatchesWrongFalsely : Prop := queryMatchesRow.holds Try.pinned (OpenSpec.ofChange queryMatchesWrong)

/-- 'simulatorlaw43.QueryBusy': WHATEVER THE INPUT: true; the input reads as it did. -/
def queryBusySpec : ChangeSpec := { name := "queryBusy", fn := fun _ => fun
  | [d1, d2, d3] => { results := [.lit (.bool true)], args := [d1, d2, d3] }
  | _ => none }
def queryBusyRow : OpenClaim := { program := "ytojadmccenkffaa", sum := "f9c3a42bdc88cdaf4f28a8c4be365a10ff84e7c02ad7f44712f96ca194e5ec62", func := "simulator/simulatorlaw43.QueryBusy", spec := "queryBusy", plainKeys := false, apart := false }
def QueryBusySaid : Prop := queryBusyRow.holds Try.pinned (OpenSpec.ofChange queryBusySpec)

/-- ITS FALSE NEIGHBOUR: 'it returns false'. Refute it at one input. -/
def queryBusyWrong : ChangeSpec := { name := "queryBusy", fn := fun _ => fun
  | [d1, d2, d3] => { results := [.lit (.bool false)], args := [d1, d2, d3] }
  | _ => none }
def QueryBusyWrongFalsely : Prop := queryBusyRow.holds Try.pinned (OpenSpec.ofChange queryBusyWrong)

/-- 'simulatorlaw43.QuerySums': WHATEVER THE INPUT: true; the input reads as it did. -/
def querySumsSpec : ChangeSpec := { name := "querySums", fn := fun _ => fun
  | [d1, d2, d3, d4] => { results := [.lit (.bool true)], args := [d1, d2, d3, d4] }
  | _ => none }
def querySumsRow : OpenClaim := { program := "ytojadmccenkffaa", sum := "f9c3a42bdc88cdaf4f28a8c4be365a10ff84e7c02ad7f44712f96ca194e5ec62", func := "simulator/simulatorlaw43.QuerySums", spec := "querySums", plainKeys := false, apart := false }
def QuerySumsSaid : Prop := querySumsRow.holds Try.pinned (OpenSpec.ofChange querySumsSpec)

/-- ITS FALSE NEIGHBOUR: 'it returns false'. Refute it at one input. -/
def querySumsWrong : ChangeSpec := { name := "querySums", fn := fun _ => fun
  | [d1, d2, d3, d4] => { results := [.lit (.bool false)], args := [d1, d2, d3, d4] }
  | _ => none }
def QuerySumsWrongFalsely : Prop := querySumsRow.holds Try.pinned (OpenSpec.ofChange querySumsWrong)

/- THE SECOND FORM. 'bulk': how many values and letters a reading holds, each counted each time it is reached (what is shared counts as often as it is met; a slice's spare places count too). A statement '..UptoSaid' is the law's where the arguments, and the package variables that the reading takes, are together of bulk at most 1048576: NARROWER than '..Said'. Prove '..Said' where nothing that the law and all that it calls make is longer than what came in: it says more and counts as full. Else prove '..UptoSaid'. A law counts once. -/
mutual
def uptoBulk {H : Type} : DataW H → Nat
  | .lit (.string bytes) => bytes.length + 1
  | .lit _ => 1
  | .nil => 1
  | .ptr d => uptoBulk d + 1
  | .slice elems spare => uptoBulkAll elems + uptoBulkAll spare + 1
  | .agg parts => uptoBulkAll parts + 1
  | .iface _ d => uptoBulk d + 1
  | .map entries => uptoBulkEntries entries + 1
  | .held _ => 1
def uptoBulkAll {H : Type} : List (DataW H) → Nat
  | [] => 0
  | d :: r => uptoBulk d + uptoBulkAll r
def uptoBulkEntries {H : Type} : List (Lit × DataW H) → Nat
  | [] => 0
  | x :: r => uptoBulkEntry x + uptoBulkEntries r
def uptoBulkEntry {H : Type} : Lit × DataW H → Nat
  | (.string bytes, d) => bytes.length + uptoBulk d + 1
  | (_, d) => uptoBulk d + 1
 end
def uptoSmall : (H : Type) → List (DataW H) → Bool := fun _ ds => decide (uptoBulkAll ds ≤ 1048576)
def OpenSpec.upto (s : _root_.Go.ChangeSpec) : _root_.Go.OpenSpec := { _root_.Go.OpenSpec.ofChange s with cond := some uptoSmall }

/-- 'simulatorlaw43.QueryFilters', WHERE WHAT IT READS IS OF BULK AT MOST 1048576: true; the input reads as it did. -/
def queryFiltersUptoRow : OpenClaim := { program := "ytojadmccenkffaa", sum := "f9c3a42bdc88cdaf4f28a8c4be365a10ff84e7c02ad7f44712f96ca194e5ec62", func := "simulator/simulatorlaw43.QueryFilters", spec := "queryFilters", plainKeys := false, apart := false, narrowed := true }
def QueryFiltersUptoSaid : Prop := queryFiltersUptoRow.holds Try.pinned (OpenSpec.upto queryFiltersSpec)

/-- 'simulatorlaw43.QueryParts', WHERE WHAT IT READS IS OF BULK AT MOST 1048576: true; the input reads as it did. -/
def queryPartsUptoRow : OpenClaim := { program := "ytojadmccenkffaa", sum := "f9c3a42bdc88cdaf4f28a8c4be365a10ff84e7c02ad7f44712f96ca194e5ec62", func := "simulator/simulatorlaw43.QueryParts", spec := "queryParts", plainKeys := false, apart := false, narrowed := true }
def QueryPartsUptoSaid : Prop := queryPartsUptoRow.holds Try.pinned (OpenSpec.upto queryPartsSpec)

/-- 'simulatorlaw43.QueryStays', WHERE WHAT IT READS IS OF BULK AT MOST 1048576: true; the input reads as it did. -/
def queryStaysUptoRow : OpenClaim := { program := "ytojadmccenkffaa", sum := "f9c3a42bdc88cdaf4f28a8c4be365a10ff84e7c02ad7f44712f96ca194e5ec62", func := "simulator/simulatorlaw43.QueryStays", spec := "queryStays", plainKeys := false, apart := false, narrowed := true }
def QueryStaysUptoSaid : Prop := queryStaysUptoRow.holds Try.pinned (OpenSpec.upto queryStaysSpec)

/-- 'simulatorlaw43.QueryMatches', WHERE WHAT IT READS IS OF BULK AT MOST 1048576: true; the input reads as it did. -/
def queryMatchesUptoRow : OpenClaim := { program := "ytojadmccenkffaa", sum := "f9c3a42bdc88cdaf4f28a8c4be365a10ff84e7c02ad7f44712f96ca194e5ec62", func := "simulator/simulatorlaw43.QueryMatches", spec := "queryMatches", plainKeys := false, apart := false, narrowed := true }
def QueryMatchesUptoSaid : Prop := queryMatchesUptoRow.holds Try.pinned (OpenSpec.upto queryMatchesSpec)

/-- 'simulatorlaw43.QueryBusy', WHERE WHAT IT READS IS OF BULK AT MOST 1048576: true; the input reads as it did. -/
def queryBusyUptoRow : OpenClaim := { program := "ytojadmccenkffaa", sum := "f9c3a42bdc88cdaf4f28a8c4be365a10ff84e7c02ad7f44712f96ca194e5ec62", func := "simulator/simulatorlaw43.QueryBusy", spec := "queryBusy", plainKeys := false, apart := false, narrowed := true }
def QueryBusyUptoSaid : Prop := queryBusyUptoRow.holds Try.pinned (OpenSpec.upto queryBusySpec)

/-- 'simulatorlaw43.QuerySums', WHERE WHAT IT READS IS OF BULK AT MOST 1048576: true; the input reads as it did. -/
def querySumsUptoRow : OpenClaim := { program := "ytojadmccenkffaa", sum := "f9c3a42bdc88cdaf4f28a8c4be365a10ff84e7c02ad7f44712f96ca194e5ec62", func := "simulator/simulatorlaw43.QuerySums", spec := "querySums", plainKeys := false, apart := false, narrowed := true }
def QuerySumsUptoSaid : Prop := querySumsUptoRow.holds Try.pinned (OpenSpec.upto querySumsSpec)

end Rows
end Go.Proofs.Ytojadmccenkffaa
