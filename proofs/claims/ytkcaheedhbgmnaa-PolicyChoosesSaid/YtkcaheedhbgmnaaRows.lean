/-
  No cell of these rows narrows 'for every input' (looked for: loops, veiled, ifaces, maps, wideKeys, modest, calm, conditions, laid).
  DERIVED. THE GIVEN ROWS OF THIS SEAT. 10 by the template 'for every input the law returns true; each argument reads behind the call as it read before'; 0 by the template 'total and deterministic' (their statements: YtkcaheedhbgmnaaTotals.lean).
  GIVEN WITH THE SEED: the statements are not yours to turn. If you find one false, say at which input.
  Laid BY PROGRAM, IN A SANDBOX (cutbox-rows.mjs): the forced cells as the released guide's own fill.sh prints them over the translation 5a24c40cbfa25c55… (all of the seat's roots in one cut). By AI agents, Wed Nov 11 2026. No macro, syntax, notation, axiom, sorry.
-/
import Derived.Test.YtkcaheedhbgmnaaChecked
import GoSem.Claim
import GoSem.ClaimJoined
import GoSem.ClaimMapViews
import Derived.JoinedTies
import Derived.KernelRfl
namespace Go.Proofs.Ytkcaheedhbgmnaa
/- THE CELL 'sum', in the pinned program and in every row, IS THE sha256 OF THE DUMP (.gsa) THAT YtkcaheedhbgmnaaProg.lean LOADS. Nothing in Lean hashes anything: it is a label: what it is worth is what the hold of that sum in a sandbox is worth. -/
noncomputable def Try.pinned : Pinned := { name := "ytkcaheedhbgmnaa", sum := "5a24c40cbfa25c55c740d9c0b61e0cc3f1313c2665312956e0dbb921568f1eaf", checked := Try.checked }
namespace Rows
def none {H : Type} : Left H := { results := [], args := [] }

/-- 'basinlaw08.SpansPlays': WHATEVER THE INPUT: true; the input reads as it did. -/
def spansPlaysSpec : ChangeSpec := { name := "spansPlays", fn := fun _ => fun
  | [d] => { results := [.lit (.bool true)], args := [d] }
  | _ => none }
def spansPlaysRow : OpenClaim := { program := "ytkcaheedhbgmnaa", sum := "5a24c40cbfa25c55c740d9c0b61e0cc3f1313c2665312956e0dbb921568f1eaf", func := "basin/basinlaw08.SpansPlays", spec := "spansPlays", unfollowed := true, recurses := true, apart := false }
def SpansPlaysSaid : Prop := spansPlaysRow.holds Try.pinned (OpenSpec.ofChange spansPlaysSpec)

/-- ITS FALSE NEIGHBOUR: 'it returns false'. Refute it at one input. -/
def spansPlaysWrong : ChangeSpec := { name := "spansPlays", fn := fun _ => fun
  | [d] => { results := [.lit (.bool false)], args := [d] }
  | _ => none }
def SpansPlaysWrongFalsely : Prop := spansPlaysRow.holds Try.pinned (OpenSpec.ofChange spansPlaysWrong)

/-- 'basinlaw08.SpansKinds': WHATEVER THE INPUT: true; the input reads as it did. -/
def spansKindsSpec : ChangeSpec := { name := "spansKinds", fn := fun _ => fun
  | [d] => { results := [.lit (.bool true)], args := [d] }
  | _ => none }
def spansKindsRow : OpenClaim := { program := "ytkcaheedhbgmnaa", sum := "5a24c40cbfa25c55c740d9c0b61e0cc3f1313c2665312956e0dbb921568f1eaf", func := "basin/basinlaw08.SpansKinds", spec := "spansKinds", unfollowed := true, recurses := true, apart := false }
def SpansKindsSaid : Prop := spansKindsRow.holds Try.pinned (OpenSpec.ofChange spansKindsSpec)

/-- ITS FALSE NEIGHBOUR: 'it returns false'. Refute it at one input. -/
def spansKindsWrong : ChangeSpec := { name := "spansKinds", fn := fun _ => fun
  | [d] => { results := [.lit (.bool false)], args := [d] }
  | _ => none }
def SpansKindsWrongFalsely : Prop := spansKindsRow.holds Try.pinned (OpenSpec.ofChange spansKindsWrong)

/-- 'basinlaw08.SpansApart': WHATEVER THE INPUT: true; the input reads as it did. -/
def spansApartSpec : ChangeSpec := { name := "spansApart", fn := fun _ => fun
  | [d1, d2, d3] => { results := [.lit (.bool true)], args := [d1, d2, d3] }
  | _ => none }
def spansApartRow : OpenClaim := { program := "ytkcaheedhbgmnaa", sum := "5a24c40cbfa25c55c740d9c0b61e0cc3f1313c2665312956e0dbb921568f1eaf", func := "basin/basinlaw08.SpansApart", spec := "spansApart", unfollowed := true, recurses := true, apart := false }
def SpansApartSaid : Prop := spansApartRow.holds Try.pinned (OpenSpec.ofChange spansApartSpec)

/-- ITS FALSE NEIGHBOUR: 'it returns false'. Refute it at one input. -/
def spansApartWrong : ChangeSpec := { name := "spansApart", fn := fun _ => fun
  | [d1, d2, d3] => { results := [.lit (.bool false)], args := [d1, d2, d3] }
  | _ => none }
def SpansApartWrongFalsely : Prop := spansApartRow.holds Try.pinned (OpenSpec.ofChange spansApartWrong)

/-- 'basinlaw08.SpansTiles': WHATEVER THE INPUT: true; the input reads as it did. -/
def spansTilesSpec : ChangeSpec := { name := "spansTiles", fn := fun _ => fun
  | [d1, d2] => { results := [.lit (.bool true)], args := [d1, d2] }
  | _ => none }
def spansTilesRow : OpenClaim := { program := "ytkcaheedhbgmnaa", sum := "5a24c40cbfa25c55c740d9c0b61e0cc3f1313c2665312956e0dbb921568f1eaf", func := "basin/basinlaw08.SpansTiles", spec := "spansTiles", unfollowed := true, recurses := true, apart := false }
def SpansTilesSaid : Prop := spansTilesRow.holds Try.pinned (OpenSpec.ofChange spansTilesSpec)

/-- ITS FALSE NEIGHBOUR: 'it returns false'. Refute it at one input. -/
def spansTilesWrong : ChangeSpec := { name := "spansTiles", fn := fun _ => fun
  | [d1, d2] => { results := [.lit (.bool false)], args := [d1, d2] }
  | _ => none }
def SpansTilesWrongFalsely : Prop := spansTilesRow.holds Try.pinned (OpenSpec.ofChange spansTilesWrong)

/-- 'basinlaw10.PolicyOrders': WHATEVER THE INPUT: true; the input reads as it did. -/
def policyOrdersSpec : ChangeSpec := { name := "policyOrders", fn := fun _ => fun
  | [d1, d2] => { results := [.lit (.bool true)], args := [d1, d2] }
  | _ => none }
def policyOrdersRow : OpenClaim := { program := "ytkcaheedhbgmnaa", sum := "5a24c40cbfa25c55c740d9c0b61e0cc3f1313c2665312956e0dbb921568f1eaf", func := "basin/basinlaw10.PolicyOrders", spec := "policyOrders", unfollowed := true, recurses := true, apart := false }
def PolicyOrdersSaid : Prop := policyOrdersRow.holds Try.pinned (OpenSpec.ofChange policyOrdersSpec)

/-- ITS FALSE NEIGHBOUR: 'it returns false'. Refute it at one input. -/
def policyOrdersWrong : ChangeSpec := { name := "policyOrders", fn := fun _ => fun
  | [d1, d2] => { results := [.lit (.bool false)], args := [d1, d2] }
  | _ => none }
def PolicyOrdersWrongFalsely : Prop := policyOrdersRow.holds Try.pinned (OpenSpec.ofChange policyOrdersWrong)

/-- 'basinlaw10.PolicyNodes': WHATEVER THE INPUT: true; the input reads as it did. -/
def policyNodesSpec : ChangeSpec := { name := "policyNodes", fn := fun _ => fun
  | [d1, d2] => { results := [.lit (.bool true)], args := [d1, d2] }
  | _ => none }
def policyNodesRow : OpenClaim := { program := "ytkcaheedhbgmnaa", sum := "5a24c40cbfa25c55c740d9c0b61e0cc3f1313c2665312956e0dbb921568f1eaf", func := "basin/basinlaw10.PolicyNodes", spec := "policyNodes", unfollowed := true, recurses := true, apart := false }
def PolicyNodesSaid : Prop := policyNodesRow.holds Try.pinned (OpenSpec.ofChange policyNodesSpec)

/-- ITS FALSE NEIGHBOUR: 'it returns false'. Refute it at one input. -/
def policyNodesWrong : ChangeSpec := { name := "policyNodes", fn := fun _ => fun
  | [d1, d2] => { results := [.lit (.bool false)], args := [d1, d2] }
  | _ => none }
def PolicyNodesWrongFalsely : Prop := policyNodesRow.holds Try.pinned (OpenSpec.ofChange policyNodesWrong)

/-- 'basinlaw10.PolicySpreads': WHATEVER THE INPUT: true; the input reads as it did. -/
def policySpreadsSpec : ChangeSpec := { name := "policySpreads", fn := fun _ => fun
  | [d1, d2] => { results := [.lit (.bool true)], args := [d1, d2] }
  | _ => none }
def policySpreadsRow : OpenClaim := { program := "ytkcaheedhbgmnaa", sum := "5a24c40cbfa25c55c740d9c0b61e0cc3f1313c2665312956e0dbb921568f1eaf", func := "basin/basinlaw10.PolicySpreads", spec := "policySpreads", unfollowed := true, recurses := true, apart := false }
def PolicySpreadsSaid : Prop := policySpreadsRow.holds Try.pinned (OpenSpec.ofChange policySpreadsSpec)

/-- ITS FALSE NEIGHBOUR: 'it returns false'. Refute it at one input. -/
def policySpreadsWrong : ChangeSpec := { name := "policySpreads", fn := fun _ => fun
  | [d1, d2] => { results := [.lit (.bool false)], args := [d1, d2] }
  | _ => none }
def PolicySpreadsWrongFalsely : Prop := policySpreadsRow.holds Try.pinned (OpenSpec.ofChange policySpreadsWrong)

/-- 'basinlaw08.SpansLooks': WHATEVER THE INPUT: true; the input reads as it did. -/
def spansLooksSpec : ChangeSpec := { name := "spansLooks", fn := fun _ => fun
  | [d1, d2, d3] => { results := [.lit (.bool true)], args := [d1, d2, d3] }
  | _ => none }
def spansLooksRow : OpenClaim := { program := "ytkcaheedhbgmnaa", sum := "5a24c40cbfa25c55c740d9c0b61e0cc3f1313c2665312956e0dbb921568f1eaf", func := "basin/basinlaw08.SpansLooks", spec := "spansLooks", unfollowed := true, recurses := true, apart := false }
def SpansLooksSaid : Prop := spansLooksRow.holds Try.pinned (OpenSpec.ofChange spansLooksSpec)

/-- ITS FALSE NEIGHBOUR: 'it returns false'. Refute it at one input. -/
def spansLooksWrong : ChangeSpec := { name := "spansLooks", fn := fun _ => fun
  | [d1, d2, d3] => { results := [.lit (.bool false)], args := [d1, d2, d3] }
  | _ => none }
def SpansLooksWrongFalsely : Prop := spansLooksRow.holds Try.pinned (OpenSpec.ofChange spansLooksWrong)

/-- 'basinlaw10.PolicyChooses': WHATEVER THE INPUT: true; the input reads as it did. -/
def policyChoosesSpec : ChangeSpec := { name := "policyChooses", fn := fun _ => fun
  | [d1, d2, d3] => { results := [.lit (.bool true)], args := [d1, d2, d3] }
  | _ => none }
def policyChoosesRow : OpenClaim := { program := "ytkcaheedhbgmnaa", sum := "5a24c40cbfa25c55c740d9c0b61e0cc3f1313c2665312956e0dbb921568f1eaf", func := "basin/basinlaw10.PolicyChooses", spec := "policyChooses", unfollowed := true, recurses := true, apart := false }
def PolicyChoosesSaid : Prop := policyChoosesRow.holds Try.pinned (OpenSpec.ofChange policyChoosesSpec)

/-- ITS FALSE NEIGHBOUR: 'it returns false'. Refute it at one input. -/
def policyChoosesWrong : ChangeSpec := { name := "policyChooses", fn := fun _ => fun
  | [d1, d2, d3] => { results := [.lit (.bool false)], args := [d1, d2, d3] }
  | _ => none }
def PolicyChoosesWrongFalsely : Prop := policyChoosesRow.holds Try.pinned (OpenSpec.ofChange policyChoosesWrong)

/-- 'basinlaw08.SpansNobody': WHATEVER THE INPUT: true; the input reads as it did. -/
def spansNobodySpec : ChangeSpec := { name := "spansNobody", fn := fun _ => fun
  | [d] => { results := [.lit (.bool true)], args := [d] }
  | _ => none }
def spansNobodyRow : OpenClaim := { program := "ytkcaheedhbgmnaa", sum := "5a24c40cbfa25c55c740d9c0b61e0cc3f1313c2665312956e0dbb921568f1eaf", func := "basin/basinlaw08.SpansNobody", spec := "spansNobody", unfollowed := true, recurses := true, apart := false }
def SpansNobodySaid : Prop := spansNobodyRow.holds Try.pinned (OpenSpec.ofChange spansNobodySpec)

/-- ITS FALSE NEIGHBOUR: 'it returns false'. Refute it at one input. -/
def spansNobodyWrong : ChangeSpec := { name := "spansNobody", fn := fun _ => fun
  | [d] => { results := [.lit (.bool false)], args := [d] }
  | _ => none }
def SpansNobodyWrongFalsely : Prop := spansNobodyRow.holds Try.pinned (OpenSpec.ofChange spansNobodyWrong)

/- THE SECOND FORM. 'bulk': how many values and letters a reading holds, each counted each time it is reached (what is shared counts as often as it is met; a slice's spare places count too). A statement '..UptoSaid' is the law's where the arguments, and the package variables that the reading takes, are together of bulk at most 1048576: NARROWER than '..Said'. Prove '..Said' where nothing that the law and all that it calls make is longer than what came in: it says more and counts as full. Else prove '..UptoSaid'. A law counts once. -/
mutual
def uptoBulk {H : Type} : DataW H → Nat
  | .lit (.string bytes) => bytes.length + 1
  | .lit _ => 1
  | .nil => 1
  | .ptr d => uptoBulk d + 1
  | .slice elems spare => uptoBulkAll elems + uptoBulkAll spare + 1
  | .agg parts => uptoBulkAll parts + 1
  | .iface _ d => uptoBulk d + 1
  | .map entries => uptoBulkEntries entries + 1
  | .held _ => 1
def uptoBulkAll {H : Type} : List (DataW H) → Nat
  | [] => 0
  | d :: r => uptoBulk d + uptoBulkAll r
def uptoBulkEntries {H : Type} : List (Lit × DataW H) → Nat
  | [] => 0
  | x :: r => uptoBulkEntry x + uptoBulkEntries r
def uptoBulkEntry {H : Type} : Lit × DataW H → Nat
  | (.string bytes, d) => bytes.length + uptoBulk d + 1
  | (_, d) => uptoBulk d + 1
 end
def uptoSmall : (H : Type) → List (DataW H) → Bool := fun _ ds => decide (uptoBulkAll ds ≤ 1048576)
def OpenSpec.upto (s : _root_.Go.ChangeSpec) : _root_.Go.OpenSpec := { _root_.Go.OpenSpec.ofChange s with cond := some uptoSmall }

/-- 'basinlaw08.SpansPlays', WHERE WHAT IT READS IS OF BULK AT MOST 1048576: true; the input reads as it did. -/
def spansPlaysUptoRow : OpenClaim := { program := "ytkcaheedhbgmnaa", sum := "5a24c40cbfa25c55c740d9c0b61e0cc3f1313c2665312956e0dbb921568f1eaf", func := "basin/basinlaw08.SpansPlays", spec := "spansPlays", unfollowed := true, recurses := true, apart := false, narrowed := true }
def SpansPlaysUptoSaid : Prop := spansPlaysUptoRow.holds Try.pinned (OpenSpec.upto spansPlaysSpec)

/-- 'basinlaw08.SpansKinds', WHERE WHAT IT READS IS OF BULK AT MOST 1048576: true; the input reads as it did. -/
def spansKindsUptoRow : OpenClaim := { program := "ytkcaheedhbgmnaa", sum := "5a24c40cbfa25c55c740d9c0b61e0cc3f1313c2665312956e0dbb921568f1eaf", func := "basin/basinlaw08.SpansKinds", spec := "spansKinds", unfollowed := true, recurses := true, apart := false, narrowed := true }
def SpansKindsUptoSaid : Prop := spansKindsUptoRow.holds Try.pinned (OpenSpec.upto spansKindsSpec)

/-- 'basinlaw08.SpansApart', WHERE WHAT IT READS IS OF BULK AT MOST 1048576: true; the input reads as it did. -/
def spansApartUptoRow : OpenClaim := { program := "ytkcaheedhbgmnaa", sum := "5a24c40cbfa25c55c740d9c0b61e0cc3f1313c2665312956e0dbb921568f1eaf", func := "basin/basinlaw08.SpansApart", spec := "spansApart", unfollowed := true, recurses := true, apart := false, narrowed := true }
def SpansApartUptoSaid : Prop := spansApartUptoRow.holds Try.pinned (OpenSpec.upto spansApartSpec)

/-- 'basinlaw08.SpansTiles', WHERE WHAT IT READS IS OF BULK AT MOST 1048576: true; the input reads as it did. -/
def spansTilesUptoRow : OpenClaim := { program := "ytkcaheedhbgmnaa", sum := "5a24c40cbfa25c55c740d9c0b61e0cc3f1313c2665312956e0dbb921568f1eaf", func := "basin/basinlaw08.SpansTiles", spec := "spansTiles", unfollowed := true, recurses := true, apart := false, narrowed := true }
def SpansTilesUptoSaid : Prop := spansTilesUptoRow.holds Try.pinned (OpenSpec.upto spansTilesSpec)

/-- 'basinlaw10.PolicyOrders', WHERE WHAT IT READS IS OF BULK AT MOST 1048576: true; the input reads as it did. -/
def policyOrdersUptoRow : OpenClaim := { program := "ytkcaheedhbgmnaa", sum := "5a24c40cbfa25c55c740d9c0b61e0cc3f1313c2665312956e0dbb921568f1eaf", func := "basin/basinlaw10.PolicyOrders", spec := "policyOrders", unfollowed := true, recurses := true, apart := false, narrowed := true }
def PolicyOrdersUptoSaid : Prop := policyOrdersUptoRow.holds Try.pinned (OpenSpec.upto policyOrdersSpec)

/-- 'basinlaw10.PolicyNodes', WHERE WHAT IT READS IS OF BULK AT MOST 1048576: true; the input reads as it did. -/
def policyNodesUptoRow : OpenClaim := { program := "ytkcaheedhbgmnaa", sum := "5a24c40cbfa25c55c740d9c0b61e0cc3f1313c2665312956e0dbb921568f1eaf", func := "basin/basinlaw10.PolicyNodes", spec := "policyNodes", unfollowed := true, recurses := true, apart := false, narrowed := true }
def PolicyNodesUptoSaid : Prop := policyNodesUptoRow.holds Try.pinned (OpenSpec.upto policyNodesSpec)

/-- 'basinlaw10.PolicySpreads', WHERE WHAT IT READS IS OF BULK AT MOST 1048576: true; the input reads as it did. -/
def policySpreadsUptoRow : OpenClaim := { program := "ytkcaheedhbgmnaa", sum := "5a24c40cbfa25c55c740d9c0b61e0cc3f1313c2665312956e0dbb921568f1eaf", func := "basin/basinlaw10.PolicySpreads", spec := "policySpreads", unfollowed := true, recurses := true, apart := false, narrowed := true }
def PolicySpreadsUptoSaid : Prop := policySpreadsUptoRow.holds Try.pinned (OpenSpec.upto policySpreadsSpec)

/-- 'basinlaw08.SpansLooks', WHERE WHAT IT READS IS OF BULK AT MOST 1048576: true; the input reads as it did. -/
def spansLooksUptoRow : OpenClaim := { program := "ytkcaheedhbgmnaa", sum := "5a24c40cbfa25c55c740d9c0b61e0cc3f1313c2665312956e0dbb921568f1eaf", func := "basin/basinlaw08.SpansLooks", spec := "spansLooks", unfollowed := true, recurses := true, apart := false, narrowed := true }
def SpansLooksUptoSaid : Prop := spansLooksUptoRow.holds Try.pinned (OpenSpec.upto spansLooksSpec)

/-- 'basinlaw10.PolicyChooses', WHERE WHAT IT READS IS OF BULK AT MOST 1048576: true; the input reads as it did. -/
def policyChoosesUptoRow : OpenClaim := { program := "ytkcaheedhbgmnaa", sum := "5a24c40cbfa25c55c740d9c0b61e0cc3f1313c2665312956e0dbb921568f1eaf", func := "basin/basinlaw10.PolicyChooses", spec := "policyChooses", unfollowed := true, recurses := true, apart := false, narrowed := true }
def PolicyChoosesUptoSaid : Prop := policyChoosesUptoRow.holds Try.pinned (OpenSpec.upto policyChoosesSpec)

/-- 'basinlaw08.SpansNobody', WHERE WHAT IT READS IS OF BULK AT MOST 1048576: true; the input reads as it did. -/
def spansNobodyUptoRow : OpenClaim := { program := "ytkcaheedhbgmnaa", sum := "5a24c40cbfa25c55c740d9c0b61e0cc3f1313c2665312956e0dbb921568f1eaf", func := "basin/basinlaw08.SpansNobody", spec := "spansNobody", unfollowed := true, recurses := true, apart := false, narrowed := true }
def SpansNobodyUptoSaid : Prop := spansNobodyUptoRow.holds Try.pinned (OpenSpec.upto spansNobodySpec)

end Rows
end Go.Proofs.Ytkcaheedhbgmnaa
