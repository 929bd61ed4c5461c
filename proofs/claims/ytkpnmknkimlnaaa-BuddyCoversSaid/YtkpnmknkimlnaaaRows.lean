/-
  No cell of these rows narrows 'for every input' (looked for: loops, veiled, ifaces, maps, wideKeys, modest, calm, conditions, laid).
  DERIVED. THE GIVEN ROWS OF THIS SEAT. 9 by the template 'for every input the law returns true; each argument reads behind the call as it read before'; 0 by the template 'total and deterministic' (their statements: YtkpnmknkimlnaaaTotals.lean).
  GIVEN WITH THE SEED: the statements are not yours to turn. If you find one false, say at which input.
  Laid BY PROGRAM, IN A SANDBOX (cutbox-rows.mjs): the forced cells as the released guide's own fill.sh prints them over the translation 04367c12a662ab2e… (all of the seat's roots in one cut). By AI agents, Wed Nov 11 2026. No macro, syntax, notation, axiom, sorry.
-/
import Derived.Test.YtkpnmknkimlnaaaChecked
import GoSem.Claim
import GoSem.ClaimJoined
import GoSem.ClaimMapViews
import Derived.JoinedTies
import Derived.KernelRfl
namespace Go.Proofs.Ytkpnmknkimlnaaa
/- THE CELL 'sum', in the pinned program and in every row, IS THE sha256 OF THE DUMP (.gsa) THAT YtkpnmknkimlnaaaProg.lean LOADS. Nothing in Lean hashes anything: it is a label: what it is worth is what the hold of that sum in a sandbox is worth. -/
noncomputable def Try.pinned : Pinned := { name := "ytkpnmknkimlnaaa", sum := "04367c12a662ab2ef9b10d5d15ba99ba2ffe7fa4c1a6ea57989152d2da9b5684", checked := Try.checked }
namespace Rows
def none {H : Type} : Left H := { results := [], args := [] }

/-- 'basinlaw02.PhysBytes': WHATEVER THE INPUT: true; the input reads as it did. -/
def physBytesSpec : ChangeSpec := { name := "physBytes", fn := fun _ => fun
  | [d1, d2, d3] => { results := [.lit (.bool true)], args := [d1, d2, d3] }
  | _ => none }
def physBytesRow : OpenClaim := { program := "ytkpnmknkimlnaaa", sum := "04367c12a662ab2ef9b10d5d15ba99ba2ffe7fa4c1a6ea57989152d2da9b5684", func := "basin/basinlaw02.PhysBytes", spec := "physBytes", apart := false }
def PhysBytesSaid : Prop := physBytesRow.holds Try.pinned (OpenSpec.ofChange physBytesSpec)

/-- ITS FALSE NEIGHBOUR: 'it returns false'. Refute it at one input. -/
def physBytesWrong : ChangeSpec := { name := "physBytes", fn := fun _ => fun
  | [d1, d2, d3] => { results := [.lit (.bool false)], args := [d1, d2, d3] }
  | _ => none }
def PhysBytesWrongFalsely : Prop := physBytesRow.holds Try.pinned (OpenSpec.ofChange physBytesWrong)

/-- 'basinlaw02.PhysCounts': WHATEVER THE INPUT: true; the input reads as it did. -/
def physCountsSpec : ChangeSpec := { name := "physCounts", fn := fun _ => fun
  | [d1, d2] => { results := [.lit (.bool true)], args := [d1, d2] }
  | _ => none }
def physCountsRow : OpenClaim := { program := "ytkpnmknkimlnaaa", sum := "04367c12a662ab2ef9b10d5d15ba99ba2ffe7fa4c1a6ea57989152d2da9b5684", func := "basin/basinlaw02.PhysCounts", spec := "physCounts", apart := false }
def PhysCountsSaid : Prop := physCountsRow.holds Try.pinned (OpenSpec.ofChange physCountsSpec)

/-- ITS FALSE NEIGHBOUR: 'it returns false'. Refute it at one input. -/
def physCountsWrong : ChangeSpec := { name := "physCounts", fn := fun _ => fun
  | [d1, d2] => { results := [.lit (.bool false)], args := [d1, d2] }
  | _ => none }
def PhysCountsWrongFalsely : Prop := physCountsRow.holds Try.pinned (OpenSpec.ofChange physCountsWrong)

/-- 'basinlaw02.PhysPlays': WHATEVER THE INPUT: true; the input reads as it did. -/
def physPlaysSpec : ChangeSpec := { name := "physPlays", fn := fun _ => fun
  | [d1, d2] => { results := [.lit (.bool true)], args := [d1, d2] }
  | _ => none }
def physPlaysRow : OpenClaim := { program := "ytkpnmknkimlnaaa", sum := "04367c12a662ab2ef9b10d5d15ba99ba2ffe7fa4c1a6ea57989152d2da9b5684", func := "basin/basinlaw02.PhysPlays", spec := "physPlays", apart := false }
def PhysPlaysSaid : Prop := physPlaysRow.holds Try.pinned (OpenSpec.ofChange physPlaysSpec)

/-- ITS FALSE NEIGHBOUR: 'it returns false'. Refute it at one input. -/
def physPlaysWrong : ChangeSpec := { name := "physPlays", fn := fun _ => fun
  | [d1, d2] => { results := [.lit (.bool false)], args := [d1, d2] }
  | _ => none }
def PhysPlaysWrongFalsely : Prop := physPlaysRow.holds Try.pinned (OpenSpec.ofChange physPlaysWrong)

/-- 'basinlaw03.BuddyPlays': WHATEVER THE INPUT: true; the input reads as it did. -/
def buddyPlaysSpec : ChangeSpec := { name := "buddyPlays", fn := fun _ => fun
  | [d1, d2] => { results := [.lit (.bool true)], args := [d1, d2] }
  | _ => none }
def buddyPlaysRow : OpenClaim := { program := "ytkpnmknkimlnaaa", sum := "04367c12a662ab2ef9b10d5d15ba99ba2ffe7fa4c1a6ea57989152d2da9b5684", func := "basin/basinlaw03.BuddyPlays", spec := "buddyPlays", unfollowed := true, recurses := true, apart := false }
def BuddyPlaysSaid : Prop := buddyPlaysRow.holds Try.pinned (OpenSpec.ofChange buddyPlaysSpec)

/-- ITS FALSE NEIGHBOUR: 'it returns false'. Refute it at one input. -/
def buddyPlaysWrong : ChangeSpec := { name := "buddyPlays", fn := fun _ => fun
  | [d1, d2] => { results := [.lit (.bool false)], args := [d1, d2] }
  | _ => none }
def BuddyPlaysWrongFalsely : Prop := buddyPlaysRow.holds Try.pinned (OpenSpec.ofChange buddyPlaysWrong)

/-- 'basinlaw03.BuddyCovers': WHATEVER THE INPUT: true; the input reads as it did. -/
def buddyCoversSpec : ChangeSpec := { name := "buddyCovers", fn := fun _ => fun
  | [d1, d2] => { results := [.lit (.bool true)], args := [d1, d2] }
  | _ => none }
def buddyCoversRow : OpenClaim := { program := "ytkpnmknkimlnaaa", sum := "04367c12a662ab2ef9b10d5d15ba99ba2ffe7fa4c1a6ea57989152d2da9b5684", func := "basin/basinlaw03.BuddyCovers", spec := "buddyCovers", unfollowed := true, recurses := true, apart := false }
def BuddyCoversSaid : Prop := buddyCoversRow.holds Try.pinned (OpenSpec.ofChange buddyCoversSpec)

/-- ITS FALSE NEIGHBOUR: 'it returns false'. Refute it at one input. -/
def buddyCoversWrong : ChangeSpec := { name := "buddyCovers", fn := fun _ => fun
  | [d1, d2] => { results := [.lit (.bool false)], args := [d1, d2] }
  | _ => none }
def BuddyCoversWrongFalsely : Prop := buddyCoversRow.holds Try.pinned (OpenSpec.ofChange buddyCoversWrong)

/-- 'basinlaw03.BuddyBack': WHATEVER THE INPUT: true; the input reads as it did. -/
def buddyBackSpec : ChangeSpec := { name := "buddyBack", fn := fun _ => fun
  | [d1, d2, d3] => { results := [.lit (.bool true)], args := [d1, d2, d3] }
  | _ => none }
def buddyBackRow : OpenClaim := { program := "ytkpnmknkimlnaaa", sum := "04367c12a662ab2ef9b10d5d15ba99ba2ffe7fa4c1a6ea57989152d2da9b5684", func := "basin/basinlaw03.BuddyBack", spec := "buddyBack", unfollowed := true, recurses := true, apart := false }
def BuddyBackSaid : Prop := buddyBackRow.holds Try.pinned (OpenSpec.ofChange buddyBackSpec)

/-- ITS FALSE NEIGHBOUR: 'it returns false'. Refute it at one input. -/
def buddyBackWrong : ChangeSpec := { name := "buddyBack", fn := fun _ => fun
  | [d1, d2, d3] => { results := [.lit (.bool false)], args := [d1, d2, d3] }
  | _ => none }
def BuddyBackWrongFalsely : Prop := buddyBackRow.holds Try.pinned (OpenSpec.ofChange buddyBackWrong)

/-- 'basinlaw03.BuddyStops': WHATEVER THE INPUT: true; the input reads as it did. -/
def buddyStopsSpec : ChangeSpec := { name := "buddyStops", fn := fun _ => fun
  | [d1, d2, d3] => { results := [.lit (.bool true)], args := [d1, d2, d3] }
  | _ => none }
def buddyStopsRow : OpenClaim := { program := "ytkpnmknkimlnaaa", sum := "04367c12a662ab2ef9b10d5d15ba99ba2ffe7fa4c1a6ea57989152d2da9b5684", func := "basin/basinlaw03.BuddyStops", spec := "buddyStops", unfollowed := true, recurses := true, apart := false }
def BuddyStopsSaid : Prop := buddyStopsRow.holds Try.pinned (OpenSpec.ofChange buddyStopsSpec)

/-- ITS FALSE NEIGHBOUR: 'it returns false'. Refute it at one input. -/
def buddyStopsWrong : ChangeSpec := { name := "buddyStops", fn := fun _ => fun
  | [d1, d2, d3] => { results := [.lit (.bool false)], args := [d1, d2, d3] }
  | _ => none }
def BuddyStopsWrongFalsely : Prop := buddyStopsRow.holds Try.pinned (OpenSpec.ofChange buddyStopsWrong)

/-- 'basinlaw03.BuddyNobody': WHATEVER THE INPUT: true; the input reads as it did. -/
def buddyNobodySpec : ChangeSpec := { name := "buddyNobody", fn := fun _ => fun
  | [d] => { results := [.lit (.bool true)], args := [d] }
  | _ => none }
def buddyNobodyRow : OpenClaim := { program := "ytkpnmknkimlnaaa", sum := "04367c12a662ab2ef9b10d5d15ba99ba2ffe7fa4c1a6ea57989152d2da9b5684", func := "basin/basinlaw03.BuddyNobody", spec := "buddyNobody", unfollowed := true, recurses := true, apart := false }
def BuddyNobodySaid : Prop := buddyNobodyRow.holds Try.pinned (OpenSpec.ofChange buddyNobodySpec)

/-- ITS FALSE NEIGHBOUR: 'it returns false'. Refute it at one input. -/
def buddyNobodyWrong : ChangeSpec := { name := "buddyNobody", fn := fun _ => fun
  | [d] => { results := [.lit (.bool false)], args := [d] }
  | _ => none }
def BuddyNobodyWrongFalsely : Prop := buddyNobodyRow.holds Try.pinned (OpenSpec.ofChange buddyNobodyWrong)

/-- 'basinlaw02.PhysNobody': WHATEVER THE INPUT: true; the input reads as it did. -/
def physNobodySpec : ChangeSpec := { name := "physNobody", fn := fun _ => fun
  | [d] => { results := [.lit (.bool true)], args := [d] }
  | _ => none }
def physNobodyRow : OpenClaim := { program := "ytkpnmknkimlnaaa", sum := "04367c12a662ab2ef9b10d5d15ba99ba2ffe7fa4c1a6ea57989152d2da9b5684", func := "basin/basinlaw02.PhysNobody", spec := "physNobody", apart := false }
def PhysNobodySaid : Prop := physNobodyRow.holds Try.pinned (OpenSpec.ofChange physNobodySpec)

/-- ITS FALSE NEIGHBOUR: 'it returns false'. Refute it at one input. -/
def physNobodyWrong : ChangeSpec := { name := "physNobody", fn := fun _ => fun
  | [d] => { results := [.lit (.bool false)], args := [d] }
  | _ => none }
def PhysNobodyWrongFalsely : Prop := physNobodyRow.holds Try.pinned (OpenSpec.ofChange physNobodyWrong)

/- THE SECOND FORM. 'bulk': how many values and letters a reading holds, each counted each time it is reached (what is shared counts as often as it is met; a slice's spare places count too). A statement '..UptoSaid' is the law's where the arguments, and the package variables that the reading takes, are together of bulk at most 1048576: NARROWER than '..Said'. Prove '..Said' where nothing that the law and all that it calls make is longer than what came in: it says more and counts as full. Else prove '..UptoSaid'. A law counts once. -/
mutual
def uptoBulk {H : Type} : DataW H → Nat
  | .lit (.string bytes) => bytes.length + 1
  | .lit _ => 1
  | .nil => 1
  | .ptr d => uptoBulk d + 1
  | .slice elems spare => uptoBulkAll elems + uptoBulkAll spare + 1
  | .agg parts => uptoBulkAll parts + 1
  | .iface _ d => uptoBulk d + 1
  | .map entries => uptoBulkEntries entries + 1
  | .held _ => 1
def uptoBulkAll {H : Type} : List (DataW H) → Nat
  | [] => 0
  | d :: r => uptoBulk d + uptoBulkAll r
def uptoBulkEntries {H : Type} : List (Lit × DataW H) → Nat
  | [] => 0
  | x :: r => uptoBulkEntry x + uptoBulkEntries r
def uptoBulkEntry {H : Type} : Lit × DataW H → Nat
  | (.string bytes, d) => bytes.length + uptoBulk d + 1
  | (_, d) => uptoBulk d + 1
 end
def uptoSmall : (H : Type) → List (DataW H) → Bool := fun _ ds => decide (uptoBulkAll ds ≤ 1048576)
def OpenSpec.upto (s : _root_.Go.ChangeSpec) : _root_.Go.OpenSpec := { _root_.Go.OpenSpec.ofChange s with cond := some uptoSmall }

/-- 'basinlaw02.PhysBytes', WHERE WHAT IT READS IS OF BULK AT MOST 1048576: true; the input reads as it did. -/
def physBytesUptoRow : OpenClaim := { program := "ytkpnmknkimlnaaa", sum := "04367c12a662ab2ef9b10d5d15ba99ba2ffe7fa4c1a6ea57989152d2da9b5684", func := "basin/basinlaw02.PhysBytes", spec := "physBytes", apart := false, narrowed := true }
def PhysBytesUptoSaid : Prop := physBytesUptoRow.holds Try.pinned (OpenSpec.upto physBytesSpec)

/-- 'basinlaw02.PhysCounts', WHERE WHAT IT READS IS OF BULK AT MOST 1048576: true; the input reads as it did. -/
def physCountsUptoRow : OpenClaim := { program := "ytkpnmknkimlnaaa", sum := "04367c12a662ab2ef9b10d5d15ba99ba2ffe7fa4c1a6ea57989152d2da9b5684", func := "basin/basinlaw02.PhysCounts", spec := "physCounts", apart := false, narrowed := true }
def PhysCountsUptoSaid : Prop := physCountsUptoRow.holds Try.pinned (OpenSpec.upto physCountsSpec)

/-- 'basinlaw02.PhysPlays', WHERE WHAT IT READS IS OF BULK AT MOST 1048576: true; the input reads as it did. -/
def physPlaysUptoRow : OpenClaim := { program := "ytkpnmknkimlnaaa", sum := "04367c12a662ab2ef9b10d5d15ba99ba2ffe7fa4c1a6ea57989152d2da9b5684", func := "basin/basinlaw02.PhysPlays", spec := "physPlays", apart := false, narrowed := true }
def PhysPlaysUptoSaid : Prop := physPlaysUptoRow.holds Try.pinned (OpenSpec.upto physPlaysSpec)

/-- 'basinlaw03.BuddyPlays', WHERE WHAT IT READS IS OF BULK AT MOST 1048576: true; the input reads as it did. -/
def buddyPlaysUptoRow : OpenClaim := { program := "ytkpnmknkimlnaaa", sum := "04367c12a662ab2ef9b10d5d15ba99ba2ffe7fa4c1a6ea57989152d2da9b5684", func := "basin/basinlaw03.BuddyPlays", spec := "buddyPlays", unfollowed := true, recurses := true, apart := false, narrowed := true }
def BuddyPlaysUptoSaid : Prop := buddyPlaysUptoRow.holds Try.pinned (OpenSpec.upto buddyPlaysSpec)

/-- 'basinlaw03.BuddyCovers', WHERE WHAT IT READS IS OF BULK AT MOST 1048576: true; the input reads as it did. -/
def buddyCoversUptoRow : OpenClaim := { program := "ytkpnmknkimlnaaa", sum := "04367c12a662ab2ef9b10d5d15ba99ba2ffe7fa4c1a6ea57989152d2da9b5684", func := "basin/basinlaw03.BuddyCovers", spec := "buddyCovers", unfollowed := true, recurses := true, apart := false, narrowed := true }
def BuddyCoversUptoSaid : Prop := buddyCoversUptoRow.holds Try.pinned (OpenSpec.upto buddyCoversSpec)

/-- 'basinlaw03.BuddyBack', WHERE WHAT IT READS IS OF BULK AT MOST 1048576: true; the input reads as it did. -/
def buddyBackUptoRow : OpenClaim := { program := "ytkpnmknkimlnaaa", sum := "04367c12a662ab2ef9b10d5d15ba99ba2ffe7fa4c1a6ea57989152d2da9b5684", func := "basin/basinlaw03.BuddyBack", spec := "buddyBack", unfollowed := true, recurses := true, apart := false, narrowed := true }
def BuddyBackUptoSaid : Prop := buddyBackUptoRow.holds Try.pinned (OpenSpec.upto buddyBackSpec)

/-- 'basinlaw03.BuddyStops', WHERE WHAT IT READS IS OF BULK AT MOST 1048576: true; the input reads as it did. -/
def buddyStopsUptoRow : OpenClaim := { program := "ytkpnmknkimlnaaa", sum := "04367c12a662ab2ef9b10d5d15ba99ba2ffe7fa4c1a6ea57989152d2da9b5684", func := "basin/basinlaw03.BuddyStops", spec := "buddyStops", unfollowed := true, recurses := true, apart := false, narrowed := true }
def BuddyStopsUptoSaid : Prop := buddyStopsUptoRow.holds Try.pinned (OpenSpec.upto buddyStopsSpec)

/-- 'basinlaw03.BuddyNobody', WHERE WHAT IT READS IS OF BULK AT MOST 1048576: true; the input reads as it did. -/
def buddyNobodyUptoRow : OpenClaim := { program := "ytkpnmknkimlnaaa", sum := "04367c12a662ab2ef9b10d5d15ba99ba2ffe7fa4c1a6ea57989152d2da9b5684", func := "basin/basinlaw03.BuddyNobody", spec := "buddyNobody", unfollowed := true, recurses := true, apart := false, narrowed := true }
def BuddyNobodyUptoSaid : Prop := buddyNobodyUptoRow.holds Try.pinned (OpenSpec.upto buddyNobodySpec)

/-- 'basinlaw02.PhysNobody', WHERE WHAT IT READS IS OF BULK AT MOST 1048576: true; the input reads as it did. -/
def physNobodyUptoRow : OpenClaim := { program := "ytkpnmknkimlnaaa", sum := "04367c12a662ab2ef9b10d5d15ba99ba2ffe7fa4c1a6ea57989152d2da9b5684", func := "basin/basinlaw02.PhysNobody", spec := "physNobody", apart := false, narrowed := true }
def PhysNobodyUptoSaid : Prop := physNobodyUptoRow.holds Try.pinned (OpenSpec.upto physNobodySpec)

end Rows
end Go.Proofs.Ytkpnmknkimlnaaa
