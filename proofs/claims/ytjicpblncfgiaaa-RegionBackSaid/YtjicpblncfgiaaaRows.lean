/-
  No cell of these rows narrows 'for every input' (looked for: loops, veiled, ifaces, maps, wideKeys, modest, calm, conditions, laid).
  DERIVED. THE GIVEN ROWS OF THIS SEAT. 11 by the template 'for every input the law returns true; each argument reads behind the call as it read before'; 0 by the template 'total and deterministic' (their statements: YtjicpblncfgiaaaTotals.lean).
  GIVEN WITH THE SEED: the statements are not yours to turn. If you find one false, say at which input.
  Laid BY PROGRAM, IN A SANDBOX (cutbox-rows.mjs): the forced cells as the released guide's own fill.sh prints them over the translation 5e427aa2e43ef1dd… (all of the seat's roots in one cut). By AI agents, Wed Nov 11 2026. No macro, syntax, notation, axiom, sorry.
-/
import Derived.Test.YtjicpblncfgiaaaChecked
import GoSem.Claim
import GoSem.ClaimJoined
import GoSem.ClaimMapViews
import Derived.JoinedTies
import Derived.KernelRfl
namespace Go.Proofs.Ytjicpblncfgiaaa
/- THE CELL 'sum', in the pinned program and in every row, IS THE sha256 OF THE DUMP (.gsa) THAT YtjicpblncfgiaaaProg.lean LOADS. Nothing in Lean hashes anything: it is a label: what it is worth is what the hold of that sum in a sandbox is worth. -/
noncomputable def Try.pinned : Pinned := { name := "ytjicpblncfgiaaa", sum := "5e427aa2e43ef1dd9140a0ee55951785a15f6d2f7198007d940f94b2da039cfc", checked := Try.checked }
namespace Rows
def none {H : Type} : Left H := { results := [], args := [] }

/-- 'basinlaw09.RegionPlays': WHATEVER THE INPUT: true; the input reads as it did. -/
def regionPlaysSpec : ChangeSpec := { name := "regionPlays", fn := fun _ => fun
  | [d1, d2] => { results := [.lit (.bool true)], args := [d1, d2] }
  | _ => none }
def regionPlaysRow : OpenClaim := { program := "ytjicpblncfgiaaa", sum := "5e427aa2e43ef1dd9140a0ee55951785a15f6d2f7198007d940f94b2da039cfc", func := "basin/basinlaw09.RegionPlays", spec := "regionPlays", unfollowed := true, recurses := true, apart := false }
def RegionPlaysSaid : Prop := regionPlaysRow.holds Try.pinned (OpenSpec.ofChange regionPlaysSpec)

/-- ITS FALSE NEIGHBOUR: 'it returns false'. Refute it at one input. -/
def regionPlaysWrong : ChangeSpec := { name := "regionPlays", fn := fun _ => fun
  | [d1, d2] => { results := [.lit (.bool false)], args := [d1, d2] }
  | _ => none }
def RegionPlaysWrongFalsely : Prop := regionPlaysRow.holds Try.pinned (OpenSpec.ofChange regionPlaysWrong)

/-- 'basinlaw09.RegionOrder': WHATEVER THE INPUT: true; the input reads as it did. -/
def regionOrderSpec : ChangeSpec := { name := "regionOrder", fn := fun _ => fun
  | [d1, d2] => { results := [.lit (.bool true)], args := [d1, d2] }
  | _ => none }
def regionOrderRow : OpenClaim := { program := "ytjicpblncfgiaaa", sum := "5e427aa2e43ef1dd9140a0ee55951785a15f6d2f7198007d940f94b2da039cfc", func := "basin/basinlaw09.RegionOrder", spec := "regionOrder", unfollowed := true, recurses := true, apart := false }
def RegionOrderSaid : Prop := regionOrderRow.holds Try.pinned (OpenSpec.ofChange regionOrderSpec)

/-- ITS FALSE NEIGHBOUR: 'it returns false'. Refute it at one input. -/
def regionOrderWrong : ChangeSpec := { name := "regionOrder", fn := fun _ => fun
  | [d1, d2] => { results := [.lit (.bool false)], args := [d1, d2] }
  | _ => none }
def RegionOrderWrongFalsely : Prop := regionOrderRow.holds Try.pinned (OpenSpec.ofChange regionOrderWrong)

/-- 'basinlaw09.RegionBack': WHATEVER THE INPUT: true; the input reads as it did. -/
def regionBackSpec : ChangeSpec := { name := "regionBack", fn := fun _ => fun
  | [d1, d2, d3] => { results := [.lit (.bool true)], args := [d1, d2, d3] }
  | _ => none }
def regionBackRow : OpenClaim := { program := "ytjicpblncfgiaaa", sum := "5e427aa2e43ef1dd9140a0ee55951785a15f6d2f7198007d940f94b2da039cfc", func := "basin/basinlaw09.RegionBack", spec := "regionBack", unfollowed := true, recurses := true, apart := false }
def RegionBackSaid : Prop := regionBackRow.holds Try.pinned (OpenSpec.ofChange regionBackSpec)

/-- ITS FALSE NEIGHBOUR: 'it returns false'. Refute it at one input. -/
def regionBackWrong : ChangeSpec := { name := "regionBack", fn := fun _ => fun
  | [d1, d2, d3] => { results := [.lit (.bool false)], args := [d1, d2, d3] }
  | _ => none }
def RegionBackWrongFalsely : Prop := regionBackRow.holds Try.pinned (OpenSpec.ofChange regionBackWrong)

/-- 'basinlaw09.RegionFinds': WHATEVER THE INPUT: true; the input reads as it did. -/
def regionFindsSpec : ChangeSpec := { name := "regionFinds", fn := fun _ => fun
  | [d1, d2, d3] => { results := [.lit (.bool true)], args := [d1, d2, d3] }
  | _ => none }
def regionFindsRow : OpenClaim := { program := "ytjicpblncfgiaaa", sum := "5e427aa2e43ef1dd9140a0ee55951785a15f6d2f7198007d940f94b2da039cfc", func := "basin/basinlaw09.RegionFinds", spec := "regionFinds", unfollowed := true, recurses := true, apart := false }
def RegionFindsSaid : Prop := regionFindsRow.holds Try.pinned (OpenSpec.ofChange regionFindsSpec)

/-- ITS FALSE NEIGHBOUR: 'it returns false'. Refute it at one input. -/
def regionFindsWrong : ChangeSpec := { name := "regionFinds", fn := fun _ => fun
  | [d1, d2, d3] => { results := [.lit (.bool false)], args := [d1, d2, d3] }
  | _ => none }
def RegionFindsWrongFalsely : Prop := regionFindsRow.holds Try.pinned (OpenSpec.ofChange regionFindsWrong)

/-- 'basinlaw09.RegionApart': WHATEVER THE INPUT: true; the input reads as it did. -/
def regionApartSpec : ChangeSpec := { name := "regionApart", fn := fun _ => fun
  | [d1, d2, d3] => { results := [.lit (.bool true)], args := [d1, d2, d3] }
  | _ => none }
def regionApartRow : OpenClaim := { program := "ytjicpblncfgiaaa", sum := "5e427aa2e43ef1dd9140a0ee55951785a15f6d2f7198007d940f94b2da039cfc", func := "basin/basinlaw09.RegionApart", spec := "regionApart", unfollowed := true, recurses := true, apart := false }
def RegionApartSaid : Prop := regionApartRow.holds Try.pinned (OpenSpec.ofChange regionApartSpec)

/-- ITS FALSE NEIGHBOUR: 'it returns false'. Refute it at one input. -/
def regionApartWrong : ChangeSpec := { name := "regionApart", fn := fun _ => fun
  | [d1, d2, d3] => { results := [.lit (.bool false)], args := [d1, d2, d3] }
  | _ => none }
def RegionApartWrongFalsely : Prop := regionApartRow.holds Try.pinned (OpenSpec.ofChange regionApartWrong)

/-- 'basinlaw09.RegionStays': WHATEVER THE INPUT: true; the input reads as it did. -/
def regionStaysSpec : ChangeSpec := { name := "regionStays", fn := fun _ => fun
  | [d1, d2, d3] => { results := [.lit (.bool true)], args := [d1, d2, d3] }
  | _ => none }
def regionStaysRow : OpenClaim := { program := "ytjicpblncfgiaaa", sum := "5e427aa2e43ef1dd9140a0ee55951785a15f6d2f7198007d940f94b2da039cfc", func := "basin/basinlaw09.RegionStays", spec := "regionStays", unfollowed := true, recurses := true, apart := false }
def RegionStaysSaid : Prop := regionStaysRow.holds Try.pinned (OpenSpec.ofChange regionStaysSpec)

/-- ITS FALSE NEIGHBOUR: 'it returns false'. Refute it at one input. -/
def regionStaysWrong : ChangeSpec := { name := "regionStays", fn := fun _ => fun
  | [d1, d2, d3] => { results := [.lit (.bool false)], args := [d1, d2, d3] }
  | _ => none }
def RegionStaysWrongFalsely : Prop := regionStaysRow.holds Try.pinned (OpenSpec.ofChange regionStaysWrong)

/-- 'basinlaw09.RegionNobody': WHATEVER THE INPUT: true; the input reads as it did. -/
def regionNobodySpec : ChangeSpec := { name := "regionNobody", fn := fun _ => fun
  | [d] => { results := [.lit (.bool true)], args := [d] }
  | _ => none }
def regionNobodyRow : OpenClaim := { program := "ytjicpblncfgiaaa", sum := "5e427aa2e43ef1dd9140a0ee55951785a15f6d2f7198007d940f94b2da039cfc", func := "basin/basinlaw09.RegionNobody", spec := "regionNobody", unfollowed := true, recurses := true, apart := false }
def RegionNobodySaid : Prop := regionNobodyRow.holds Try.pinned (OpenSpec.ofChange regionNobodySpec)

/-- ITS FALSE NEIGHBOUR: 'it returns false'. Refute it at one input. -/
def regionNobodyWrong : ChangeSpec := { name := "regionNobody", fn := fun _ => fun
  | [d] => { results := [.lit (.bool false)], args := [d] }
  | _ => none }
def RegionNobodyWrongFalsely : Prop := regionNobodyRow.holds Try.pinned (OpenSpec.ofChange regionNobodyWrong)

/-- 'basinlaw25.ModelKeeps': WHATEVER THE INPUT: true; the input reads as it did. -/
def modelKeepsSpec : ChangeSpec := { name := "modelKeeps", fn := fun _ => fun
  | [d1, d2] => { results := [.lit (.bool true)], args := [d1, d2] }
  | _ => none }
def modelKeepsRow : OpenClaim := { program := "ytjicpblncfgiaaa", sum := "5e427aa2e43ef1dd9140a0ee55951785a15f6d2f7198007d940f94b2da039cfc", func := "basin/basinlaw25.ModelKeeps", spec := "modelKeeps", unfollowed := true, recurses := true, apart := false }
def ModelKeepsSaid : Prop := modelKeepsRow.holds Try.pinned (OpenSpec.ofChange modelKeepsSpec)

/-- ITS FALSE NEIGHBOUR: 'it returns false'. Refute it at one input. -/
def modelKeepsWrong : ChangeSpec := { name := "modelKeeps", fn := fun _ => fun
  | [d1, d2] => { results := [.lit (.bool false)], args := [d1, d2] }
  | _ => none }
def ModelKeepsWrongFalsely : Prop := modelKeepsRow.holds Try.pinned (OpenSpec.ofChange modelKeepsWrong)

/-- 'basinlaw25.ModelReplays': WHATEVER THE INPUT: true; the input reads as it did. -/
def modelReplaysSpec : ChangeSpec := { name := "modelReplays", fn := fun _ => fun
  | [d1, d2] => { results := [.lit (.bool true)], args := [d1, d2] }
  | _ => none }
def modelReplaysRow : OpenClaim := { program := "ytjicpblncfgiaaa", sum := "5e427aa2e43ef1dd9140a0ee55951785a15f6d2f7198007d940f94b2da039cfc", func := "basin/basinlaw25.ModelReplays", spec := "modelReplays", unfollowed := true, recurses := true, apart := false }
def ModelReplaysSaid : Prop := modelReplaysRow.holds Try.pinned (OpenSpec.ofChange modelReplaysSpec)

/-- ITS FALSE NEIGHBOUR: 'it returns false'. Refute it at one input. -/
def modelReplaysWrong : ChangeSpec := { name := "modelReplays", fn := fun _ => fun
  | [d1, d2] => { results := [.lit (.bool false)], args := [d1, d2] }
  | _ => none }
def ModelReplaysWrongFalsely : Prop := modelReplaysRow.holds Try.pinned (OpenSpec.ofChange modelReplaysWrong)

/-- 'basinlaw25.ModelDoes': WHATEVER THE INPUT: true; the input reads as it did. -/
def modelDoesSpec : ChangeSpec := { name := "modelDoes", fn := fun _ => fun
  | [d1, d2, d3] => { results := [.lit (.bool true)], args := [d1, d2, d3] }
  | _ => none }
def modelDoesRow : OpenClaim := { program := "ytjicpblncfgiaaa", sum := "5e427aa2e43ef1dd9140a0ee55951785a15f6d2f7198007d940f94b2da039cfc", func := "basin/basinlaw25.ModelDoes", spec := "modelDoes", unfollowed := true, recurses := true, apart := false }
def ModelDoesSaid : Prop := modelDoesRow.holds Try.pinned (OpenSpec.ofChange modelDoesSpec)

/-- ITS FALSE NEIGHBOUR: 'it returns false'. Refute it at one input. -/
def modelDoesWrong : ChangeSpec := { name := "modelDoes", fn := fun _ => fun
  | [d1, d2, d3] => { results := [.lit (.bool false)], args := [d1, d2, d3] }
  | _ => none }
def ModelDoesWrongFalsely : Prop := modelDoesRow.holds Try.pinned (OpenSpec.ofChange modelDoesWrong)

/-- 'basinlaw25.ModelNobody': WHATEVER THE INPUT: true; the input reads as it did. -/
def modelNobodySpec : ChangeSpec := { name := "modelNobody", fn := fun _ => fun
  | [d1, d2] => { results := [.lit (.bool true)], args := [d1, d2] }
  | _ => none }
def modelNobodyRow : OpenClaim := { program := "ytjicpblncfgiaaa", sum := "5e427aa2e43ef1dd9140a0ee55951785a15f6d2f7198007d940f94b2da039cfc", func := "basin/basinlaw25.ModelNobody", spec := "modelNobody", unfollowed := true, recurses := true, apart := false }
def ModelNobodySaid : Prop := modelNobodyRow.holds Try.pinned (OpenSpec.ofChange modelNobodySpec)

/-- ITS FALSE NEIGHBOUR: 'it returns false'. Refute it at one input. -/
def modelNobodyWrong : ChangeSpec := { name := "modelNobody", fn := fun _ => fun
  | [d1, d2] => { results := [.lit (.bool false)], args := [d1, d2] }
  | _ => none }
def ModelNobodyWrongFalsely : Prop := modelNobodyRow.holds Try.pinned (OpenSpec.ofChange modelNobodyWrong)

/- THE SECOND FORM. 'bulk': how many values and letters a reading holds, each counted each time it is reached (what is shared counts as often as it is met; a slice's spare places count too). A statement '..UptoSaid' is the law's where the arguments, and the package variables that the reading takes, are together of bulk at most 1048576: NARROWER than '..Said'. Prove '..Said' where nothing that the law and all that it calls make is longer than what came in: it says more and counts as full. Else prove '..UptoSaid'. A law counts once. -/
mutual
def uptoBulk {H : Type} : DataW H → Nat
  | .lit (.string bytes) => bytes.length + 1
  | .lit _ => 1
  | .nil => 1
  | .ptr d => uptoBulk d + 1
  | .slice elems spare => uptoBulkAll elems + uptoBulkAll spare + 1
  | .agg parts => uptoBulkAll parts + 1
  | .iface _ d => uptoBulk d + 1
  | .map entries => uptoBulkEntries entries + 1
  | .held _ => 1
def uptoBulkAll {H : Type} : List (DataW H) → Nat
  | [] => 0
  | d :: r => uptoBulk d + uptoBulkAll r
def uptoBulkEntries {H : Type} : List (Lit × DataW H) → Nat
  | [] => 0
  | x :: r => uptoBulkEntry x + uptoBulkEntries r
def uptoBulkEntry {H : Type} : Lit × DataW H → Nat
  | (.string bytes, d) => bytes.length + uptoBulk d + 1
  | (_, d) => uptoBulk d + 1
 end
def uptoSmall : (H : Type) → List (DataW H) → Bool := fun _ ds => decide (uptoBulkAll ds ≤ 1048576)
def OpenSpec.upto (s : _root_.Go.ChangeSpec) : _root_.Go.OpenSpec := { _root_.Go.OpenSpec.ofChange s with cond := some uptoSmall }

/-- 'basinlaw09.RegionPlays', WHERE WHAT IT READS IS OF BULK AT MOST 1048576: true; the input reads as it did. -/
def regionPlaysUptoRow : OpenClaim := { program := "ytjicpblncfgiaaa", sum := "5e427aa2e43ef1dd9140a0ee55951785a15f6d2f7198007d940f94b2da039cfc", func := "basin/basinlaw09.RegionPlays", spec := "regionPlays", unfollowed := true, recurses := true, apart := false, narrowed := true }
def RegionPlaysUptoSaid : Prop := regionPlaysUptoRow.holds Try.pinned (OpenSpec.upto regionPlaysSpec)

/-- 'basinlaw09.RegionOrder', WHERE WHAT IT READS IS OF BULK AT MOST 1048576: true; the input reads as it did. -/
def regionOrderUptoRow : OpenClaim := { program := "ytjicpblncfgiaaa", sum := "5e427aa2e43ef1dd9140a0ee55951785a15f6d2f7198007d940f94b2da039cfc", func := "basin/basinlaw09.RegionOrder", spec := "regionOrder", unfollowed := true, recurses := true, apart := false, narrowed := true }
def RegionOrderUptoSaid : Prop := regionOrderUptoRow.holds Try.pinned (OpenSpec.upto regionOrderSpec)

/-- 'basinlaw09.RegionBack', WHERE WHAT IT READS IS OF BULK AT MOST 1048576: true; the input reads as it did. -/
def regionBackUptoRow : OpenClaim := { program := "ytjicpblncfgiaaa", sum := "5e427aa2e43ef1dd9140a0ee55951785a15f6d2f7198007d940f94b2da039cfc", func := "basin/basinlaw09.RegionBack", spec := "regionBack", unfollowed := true, recurses := true, apart := false, narrowed := true }
def RegionBackUptoSaid : Prop := regionBackUptoRow.holds Try.pinned (OpenSpec.upto regionBackSpec)

/-- 'basinlaw09.RegionFinds', WHERE WHAT IT READS IS OF BULK AT MOST 1048576: true; the input reads as it did. -/
def regionFindsUptoRow : OpenClaim := { program := "ytjicpblncfgiaaa", sum := "5e427aa2e43ef1dd9140a0ee55951785a15f6d2f7198007d940f94b2da039cfc", func := "basin/basinlaw09.RegionFinds", spec := "regionFinds", unfollowed := true, recurses := true, apart := false, narrowed := true }
def RegionFindsUptoSaid : Prop := regionFindsUptoRow.holds Try.pinned (OpenSpec.upto regionFindsSpec)

/-- 'basinlaw09.RegionApart', WHERE WHAT IT READS IS OF BULK AT MOST 1048576: true; the input reads as it did. -/
def regionApartUptoRow : OpenClaim := { program := "ytjicpblncfgiaaa", sum := "5e427aa2e43ef1dd9140a0ee55951785a15f6d2f7198007d940f94b2da039cfc", func := "basin/basinlaw09.RegionApart", spec := "regionApart", unfollowed := true, recurses := true, apart := false, narrowed := true }
def RegionApartUptoSaid : Prop := regionApartUptoRow.holds Try.pinned (OpenSpec.upto regionApartSpec)

/-- 'basinlaw09.RegionStays', WHERE WHAT IT READS IS OF BULK AT MOST 1048576: true; the input reads as it did. -/
def regionStaysUptoRow : OpenClaim := { program := "ytjicpblncfgiaaa", sum := "5e427aa2e43ef1dd9140a0ee55951785a15f6d2f7198007d940f94b2da039cfc", func := "basin/basinlaw09.RegionStays", spec := "regionStays", unfollowed := true, recurses := true, apart := false, narrowed := true }
def RegionStaysUptoSaid : Prop := regionStaysUptoRow.holds Try.pinned (OpenSpec.upto regionStaysSpec)

/-- 'basinlaw09.RegionNobody', WHERE WHAT IT READS IS OF BULK AT MOST 1048576: true; the input reads as it did. -/
def regionNobodyUptoRow : OpenClaim := { program := "ytjicpblncfgiaaa", sum := "5e427aa2e43ef1dd9140a0ee55951785a15f6d2f7198007d940f94b2da039cfc", func := "basin/basinlaw09.RegionNobody", spec := "regionNobody", unfollowed := true, recurses := true, apart := false, narrowed := true }
def RegionNobodyUptoSaid : Prop := regionNobodyUptoRow.holds Try.pinned (OpenSpec.upto regionNobodySpec)

/-- 'basinlaw25.ModelKeeps', WHERE WHAT IT READS IS OF BULK AT MOST 1048576: true; the input reads as it did. -/
def modelKeepsUptoRow : OpenClaim := { program := "ytjicpblncfgiaaa", sum := "5e427aa2e43ef1dd9140a0ee55951785a15f6d2f7198007d940f94b2da039cfc", func := "basin/basinlaw25.ModelKeeps", spec := "modelKeeps", unfollowed := true, recurses := true, apart := false, narrowed := true }
def ModelKeepsUptoSaid : Prop := modelKeepsUptoRow.holds Try.pinned (OpenSpec.upto modelKeepsSpec)

/-- 'basinlaw25.ModelReplays', WHERE WHAT IT READS IS OF BULK AT MOST 1048576: true; the input reads as it did. -/
def modelReplaysUptoRow : OpenClaim := { program := "ytjicpblncfgiaaa", sum := "5e427aa2e43ef1dd9140a0ee55951785a15f6d2f7198007d940f94b2da039cfc", func := "basin/basinlaw25.ModelReplays", spec := "modelReplays", unfollowed := true, recurses := true, apart := false, narrowed := true }
def ModelReplaysUptoSaid : Prop := modelReplaysUptoRow.holds Try.pinned (OpenSpec.upto modelReplaysSpec)

/-- 'basinlaw25.ModelDoes', WHERE WHAT IT READS IS OF BULK AT MOST 1048576: true; the input reads as it did. -/
def modelDoesUptoRow : OpenClaim := { program := "ytjicpblncfgiaaa", sum := "5e427aa2e43ef1dd9140a0ee55951785a15f6d2f7198007d940f94b2da039cfc", func := "basin/basinlaw25.ModelDoes", spec := "modelDoes", unfollowed := true, recurses := true, apart := false, narrowed := true }
def ModelDoesUptoSaid : Prop := modelDoesUptoRow.holds Try.pinned (OpenSpec.upto modelDoesSpec)

/-- 'basinlaw25.ModelNobody', WHERE WHAT IT READS IS OF BULK AT MOST 1048576: true; the input reads as it did. -/
def modelNobodyUptoRow : OpenClaim := { program := "ytjicpblncfgiaaa", sum := "5e427aa2e43ef1dd9140a0ee55951785a15f6d2f7198007d940f94b2da039cfc", func := "basin/basinlaw25.ModelNobody", spec := "modelNobody", unfollowed := true, recurses := true, apart := false, narrowed := true }
def ModelNobodyUptoSaid : Prop := modelNobodyUptoRow.holds Try.pinned (OpenSpec.upto modelNobodySpec)

end Rows
end Go.Proofs.Ytjicpblncfgiaaa
