/-
  No cell of these rows narrows 'for every input' (looked for: loops, veiled, ifaces, maps, wideKeys, modest, calm, conditions, laid).
  DERIVED. THE GIVEN ROWS OF THIS SEAT. 10 by the template 'for every input the law returns true; each argument reads behind the call as it read before'; 0 by the template 'total and deterministic' (their statements: YtemmoabhlfbfcaaTotals.lean).
  GIVEN WITH THE SEED: the statements are not yours to turn. If you find one false, say at which input.
  Laid BY PROGRAM, IN A SANDBOX (cutbox-rows.mjs): the forced cells as the released guide's own fill.sh prints them over the translation cab17379270b8d9c… (all of the seat's roots in one cut). By AI agents, Wed Nov 11 2026. No macro, syntax, notation, axiom, sorry.
-/
import Derived.Test.YtemmoabhlfbfcaaChecked
import GoSem.Claim
import GoSem.ClaimJoined
import GoSem.ClaimMapViews
import Derived.JoinedTies
import Derived.KernelRfl
namespace Go.Proofs.Ytemmoabhlfbfcaa
/- THE CELL 'sum', in the pinned program and in every row, IS THE sha256 OF THE DUMP (.gsa) THAT YtemmoabhlfbfcaaProg.lean LOADS. Nothing in Lean hashes anything: it is a label: what it is worth is what the hold of that sum in a sandbox is worth. -/
noncomputable def Try.pinned : Pinned := { name := "ytemmoabhlfbfcaa", sum := "cab17379270b8d9c236006e07aeaf48be473bbd55c4905e796bd8f3fa9c5eddd", checked := Try.checked }
namespace Rows
def none {H : Type} : Left H := { results := [], args := [] }

/-- 'basinlaw01.AddrMasks': WHATEVER THE INPUT: true; the input reads as it did. -/
def addrMasksSpec : ChangeSpec := { name := "addrMasks", fn := fun _ => fun
  | [d1, d2] => { results := [.lit (.bool true)], args := [d1, d2] }
  | _ => none }
def addrMasksRow : OpenClaim := { program := "ytemmoabhlfbfcaa", sum := "cab17379270b8d9c236006e07aeaf48be473bbd55c4905e796bd8f3fa9c5eddd", func := "basin/basinlaw01.AddrMasks", spec := "addrMasks", unfollowed := true, recurses := true, apart := false }
def AddrMasksSaid : Prop := addrMasksRow.holds Try.pinned (OpenSpec.ofChange addrMasksSpec)

/-- ITS FALSE NEIGHBOUR: 'it returns false'. Refute it at one input. -/
def addrMasksWrong : ChangeSpec := { name := "addrMasks", fn := fun _ => fun
  | [d1, d2] => { results := [.lit (.bool false)], args := [d1, d2] }
  | _ => none }
def AddrMasksWrongFalsely : Prop := addrMasksRow.holds Try.pinned (OpenSpec.ofChange addrMasksWrong)

/-- 'basinlaw01.AddrRanges': WHATEVER THE INPUT: true; the input reads as it did. -/
def addrRangesSpec : ChangeSpec := { name := "addrRanges", fn := fun _ => fun
  | [d1, d2] => { results := [.lit (.bool true)], args := [d1, d2] }
  | _ => none }
def addrRangesRow : OpenClaim := { program := "ytemmoabhlfbfcaa", sum := "cab17379270b8d9c236006e07aeaf48be473bbd55c4905e796bd8f3fa9c5eddd", func := "basin/basinlaw01.AddrRanges", spec := "addrRanges", unfollowed := true, recurses := true, apart := false }
def AddrRangesSaid : Prop := addrRangesRow.holds Try.pinned (OpenSpec.ofChange addrRangesSpec)

/-- ITS FALSE NEIGHBOUR: 'it returns false'. Refute it at one input. -/
def addrRangesWrong : ChangeSpec := { name := "addrRanges", fn := fun _ => fun
  | [d1, d2] => { results := [.lit (.bool false)], args := [d1, d2] }
  | _ => none }
def AddrRangesWrongFalsely : Prop := addrRangesRow.holds Try.pinned (OpenSpec.ofChange addrRangesWrong)

/-- 'basinlaw01.AddrGoes': WHATEVER THE INPUT: true; the input reads as it did. -/
def addrGoesSpec : ChangeSpec := { name := "addrGoes", fn := fun _ => fun
  | [d1, d2, d3] => { results := [.lit (.bool true)], args := [d1, d2, d3] }
  | _ => none }
def addrGoesRow : OpenClaim := { program := "ytemmoabhlfbfcaa", sum := "cab17379270b8d9c236006e07aeaf48be473bbd55c4905e796bd8f3fa9c5eddd", func := "basin/basinlaw01.AddrGoes", spec := "addrGoes", unfollowed := true, recurses := true, apart := false }
def AddrGoesSaid : Prop := addrGoesRow.holds Try.pinned (OpenSpec.ofChange addrGoesSpec)

/-- ITS FALSE NEIGHBOUR: 'it returns false'. Refute it at one input. -/
def addrGoesWrong : ChangeSpec := { name := "addrGoes", fn := fun _ => fun
  | [d1, d2, d3] => { results := [.lit (.bool false)], args := [d1, d2, d3] }
  | _ => none }
def AddrGoesWrongFalsely : Prop := addrGoesRow.holds Try.pinned (OpenSpec.ofChange addrGoesWrong)

/-- 'basinlaw05.PteEncodes': WHATEVER THE INPUT: true; the input reads as it did. -/
def pteEncodesSpec : ChangeSpec := { name := "pteEncodes", fn := fun _ => fun
  | [d] => { results := [.lit (.bool true)], args := [d] }
  | _ => none }
def pteEncodesRow : OpenClaim := { program := "ytemmoabhlfbfcaa", sum := "cab17379270b8d9c236006e07aeaf48be473bbd55c4905e796bd8f3fa9c5eddd", func := "basin/basinlaw05.PteEncodes", spec := "pteEncodes", apart := false }
def PteEncodesSaid : Prop := pteEncodesRow.holds Try.pinned (OpenSpec.ofChange pteEncodesSpec)

/-- ITS FALSE NEIGHBOUR: 'it returns false'. Refute it at one input. -/
def pteEncodesWrong : ChangeSpec := { name := "pteEncodes", fn := fun _ => fun
  | [d] => { results := [.lit (.bool false)], args := [d] }
  | _ => none }
def PteEncodesWrongFalsely : Prop := pteEncodesRow.holds Try.pinned (OpenSpec.ofChange pteEncodesWrong)

/-- 'basinlaw01.AddrParts': WHATEVER THE INPUT: true; the input reads as it did. -/
def addrPartsSpec : ChangeSpec := { name := "addrParts", fn := fun _ => fun
  | [d1, d2, d3] => { results := [.lit (.bool true)], args := [d1, d2, d3] }
  | _ => none }
def addrPartsRow : OpenClaim := { program := "ytemmoabhlfbfcaa", sum := "cab17379270b8d9c236006e07aeaf48be473bbd55c4905e796bd8f3fa9c5eddd", func := "basin/basinlaw01.AddrParts", spec := "addrParts", unfollowed := true, recurses := true, apart := false }
def AddrPartsSaid : Prop := addrPartsRow.holds Try.pinned (OpenSpec.ofChange addrPartsSpec)

/-- ITS FALSE NEIGHBOUR: 'it returns false'. Refute it at one input. -/
def addrPartsWrong : ChangeSpec := { name := "addrParts", fn := fun _ => fun
  | [d1, d2, d3] => { results := [.lit (.bool false)], args := [d1, d2, d3] }
  | _ => none }
def AddrPartsWrongFalsely : Prop := addrPartsRow.holds Try.pinned (OpenSpec.ofChange addrPartsWrong)

/-- 'basinlaw01.AddrWhole': WHATEVER THE INPUT: true; the input reads as it did. -/
def addrWholeSpec : ChangeSpec := { name := "addrWhole", fn := fun _ => fun
  | [d] => { results := [.lit (.bool true)], args := [d] }
  | _ => none }
def addrWholeRow : OpenClaim := { program := "ytemmoabhlfbfcaa", sum := "cab17379270b8d9c236006e07aeaf48be473bbd55c4905e796bd8f3fa9c5eddd", func := "basin/basinlaw01.AddrWhole", spec := "addrWhole", unfollowed := true, recurses := true, apart := false }
def AddrWholeSaid : Prop := addrWholeRow.holds Try.pinned (OpenSpec.ofChange addrWholeSpec)

/-- ITS FALSE NEIGHBOUR: 'it returns false'. Refute it at one input. -/
def addrWholeWrong : ChangeSpec := { name := "addrWhole", fn := fun _ => fun
  | [d] => { results := [.lit (.bool false)], args := [d] }
  | _ => none }
def AddrWholeWrongFalsely : Prop := addrWholeRow.holds Try.pinned (OpenSpec.ofChange addrWholeWrong)

/-- 'basinlaw05.PteDecodes': WHATEVER THE INPUT: true; the input reads as it did. -/
def pteDecodesSpec : ChangeSpec := { name := "pteDecodes", fn := fun _ => fun
  | [d] => { results := [.lit (.bool true)], args := [d] }
  | _ => none }
def pteDecodesRow : OpenClaim := { program := "ytemmoabhlfbfcaa", sum := "cab17379270b8d9c236006e07aeaf48be473bbd55c4905e796bd8f3fa9c5eddd", func := "basin/basinlaw05.PteDecodes", spec := "pteDecodes", apart := false }
def PteDecodesSaid : Prop := pteDecodesRow.holds Try.pinned (OpenSpec.ofChange pteDecodesSpec)

/-- ITS FALSE NEIGHBOUR: 'it returns false'. Refute it at one input. -/
def pteDecodesWrong : ChangeSpec := { name := "pteDecodes", fn := fun _ => fun
  | [d] => { results := [.lit (.bool false)], args := [d] }
  | _ => none }
def PteDecodesWrongFalsely : Prop := pteDecodesRow.holds Try.pinned (OpenSpec.ofChange pteDecodesWrong)

/-- 'basinlaw05.PteLeaves': WHATEVER THE INPUT: true; the input reads as it did. -/
def pteLeavesSpec : ChangeSpec := { name := "pteLeaves", fn := fun _ => fun
  | [d1, d2, d3] => { results := [.lit (.bool true)], args := [d1, d2, d3] }
  | _ => none }
def pteLeavesRow : OpenClaim := { program := "ytemmoabhlfbfcaa", sum := "cab17379270b8d9c236006e07aeaf48be473bbd55c4905e796bd8f3fa9c5eddd", func := "basin/basinlaw05.PteLeaves", spec := "pteLeaves", apart := false }
def PteLeavesSaid : Prop := pteLeavesRow.holds Try.pinned (OpenSpec.ofChange pteLeavesSpec)

/-- ITS FALSE NEIGHBOUR: 'it returns false'. Refute it at one input. -/
def pteLeavesWrong : ChangeSpec := { name := "pteLeaves", fn := fun _ => fun
  | [d1, d2, d3] => { results := [.lit (.bool false)], args := [d1, d2, d3] }
  | _ => none }
def PteLeavesWrongFalsely : Prop := pteLeavesRow.holds Try.pinned (OpenSpec.ofChange pteLeavesWrong)

/-- 'basinlaw01.AddrPages': WHATEVER THE INPUT: true; the input reads as it did. -/
def addrPagesSpec : ChangeSpec := { name := "addrPages", fn := fun _ => fun
  | [d1, d2, d3] => { results := [.lit (.bool true)], args := [d1, d2, d3] }
  | _ => none }
def addrPagesRow : OpenClaim := { program := "ytemmoabhlfbfcaa", sum := "cab17379270b8d9c236006e07aeaf48be473bbd55c4905e796bd8f3fa9c5eddd", func := "basin/basinlaw01.AddrPages", spec := "addrPages", unfollowed := true, recurses := true, apart := false }
def AddrPagesSaid : Prop := addrPagesRow.holds Try.pinned (OpenSpec.ofChange addrPagesSpec)

/-- ITS FALSE NEIGHBOUR: 'it returns false'. Refute it at one input. -/
def addrPagesWrong : ChangeSpec := { name := "addrPages", fn := fun _ => fun
  | [d1, d2, d3] => { results := [.lit (.bool false)], args := [d1, d2, d3] }
  | _ => none }
def AddrPagesWrongFalsely : Prop := addrPagesRow.holds Try.pinned (OpenSpec.ofChange addrPagesWrong)

/-- 'basinlaw05.PteBack': WHATEVER THE INPUT: true; the input reads as it did. -/
def pteBackSpec : ChangeSpec := { name := "pteBack", fn := fun _ => fun
  | [d1, d2, d3] => { results := [.lit (.bool true)], args := [d1, d2, d3] }
  | _ => none }
def pteBackRow : OpenClaim := { program := "ytemmoabhlfbfcaa", sum := "cab17379270b8d9c236006e07aeaf48be473bbd55c4905e796bd8f3fa9c5eddd", func := "basin/basinlaw05.PteBack", spec := "pteBack", apart := false }
def PteBackSaid : Prop := pteBackRow.holds Try.pinned (OpenSpec.ofChange pteBackSpec)

/-- ITS FALSE NEIGHBOUR: 'it returns false'. Refute it at one input. -/
def pteBackWrong : ChangeSpec := { name := "pteBack", fn := fun _ => fun
  | [d1, d2, d3] => { results := [.lit (.bool false)], args := [d1, d2, d3] }
  | _ => none }
def PteBackWrongFalsely : Prop := pteBackRow.holds Try.pinned (OpenSpec.ofChange pteBackWrong)

/- THE SECOND FORM. 'bulk': how many values and letters a reading holds, each counted each time it is reached (what is shared counts as often as it is met; a slice's spare places count too). A statement '..UptoSaid' is the law's where the arguments, and the package variables that the reading takes, are together of bulk at most 1048576: NARROWER than '..Said'. Prove '..Said' where nothing that the law and all that it calls make is longer than what came in: it says more and counts as full. Else prove '..UptoSaid'. A law counts once. -/
mutual
def uptoBulk {H : Type} : DataW H → Nat
  | .lit (.string bytes) => bytes.length + 1
  | .lit _ => 1
  | .nil => 1
  | .ptr d => uptoBulk d + 1
  | .slice elems spare => uptoBulkAll elems + uptoBulkAll spare + 1
  | .agg parts => uptoBulkAll parts + 1
  | .iface _ d => uptoBulk d + 1
  | .map entries => uptoBulkEntries entries + 1
  | .held _ => 1
def uptoBulkAll {H : Type} : List (DataW H) → Nat
  | [] => 0
  | d :: r => uptoBulk d + uptoBulkAll r
def uptoBulkEntries {H : Type} : List (Lit × DataW H) → Nat
  | [] => 0
  | x :: r => uptoBulkEntry x + uptoBulkEntries r
def uptoBulkEntry {H : Type} : Lit × DataW H → Nat
  | (.string bytes, d) => bytes.length + uptoBulk d + 1
  | (_, d) => uptoBulk d + 1
 end
def uptoSmall : (H : Type) → List (DataW H) → Bool := fun _ ds => decide (uptoBulkAll ds ≤ 1048576)
def OpenSpec.upto (s : _root_.Go.ChangeSpec) : _root_.Go.OpenSpec := { _root_.Go.OpenSpec.ofChange s with cond := some uptoSmall }

/-- 'basinlaw01.AddrMasks', WHERE WHAT IT READS IS OF BULK AT MOST 1048576: true; the input reads as it did. -/
def addrMasksUptoRow : OpenClaim := { program := "ytemmoabhlfbfcaa", sum := "cab17379270b8d9c236006e07aeaf48be473bbd55c4905e796bd8f3fa9c5eddd", func := "basin/basinlaw01.AddrMasks", spec := "addrMasks", unfollowed := true, recurses := true, apart := false, narrowed := true }
def AddrMasksUptoSaid : Prop := addrMasksUptoRow.holds Try.pinned (OpenSpec.upto addrMasksSpec)

/-- 'basinlaw01.AddrRanges', WHERE WHAT IT READS IS OF BULK AT MOST 1048576: true; the input reads as it did. -/
def addrRangesUptoRow : OpenClaim := { program := "ytemmoabhlfbfcaa", sum := "cab17379270b8d9c236006e07aeaf48be473bbd55c4905e796bd8f3fa9c5eddd", func := "basin/basinlaw01.AddrRanges", spec := "addrRanges", unfollowed := true, recurses := true, apart := false, narrowed := true }
def AddrRangesUptoSaid : Prop := addrRangesUptoRow.holds Try.pinned (OpenSpec.upto addrRangesSpec)

/-- 'basinlaw01.AddrGoes', WHERE WHAT IT READS IS OF BULK AT MOST 1048576: true; the input reads as it did. -/
def addrGoesUptoRow : OpenClaim := { program := "ytemmoabhlfbfcaa", sum := "cab17379270b8d9c236006e07aeaf48be473bbd55c4905e796bd8f3fa9c5eddd", func := "basin/basinlaw01.AddrGoes", spec := "addrGoes", unfollowed := true, recurses := true, apart := false, narrowed := true }
def AddrGoesUptoSaid : Prop := addrGoesUptoRow.holds Try.pinned (OpenSpec.upto addrGoesSpec)

/-- 'basinlaw05.PteEncodes', WHERE WHAT IT READS IS OF BULK AT MOST 1048576: true; the input reads as it did. -/
def pteEncodesUptoRow : OpenClaim := { program := "ytemmoabhlfbfcaa", sum := "cab17379270b8d9c236006e07aeaf48be473bbd55c4905e796bd8f3fa9c5eddd", func := "basin/basinlaw05.PteEncodes", spec := "pteEncodes", apart := false, narrowed := true }
def PteEncodesUptoSaid : Prop := pteEncodesUptoRow.holds Try.pinned (OpenSpec.upto pteEncodesSpec)

/-- 'basinlaw01.AddrParts', WHERE WHAT IT READS IS OF BULK AT MOST 1048576: true; the input reads as it did. -/
def addrPartsUptoRow : OpenClaim := { program := "ytemmoabhlfbfcaa", sum := "cab17379270b8d9c236006e07aeaf48be473bbd55c4905e796bd8f3fa9c5eddd", func := "basin/basinlaw01.AddrParts", spec := "addrParts", unfollowed := true, recurses := true, apart := false, narrowed := true }
def AddrPartsUptoSaid : Prop := addrPartsUptoRow.holds Try.pinned (OpenSpec.upto addrPartsSpec)

/-- 'basinlaw01.AddrWhole', WHERE WHAT IT READS IS OF BULK AT MOST 1048576: true; the input reads as it did. -/
def addrWholeUptoRow : OpenClaim := { program := "ytemmoabhlfbfcaa", sum := "cab17379270b8d9c236006e07aeaf48be473bbd55c4905e796bd8f3fa9c5eddd", func := "basin/basinlaw01.AddrWhole", spec := "addrWhole", unfollowed := true, recurses := true, apart := false, narrowed := true }
def AddrWholeUptoSaid : Prop := addrWholeUptoRow.holds Try.pinned (OpenSpec.upto addrWholeSpec)

/-- 'basinlaw05.PteDecodes', WHERE WHAT IT READS IS OF BULK AT MOST 1048576: true; the input reads as it did. -/
def pteDecodesUptoRow : OpenClaim := { program := "ytemmoabhlfbfcaa", sum := "cab17379270b8d9c236006e07aeaf48be473bbd55c4905e796bd8f3fa9c5eddd", func := "basin/basinlaw05.PteDecodes", spec := "pteDecodes", apart := false, narrowed := true }
def PteDecodesUptoSaid : Prop := pteDecodesUptoRow.holds Try.pinned (OpenSpec.upto pteDecodesSpec)

/-- 'basinlaw05.PteLeaves', WHERE WHAT IT READS IS OF BULK AT MOST 1048576: true; the input reads as it did. -/
def pteLeavesUptoRow : OpenClaim := { program := "ytemmoabhlfbfcaa", sum := "cab17379270b8d9c236006e07aeaf48be473bbd55c4905e796bd8f3fa9c5eddd", func := "basin/basinlaw05.PteLeaves", spec := "pteLeaves", apart := false, narrowed := true }
def PteLeavesUptoSaid : Prop := pteLeavesUptoRow.holds Try.pinned (OpenSpec.upto pteLeavesSpec)

/-- 'basinlaw01.AddrPages', WHERE WHAT IT READS IS OF BULK AT MOST 1048576: true; the input reads as it did. -/
def addrPagesUptoRow : OpenClaim := { program := "ytemmoabhlfbfcaa", sum := "cab17379270b8d9c236006e07aeaf48be473bbd55c4905e796bd8f3fa9c5eddd", func := "basin/basinlaw01.AddrPages", spec := "addrPages", unfollowed := true, recurses := true, apart := false, narrowed := true }
def AddrPagesUptoSaid : Prop := addrPagesUptoRow.holds Try.pinned (OpenSpec.upto addrPagesSpec)

/-- 'basinlaw05.PteBack', WHERE WHAT IT READS IS OF BULK AT MOST 1048576: true; the input reads as it did. -/
def pteBackUptoRow : OpenClaim := { program := "ytemmoabhlfbfcaa", sum := "cab17379270b8d9c236006e07aeaf48be473bbd55c4905e796bd8f3fa9c5eddd", func := "basin/basinlaw05.PteBack", spec := "pteBack", apart := false, narrowed := true }
def PteBackUptoSaid : Prop := pteBackUptoRow.holds Try.pinned (OpenSpec.upto pteBackSpec)

end Rows
end Go.Proofs.Ytemmoabhlfbfcaa
