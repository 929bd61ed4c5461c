/-
  The law PteBack, walked.
-/
import Derived.Test.YtemmoabhlfbfcaaPteH
import Derived.Test.YtemmoabhlfbfcaaPteI
import Derived.Test.YtemmoabhlfbfcaaPteJ
namespace Go.Proofs.Ytemmoabhlfbfcaa
set_option linter.unusedVariables false
set_option linter.unusedSimpArgs false
open Go.RowKit
set_option maxHeartbeats 4000000
set_option maxRecDepth 10000

theorem pteBack_c (p q : PTE) (v : Int) (w : World) :
    Calls Try.prog 12 #[.agg p.cells, .agg q.cells, .int .u64 v] w fun e w' => e = .returned (.bool true) ∧ Ext [] w w' := by
  rcases PTE.decV_form2 v with ⟨x, hd, he⟩ | hd
  · cases hp : p.may
    · exact back_A1 p q v w hp x hd he
    · cases hq : q.may
      · exact back_B1 p q v w hp hq x hd he
      · by_cases hw : p.word = q.word
        · obtain rfl := PTE.word_inj hp hq hw
          exact back_D1 p v w hp x hd he
        · exact back_C1 p q v w hp hq (by simpa using hw) x hd he
  · cases hp : p.may
    · exact back_A0 p q v w hp hd
    · cases hq : q.may
      · exact back_B0 p q v w hp hq hd
      · by_cases hw : p.word = q.word
        · obtain rfl := PTE.word_inj hp hq hw
          exact back_D0 p v w hp hd
        · exact back_C0 p q v w hp hq (by simpa using hw) hd

end Go.Proofs.Ytemmoabhlfbfcaa
