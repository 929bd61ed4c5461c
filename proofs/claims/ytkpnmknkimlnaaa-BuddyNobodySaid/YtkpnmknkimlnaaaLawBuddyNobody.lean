/-
  BuddyNobody: for every input the law returns true, and each argument reads behind the call as it read before. No condition.
-/
import Derived.Test.YtkpnmknkimlnaaaRows
import Derived.Test.YtkpnmknkimlnaaaArgs
import Derived.Test.YtkpnmknkimlnaaaBuArgs
import Derived.Test.YtkpnmknkimlnaaaBlE
namespace Go.Proofs.Ytkpnmknkimlnaaa.buddyNobody
open Go.ChangeShapes Go.WideShapes Go.ChangeAt Go.RowKit
set_option linter.unusedVariables false
theorem own : ownKnob Try.prog.godebug = none := by kernel_rfl
set_option maxRecDepth 100000 in
theorem lifted (os : Os) (started : os.Started) (H : Type) (enc : TypeId × Value → H) :
    ReturnsInHanded {} Try.checked os 10 .any (Rows.buddyNobodySpec.pre6 enc Try.prog Try.f10 Rows.buddyNobodyRow.domain false) (Rows.buddyNobodySpec.post enc Try.prog Try.f10 false true false false) := by
  refine returnsInHanded_of_change_sized (C := Try.checked) own started (by kernel_rfl) Try.func10
    (ChangeSpec.witness6 (enc := enc) (C := Try.checked) false ⟨#[], #[.agg #[.int .i64 0, .int .i64 0, .int .i64 0, .int .i64 0]], []⟩ 8 (by kernel_rfl) (by kernel_rfl) (by kernel_rfl) (by kernel_rfl)) ?_
  intro W base args ds gs before hval0 hW hcnd hsz0 hreach0
  have hval : ∀ (j : Nat) t v, Try.f10.params[j]? = some t → args[j]? = some v → Value.okWide Try.prog W .any base t v := hval0
  have hW' := hW
  obtain ⟨p, q, hA0, hV, rfl, hfz, hnd⟩ := hW
  have hA : DataW.TrodAll enc Try.prog W 0 (fun _ => true) true Try.f10.params.toList args.toList ds p := hA0
  rw [Try.params10] at hA hval
  have hK := hA
  obtain ⟨v0, vs0, d0, ds0, p0, q0, hargs, rfl, rfl, h0, r0⟩ := trodAll_cons hA
  obtain ⟨rfl, rfl, rfl⟩ := trodAll_nil r0
  obtain rfl : args = #[v0] := by cases args; simp_all
  obtain ⟨rfl, rfl⟩ := trodVars_none hV
  obtain ⟨a0, rfl⟩ := open_act03 (hval 0 67 v0 rfl rfl) h0
  refine (buddyNobody_c a0.d a0.f a0.o a0.h W).mono fun e W' ⟨he, hx⟩ => ?_
  have bel := hx.below
  subst he
  exact ⟨_, rfl, _, _, _, [], _, [], hW', trodAll_mk1 (shut_bool Try.underlying4 _), args_behind laidOutC bel (by kernel_rfl) hK (fun x hx => hW'.lt x (by revert hx; simp)), rfl, bel.frame _, fun h => by cases h⟩
theorem over : Rows.buddyNobodyRow.holds Try.pinned (OpenSpec.ofChange Rows.buddyNobodySpec) :=
  OpenClaim.holds_of_wide 10 Try.f10 rfl rfl rfl rfl rfl rfl rfl ⟨rfl, rfl, rfl, rfl, rfl⟩ rfl rfl rfl rfl rfl (by kernel_rfl) Try.func10 (by kernel_rfl)
    (of_decide_eq_true (by kernel_rfl)) (by unfold Func.isWrapper; first | (rw [if_pos (by decide +kernel)]; kernel_rfl) | (rw [if_neg (by decide +kernel)]; exact ⟨rfl, rfl⟩))
    (fun os started H enc _ => lifted os started H enc)
theorem proved : Rows.BuddyNobodySaid := over
end Go.Proofs.Ytkpnmknkimlnaaa.buddyNobody
namespace Go.Proofs.Ytkpnmknkimlnaaa
set_option linter.unusedVariables false
set_option linter.unusedSimpArgs false
theorem buddyNobody_holds : Rows.BuddyNobodySaid := buddyNobody.proved
#print axioms buddyNobody_holds
end Go.Proofs.Ytkpnmknkimlnaaa
