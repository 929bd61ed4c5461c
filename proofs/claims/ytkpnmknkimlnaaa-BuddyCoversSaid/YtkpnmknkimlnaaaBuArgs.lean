/-
  Buddy: the laws' arguments, opened.
-/
import Derived.Test.YtkpnmknkimlnaaaArgs
import Derived.Test.YtkpnmknkimlnaaaFlat
namespace Go.Proofs.Ytkpnmknkimlnaaa
set_option linter.unusedVariables false
set_option linter.unusedSimpArgs false
open Go.ChangeShapes Go.WideShapes Go.ChangeAt Go.RowKit
set_option maxRecDepth 100000
/-- An act. -/
structure BAct where
  d : Int
  f : Int
  o : Int
  h : Int
  fd : -9223372036854775808 ≤ f ∧ f ≤ 9223372036854775807
  od : -9223372036854775808 ≤ o ∧ o ≤ 9223372036854775807
  hd : -9223372036854775808 ≤ h ∧ h ≤ 9223372036854775807
def BAct.cells (a : BAct) : List Value := [.int .i64 a.d, .int .i64 a.f, .int .i64 a.o, .int .i64 a.h]
section
variable {H : Type} {enc : TypeId × Value → H} {W : World} {base : Nat} {spare : Nat → Bool} {held : Bool} {r : Reach} {b0 : Nat} {v : Value} {d : DataW H} {p : List MemPlace}

theorem open_given03 (hv : Value.okWide Try.prog W r b0 56 v) (h : DataW.Trod enc Try.prog W base spare held 56 v d p) : ∃ x y : Int, v = .agg #[.int .i64 x, .int .i64 y] := by
  obtain ⟨cs, rfl, hf⟩ := open_flat_struct 3 (ks := [.c (.i .i64), .c (.i .i64)]) Try.underlying56 (by kernel_rfl) hv h
  obtain ⟨x, _, e, _, hf⟩ := hf.int
  obtain ⟨y, _, rfl, _, hf⟩ := hf.int
  obtain rfl := hf.nil_
  exact ⟨x, y, by rw [array_of e]⟩
theorem open_act03 (hv : Value.okWide Try.prog W r b0 67 v) (h : DataW.Trod enc Try.prog W base spare held 67 v d p) : ∃ a : BAct, v = .agg #[.int .i64 a.d, .int .i64 a.f, .int .i64 a.o, .int .i64 a.h] := by
  obtain ⟨cs, rfl, hf⟩ := open_flat_struct 5 (ks := [.c (.i .i64), .c (.i .i64), .c (.i .i64), .c (.i .i64)]) Try.underlying67 (by kernel_rfl) hv h
  obtain ⟨a, _, q, _, hf⟩ := hf.int
  obtain ⟨b, _, rfl, hb, hf⟩ := hf.int
  obtain ⟨c, _, rfl, hc, hf⟩ := hf.int
  obtain ⟨d, _, rfl, hd, hf⟩ := hf.int
  obtain rfl := hf.nil_
  exact ⟨⟨a, b, c, d, hb, hc, hd⟩, by rw [array_of q]⟩
end
end Go.Proofs.Ytkpnmknkimlnaaa
