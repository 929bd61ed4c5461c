/-
  Policy: the laws' arguments, opened.
-/
import Derived.Test.YtkcaheedhbgmnaaArgs
import Derived.Test.YtkcaheedhbgmnaaFlat
import Derived.Test.YtkcaheedhbgmnaaPoL
namespace Go.Proofs.Ytkcaheedhbgmnaa
set_option linter.unusedVariables false
set_option linter.unusedSimpArgs false
open Go.ChangeShapes Go.WideShapes Go.ChangeAt Go.RowKit
set_option maxRecDepth 100000
section
variable {H : Type} {enc : TypeId × Value → H} {W : World} {base : Nat} {spare : Nat → Bool} {held : Bool} {r : Reach} {b0 : Nat} {v : Value} {d : DataW H} {p : List MemPlace}

theorem open_policy (hv : Value.okWide Try.prog W r b0 77 v) (h : DataW.Trod enc Try.prog W base spare held 77 v d p) : ∃ x y : Int, v = polV x y := by
  obtain ⟨cs, rfl, hf⟩ := open_flat_struct 3 (ks := [.c (.i .i64), .c (.i .i64)]) Try.underlying77 (by kernel_rfl) hv h
  obtain ⟨x, _, e, _, hf⟩ := hf.int
  obtain ⟨y, _, rfl, _, hf⟩ := hf.int
  obtain rfl := hf.nil_
  exact ⟨x, y, by rw [array_of e]; rfl⟩
theorem open_at3 (hv : Value.okWide Try.prog W r b0 78 v) (h : DataW.Trod enc Try.prog W base spare held 78 v d p) : ∃ x y z : Int, v = .agg #[.int .i64 x, .int .i64 y, .int .i64 z] := by
  obtain ⟨cs, rfl, hf⟩ := open_flat_array 3 (ks := [.c (.i .i64), .c (.i .i64), .c (.i .i64)]) Try.underlying78 (by kernel_rfl) hv h
  obtain ⟨x, _, e, hx, hf⟩ := hf.int
  obtain ⟨y, _, rfl, hy, hf⟩ := hf.int
  obtain ⟨z, _, rfl, hz, hf⟩ := hf.int
  obtain rfl := hf.nil_
  exact ⟨x, y, z, by rw [array_of e]⟩
end
end Go.Proofs.Ytkcaheedhbgmnaa
