/-
  Phys: the laws' arguments, opened.
-/
import Derived.Test.YtkpnmknkimlnaaaArgs
import Derived.Test.YtkpnmknkimlnaaaPhysN
namespace Go.Proofs.Ytkpnmknkimlnaaa
set_option linter.unusedVariables false
set_option linter.unusedSimpArgs false
open Go.ChangeShapes Go.WideShapes Go.ChangeAt Go.RowKit
set_option maxRecDepth 100000
section
variable {H : Type} {enc : TypeId × Value → H} {W : World} {base : Nat} {spare : Nat → Bool} {held : Bool} {r : Reach} {b0 : Nat} {v : Value} {d : DataW H} {p : List MemPlace}

theorem open_given02 (hv : Value.okWide Try.prog W r b0 23 v) (h : DataW.Trod enc Try.prog W base spare held 23 v d p) : ∃ x y : Int, v = .agg #[.int .i64 x, .int .i64 y] := by
  obtain ⟨cs, rfl, hf⟩ := open_flat_struct 3 (ks := [.c (.i .i64), .c (.i .i64)]) Try.underlying23 (by kernel_rfl) hv h
  obtain ⟨x, _, e, _, hf⟩ := hf.int
  obtain ⟨y, _, rfl, _, hf⟩ := hf.int
  obtain rfl := hf.nil_
  exact ⟨x, y, by rw [array_of e]⟩
theorem open_at02 (hv : Value.okWide Try.prog W r b0 25 v) (h : DataW.Trod enc Try.prog W base spare held 25 v d p) : ∃ x y : Int, v = .agg #[.int .i64 x, .int .i64 y] ∧ (-9223372036854775808 ≤ x ∧ x ≤ 9223372036854775807) ∧ (-9223372036854775808 ≤ y ∧ y ≤ 9223372036854775807) := by
  obtain ⟨cs, rfl, hf⟩ := open_flat_array 3 (ks := [.c (.i .i64), .c (.i .i64)]) Try.underlying25 (by kernel_rfl) hv h
  obtain ⟨x, _, e, hx, hf⟩ := hf.int
  obtain ⟨y, _, rfl, hy, hf⟩ := hf.int
  obtain rfl := hf.nil_
  exact ⟨x, y, by rw [array_of e], hx, hy⟩
theorem flat_pact {r : List Value} (h : FlatS [.i .i64, .i .i64, .i .i64, .i .u64, .i .i64, .i .i64, .i .i64] r) : ∃ a : PAct, r = a.cells ∧ True := by
  obtain ⟨a, _, rfl, _, h⟩ := h.int
  obtain ⟨b, _, rfl, _, h⟩ := h.int
  obtain ⟨c, _, rfl, _, h⟩ := h.int
  obtain ⟨d, _, rfl, _, h⟩ := h.int
  obtain ⟨e, _, rfl, _, h⟩ := h.int
  obtain ⟨f, _, rfl, _, h⟩ := h.int
  obtain ⟨g, _, rfl, _, h⟩ := h.int
  obtain rfl := h.nil_
  exact ⟨⟨a, b, c, d, e, f, g⟩, rfl, trivial⟩
theorem open_acts02 (hv : Value.okWide Try.prog W r b0 24 v) (h : DataW.Trod enc Try.prog W base spare held 24 v d p) : ∃ l : List PAct, Acts W v l := by
  obtain ⟨rows, h1, h2⟩ := open_flat_slice 5 (ks := [.i .i64, .i .i64, .i .i64, .i .u64, .i .i64, .i .i64, .i .i64]) Try.underlying24 (by kernel_rfl) hv h
  obtain ⟨l, rfl, _⟩ := rows_as (fun r => flat_pact) rows h2
  exact ⟨l, h1⟩
theorem open_act02 (hv : Value.okWide Try.prog W r b0 37 v) (h : DataW.Trod enc Try.prog W base spare held 37 v d p) : ∃ a : PAct, v = .agg a.cells.toArray := by
  obtain ⟨cs, rfl, hf⟩ := open_flat_struct 5 (ks := [.c (.i .i64), .c (.i .i64), .c (.i .i64), .c (.i .u64), .c (.i .i64), .c (.i .i64), .c (.i .i64)]) Try.underlying37 (by kernel_rfl) hv h
  obtain ⟨a, _, q, _, hf⟩ := hf.int
  obtain ⟨b, _, rfl, _, hf⟩ := hf.int
  obtain ⟨c, _, rfl, _, hf⟩ := hf.int
  obtain ⟨d, _, rfl, _, hf⟩ := hf.int
  obtain ⟨e, _, rfl, _, hf⟩ := hf.int
  obtain ⟨f, _, rfl, _, hf⟩ := hf.int
  obtain ⟨g, _, rfl, _, hf⟩ := hf.int
  obtain rfl := hf.nil_
  exact ⟨⟨a, b, c, d, e, f, g⟩, by rw [array_of q]; rfl⟩
end
end Go.Proofs.Ytkpnmknkimlnaaa
