/-
  Spans: the laws' arguments, opened.
-/
import Derived.Test.YtkcaheedhbgmnaaArgs
import Derived.Test.YtkcaheedhbgmnaaLwB
namespace Go.Proofs.Ytkcaheedhbgmnaa
set_option linter.unusedVariables false
set_option linter.unusedSimpArgs false
open Go.ChangeShapes Go.WideShapes Go.ChangeAt Go.RowKit
set_option maxRecDepth 100000
section
variable {H : Type} {enc : TypeId × Value → H} {W : World} {base : Nat} {spare : Nat → Bool} {held : Bool} {r : Reach} {b0 : Nat} {v : Value} {d : DataW H} {p : List MemPlace}

theorem flat_sact {r : List Value} (h : FlatS [.b, .i .i64, .i .i64, .i .i8] r) : ∃ a : SAct, r = a.cells ∧ a.ok := by
  obtain ⟨a, _, rfl, g⟩ := h.bool
  obtain ⟨b, _, rfl, _, h⟩ := g.int
  obtain ⟨c, _, rfl, _, h⟩ := h.int
  obtain ⟨d, _, rfl, hd, h⟩ := h.int
  obtain rfl := h.nil_
  exact ⟨⟨a, b, c, d⟩, rfl, hd⟩
theorem open_sacts (hv : Value.okWide Try.prog W r b0 22 v) (h : DataW.Trod enc Try.prog W base spare held 22 v d p) : ∃ l : List SAct, SActs W v l := by
  obtain ⟨rows, h1, h2⟩ := open_flat_slice 5 (ks := [.b, .i .i64, .i .i64, .i .i8]) Try.underlying22 (by kernel_rfl) hv h
  obtain ⟨l, rfl, h3⟩ := rows_as (fun r => flat_sact) rows h2
  exact ⟨l, h1, h3⟩
theorem open_sact (hv : Value.okWide Try.prog W r b0 45 v) (h : DataW.Trod enc Try.prog W base spare held 45 v d p) : ∃ a : SAct, v = .agg a.cells.toArray ∧ a.ok := by
  obtain ⟨cs, rfl, hf⟩ := open_flat_struct 5 (ks := [.c .b, .c (.i .i64), .c (.i .i64), .c (.i .i8)]) Try.underlying45 (by kernel_rfl) hv h
  obtain ⟨a, _, q, g⟩ := hf.bool
  obtain ⟨b, _, rfl, _, hf⟩ := g.int
  obtain ⟨c, _, rfl, _, hf⟩ := hf.int
  obtain ⟨d, _, rfl, hd, hf⟩ := hf.int
  obtain rfl := hf.nil_
  exact ⟨⟨a, b, c, d⟩, by rw [array_of q]; rfl, hd⟩
end
end Go.Proofs.Ytkcaheedhbgmnaa
