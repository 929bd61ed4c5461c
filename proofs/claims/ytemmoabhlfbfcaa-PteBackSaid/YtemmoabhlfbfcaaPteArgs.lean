/-
  A struct of a page table's word, by value, opened.
-/
import Derived.Test.YtemmoabhlfbfcaaArgs
import Derived.Test.YtemmoabhlfbfcaaPteA
namespace Go.Proofs.Ytemmoabhlfbfcaa
set_option linter.unusedVariables false
set_option linter.unusedSimpArgs false
open Go.ChangeShapes Go.WideShapes Go.ChangeAt Go.RowKit

theorem array8 {α : Type} {cs : Array α} (h : cs.size = 8) : ∃ c0 c1 c2 c3 c4 c5 c6 c7, cs = #[c0, c1, c2, c3, c4, c5, c6, c7] := by
  obtain ⟨l⟩ := cs
  match l, h with
  | [c0, c1, c2, c3, c4, c5, c6, c7], _ => exact ⟨c0, c1, c2, c3, c4, c5, c6, c7, rfl⟩

theorem cellsOf_bool (t : TypeId) (h : t = 4) : Try.prog.cellsOf t = 1 := by subst h; kernel_rfl
theorem cellsOf_int (t : TypeId) (h : t = 3) : Try.prog.cellsOf t = 1 := by subst h; kernel_rfl

theorem open_pte {H : Type} {enc : TypeId × Value → H} {W : World} {base : Nat} {spare : Nat → Bool} {held : Bool} {r : Reach} {b0 : Nat} {v : Value} {d : DataW H} {p : List MemPlace}
    (hv : Value.okWide Try.prog W r b0 39 v) (h : DataW.Trod enc Try.prog W base spare held 39 v d p) : ∃ x : PTE, v = .agg x.cells := by
  obtain ⟨cs, rfl, hsz⟩ := okWide_struct Try.underlying39 hv
  obtain ⟨fuel, hf⟩ := h
  obtain ⟨c0, c1, c2, c3, c4, c5, c6, c7, rfl⟩ := array8 (hsz.trans (by kernel_rfl))
  obtain ⟨xs, n, _, _, _, hlen, hk⟩ := DataW.trod_struct Try.underlying39 hf
  have look : ∀ (i : Nat), i < 8 → ∃ y, xs[i]? = some y := fun i hi => ⟨_, List.getElem?_eq_getElem (by rw [hlen]; exact hi)⟩
  obtain ⟨y0, e0⟩ := look 0 (by omega)
  obtain ⟨y1, e1⟩ := look 1 (by omega)
  obtain ⟨y2, e2⟩ := look 2 (by omega)
  obtain ⟨y3, e3⟩ := look 3 (by omega)
  obtain ⟨y4, e4⟩ := look 4 (by omega)
  obtain ⟨y5, e5⟩ := look 5 (by omega)
  obtain ⟨y6, e6⟩ := look 6 (by omega)
  obtain ⟨y7, e7⟩ := look 7 (by omega)
  obtain ⟨b0', z0, _⟩ := DataW.trod_bool Try.underlying4 ((hk 0 _ rfl).trans e0)
  obtain ⟨b1, z1, _⟩ := DataW.trod_bool Try.underlying4 ((hk 1 _ rfl).trans e1)
  obtain ⟨b2, z2, _⟩ := DataW.trod_bool Try.underlying4 ((hk 2 _ rfl).trans e2)
  obtain ⟨b3, z3, _⟩ := DataW.trod_bool Try.underlying4 ((hk 3 _ rfl).trans e3)
  obtain ⟨b4, z4, _⟩ := DataW.trod_bool Try.underlying4 ((hk 4 _ rfl).trans e4)
  obtain ⟨b5, z5, _⟩ := DataW.trod_bool Try.underlying4 ((hk 5 _ rfl).trans e5)
  obtain ⟨b6, z6, _⟩ := DataW.trod_bool Try.underlying4 ((hk 6 _ rfl).trans e6)
  obtain ⟨m, z7, _⟩ := DataW.trod_int Try.underlying3 ((hk 7 _ rfl).trans e7)
  have z0 : List.take (Try.prog.cellsOf 4) [c0, c1, c2, c3, c4, c5, c6, c7] = [.bool b0'] := z0
  rw [cellsOf_bool _ rfl] at z0
  have z1 : List.take (Try.prog.cellsOf 4) [c1, c2, c3, c4, c5, c6, c7] = [.bool b1] := z1
  rw [cellsOf_bool _ rfl] at z1
  have z2 : List.take (Try.prog.cellsOf 4) [c2, c3, c4, c5, c6, c7] = [.bool b2] := z2
  rw [cellsOf_bool _ rfl] at z2
  have z3 : List.take (Try.prog.cellsOf 4) [c3, c4, c5, c6, c7] = [.bool b3] := z3
  rw [cellsOf_bool _ rfl] at z3
  have z4 : List.take (Try.prog.cellsOf 4) [c4, c5, c6, c7] = [.bool b4] := z4
  rw [cellsOf_bool _ rfl] at z4
  have z5 : List.take (Try.prog.cellsOf 4) [c5, c6, c7] = [.bool b5] := z5
  rw [cellsOf_bool _ rfl] at z5
  have z6 : List.take (Try.prog.cellsOf 4) [c6, c7] = [.bool b6] := z6
  rw [cellsOf_bool _ rfl] at z6
  have z7 : List.take (Try.prog.cellsOf 3) [c7] = [.int .i64 m] := z7
  rw [cellsOf_int _ rfl] at z7
  simp at z0 z1 z2 z3 z4 z5 z6 z7
  exact ⟨⟨b0', b1, b2, b3, b4, b5, b6, m⟩, by rw [z0, z1, z2, z3, z4, z5, z6, z7]; rfl⟩

end Go.Proofs.Ytemmoabhlfbfcaa
