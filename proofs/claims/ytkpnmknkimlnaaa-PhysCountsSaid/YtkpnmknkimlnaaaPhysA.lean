/-
  Walks over package phys: what a memory is, where a frame lies.
-/
import Derived.Test.YtkpnmknkimlnaaaRows
import Derived.Test.YtkpnmknkimlnaaaMem
import Derived.Deep.RegionWith
import Derived.Laws.ResultCell
namespace Go.Proofs.Ytkpnmknkimlnaaa
set_option linter.unusedVariables false
set_option linter.unusedSimpArgs false
open Go.RowKit
set_option maxHeartbeats 1000000
set_option maxRecDepth 10000

theorem at_in (w : World) (bm bl n : Nat) (c2 : w.cell? ⟨bm, 2, none⟩ = some (.slice (some ⟨bl, 0, none⟩) n n)) (k : Nat) (hk : k < n) (hn : n ≤ 8192) :
    Calls Try.prog 51 #[.pointer (some ⟨bm, 0, none⟩), .int .i64 k] w fun e w' => e = .returned (.pointer (some ⟨bl, k * 10, none⟩)) ∧ w = w' := by
  have h0 : ¬ ((k : Int) < 0) := by omega
  have h1 : ¬ ((k : Int) ≥ (n : Int)) := by omega
  have h2 : (k : Int) < (n : Int) := by omega
  go_enter Try.func51, Try.ntmps51
  go_wp2
  go_ret
  exact ⟨rfl, rfl⟩
theorem at_out (w : World) (bm n c : Nat) (a : Option Addr) (c2 : w.cell? ⟨bm, 2, none⟩ = some (.slice a n c)) (f : Int) (hf : f < 0 ∨ (n : Int) ≤ f) :
    Calls Try.prog 51 #[.pointer (some ⟨bm, 0, none⟩), .int .i64 f] w fun e w' => e = .returned (.pointer none) ∧ w = w' := by
  rcases hf with hf | hf
  all_goals
    go_enter Try.func51, Try.ntmps51
    go_wp2
    all_goals
      go_ret
      exact ⟨rfl, rfl⟩
theorem at_nil (w : World) (f : Int) :
    Calls Try.prog 51 #[.pointer none, .int .i64 f] w fun e w' => e = .returned (.pointer none) ∧ w = w' := by
  go_enter Try.func51, Try.ntmps51
  go_wp2
  go_ret
  exact ⟨rfl, rfl⟩

/-- 'at' tells that there is no such frame. -/
abbrev NoAt (m : Value) (f : Int) (w : World) : Prop := Calls Try.prog 51 #[m, .int .i64 f] w fun e w' => e = .returned (.pointer none) ∧ w = w'
/-- 'at' tells where a frame lies. -/
abbrev AtIs (m : Value) (f : Int) (bl o : Nat) (w : World) : Prop := Calls Try.prog 51 #[m, .int .i64 f] w fun e w' => e = .returned (.pointer (some ⟨bl, o, none⟩)) ∧ w = w'

theorem size_c (w : World) (bm : Nat) (N E : Int) (c0 : w.cell? ⟨bm, 0, none⟩ = some (.int .i64 N)) (c1 : w.cell? ⟨bm, 1, none⟩ = some (.int .i64 E)) :
    Calls Try.prog 36 #[.pointer (some ⟨bm, 0, none⟩)] w fun e w' => e = .returned (.tuple #[.int .i64 N, .int .i64 E]) ∧ Ext [] w w' := by
  go_enter Try.func36, Try.ntmps36
  go_wp2
  go_region
  all_goals (try go_wp2)
  all_goals
    go_ret2
    exact ⟨rfl, (Ext.refl _ _).drew⟩
theorem size_nil (w : World) :
    Calls Try.prog 36 #[.pointer none] w fun e w' => e = .returned (.tuple #[.int .i64 0, .int .i64 0]) ∧ Ext [] w w' := by
  go_enter Try.func36, Try.ntmps36
  go_wp2
  go_ret2
  exact ⟨rfl, Ext.refl _ _⟩

theorem node_no (m : Value) (f : Int) (w : World) (h : NoAt m f w) : Calls Try.prog 37 #[m, .int .i64 f] w fun e w' => e = .returned (.tuple #[.int .i64 0, .int .i64 1]) ∧ w = w' := by
  have H := Lib.hid h
  clear h
  go_enter Try.func37, Try.ntmps37
  go_wp2_with (go_at_call 51; refine (H.out).mono ?_; rintro e w' ⟨rfl, rfl⟩)
  go_ret2
  exact ⟨rfl, rfl⟩
theorem node_is (bm : Nat) (k E bl o : Nat) (w : World) (hE : 0 < E) (h : AtIs (.pointer (some ⟨bm, 0, none⟩)) k bl o w) (c1 : w.cell? ⟨bm, 1, none⟩ = some (.int .i64 E)) :
    Calls Try.prog 37 #[.pointer (some ⟨bm, 0, none⟩), .int .i64 k] w fun e w' => e = .returned (.tuple #[.int .i64 (wrap64 ((k : Int) / (E : Int))), .int .i64 0]) ∧ w = w' := by
  have H := Lib.hid h
  clear h
  have hz : ¬ ((E : Int) = 0) := by omega
  go_enter Try.func37, Try.ntmps37
  go_wp2_with (go_at_call 51; refine (H.out).mono ?_; rintro e w' ⟨rfl, rfl⟩)
  go_ret2
  exact ⟨rfl, rfl⟩

theorem word_no (m : Value) (f i : Int) (w : World) (h : NoAt m f w) : Calls Try.prog 17 #[m, .int .i64 f, .int .i64 i] w fun e w' => e = .returned (.tuple #[.int .u64 0, .int .i64 1]) ∧ w = w' := by
  have H := Lib.hid h
  clear h
  go_enter Try.func17, Try.ntmps17
  go_wp2_with (go_at_call 51; refine (H.out).mono ?_; rintro e w' ⟨rfl, rfl⟩)
  go_ret2
  exact ⟨rfl, rfl⟩
theorem word_out (m : Value) (f i : Int) (bl o : Nat) (w : World) (h : AtIs m f bl o w) (hi : i < 0 ∨ 8 ≤ i) : Calls Try.prog 17 #[m, .int .i64 f, .int .i64 i] w fun e w' => e = .returned (.tuple #[.int .u64 0, .int .i64 1]) ∧ w = w' := by
  have H := Lib.hid h
  clear h
  rcases hi with hi | hi
  all_goals
    go_enter Try.func17, Try.ntmps17
    go_wp2_with (go_at_call 51; refine (H.out).mono ?_; rintro e w' ⟨rfl, rfl⟩)
    all_goals
      go_ret2
      exact ⟨rfl, rfl⟩
theorem word_is (m : Value) (f : Int) (i : Nat) (bl o : Nat) (w : World) (h : AtIs m f bl o w) (hi : i < 8) (v : Int) (c : w.cell? ⟨bl, o + i, none⟩ = some (.int .u64 v)) : Calls Try.prog 17 #[m, .int .i64 f, .int .i64 i] w fun e w' => e = .returned (.tuple #[.int .u64 v, .int .i64 0]) ∧ w = w' := by
  have H := Lib.hid h
  clear h
  have h0 : ¬ ((i : Int) < 0) := by omega
  have h1 : ¬ ((i : Int) ≥ 8) := by omega
  go_enter Try.func17, Try.ntmps17
  go_wp2_with (go_at_call 51; refine (H.out).mono ?_; rintro e w' ⟨rfl, rfl⟩)
  go_ret2
  exact ⟨rfl, rfl⟩

end Go.Proofs.Ytkpnmknkimlnaaa
