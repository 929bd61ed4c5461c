/-
  Walks over package phys: frames let be zero, words copied, owners.
-/
import Derived.Test.YtkpnmknkimlnaaaPhysB
namespace Go.Proofs.Ytkpnmknkimlnaaa
set_option linter.unusedVariables false
set_option linter.unusedSimpArgs false
open Go.RowKit
set_option maxHeartbeats 1000000
set_option maxRecDepth 10000

theorem copy_c0 (m : Value) (f t i : Int) (w : World) (h : NoAt m f w) (h' : NoAt m t w ∨ ∃ bl o, AtIs m t bl o w) : Calls Try.prog 42 #[m, .int .i64 f, .int .i64 t, .int .i64 i] w fun e w' => e = .returned (.int .i64 1) ∧ w = w' := by
  have H := Lib.hid h
  clear h
  rcases h' with h' | ⟨bl, o, h'⟩
  all_goals
    have H' := Lib.hid h'
    clear h'
    go_enter Try.func42, Try.ntmps42
    go_wp2_with (first
      | (go_at_call 51; with_reducible refine (H.out).mono ?_; rintro e w' ⟨rfl, rfl⟩)
      | (go_at_call 51; with_reducible refine (H'.out).mono ?_; rintro e w' ⟨rfl, rfl⟩))
    go_ret
    exact ⟨rfl, rfl⟩
theorem copy_c1 (m : Value) (f t i : Int) (bl o : Nat) (w : World) (h : AtIs m f bl o w) (h' : NoAt m t w) : Calls Try.prog 42 #[m, .int .i64 f, .int .i64 t, .int .i64 i] w fun e w' => e = .returned (.int .i64 1) ∧ w = w' := by
  have H := Lib.hid h
  have H' := Lib.hid h'
  clear h h'
  go_enter Try.func42, Try.ntmps42
  go_wp2_with (first
    | (go_at_call 51; with_reducible refine (H.out).mono ?_; rintro e w' ⟨rfl, rfl⟩)
    | (go_at_call 51; with_reducible refine (H'.out).mono ?_; rintro e w' ⟨rfl, rfl⟩))
  go_ret
  exact ⟨rfl, rfl⟩
theorem copy_out (m : Value) (f t i : Int) (bl o o' : Nat) (w : World) (h : AtIs m f bl o w) (h' : AtIs m t bl o' w) (hi : i < 0 ∨ 8 ≤ i) : Calls Try.prog 42 #[m, .int .i64 f, .int .i64 t, .int .i64 i] w fun e w' => e = .returned (.int .i64 1) ∧ w = w' := by
  have H := Lib.hid h
  have H' := Lib.hid h'
  clear h h'
  rcases hi with hi | hi
  all_goals
    go_enter Try.func42, Try.ntmps42
    go_wp2_with (first
      | (go_at_call 51; with_reducible refine (H.out).mono ?_; rintro e w' ⟨rfl, rfl⟩)
      | (go_at_call 51; with_reducible refine (H'.out).mono ?_; rintro e w' ⟨rfl, rfl⟩))
    all_goals
      go_ret
      exact ⟨rfl, rfl⟩
theorem copy_is (m : Value) (f t : Int) (i : Nat) (bl o o' : Nat) (w : World) (h : AtIs m f bl o w) (h' : AtIs m t bl o' w) (hi : i < 8) (x : Int) (y : Value) (c : w.cell? ⟨bl, o + i, none⟩ = some (.int .u64 x)) (c' : w.cell? ⟨bl, o' + i, none⟩ = some y) (fr : w.frozen? ⟨bl, o' + i, none⟩ = false) :
    Calls Try.prog 42 #[m, .int .i64 f, .int .i64 t, .int .i64 i] w fun e w' => e = .returned (.int .i64 0) ∧ w' = w.drew.setCell ⟨bl, o' + i, none⟩ (.int .u64 x) := by
  have H := Lib.hid h
  have H' := Lib.hid h'
  clear h h'
  have h0 : ¬ ((i : Int) < 0) := by omega
  have h1 : ¬ ((i : Int) ≥ 8) := by omega
  go_enter Try.func42, Try.ntmps42
  go_wp2_with (first
    | (go_at_call 51; with_reducible refine (H.out).mono ?_; rintro e w' ⟨rfl, rfl⟩)
    | (go_at_call 51; with_reducible refine (H'.out).mono ?_; rintro e w' ⟨rfl, rfl⟩))
  go_region
  all_goals go_wp2
  all_goals
    go_ret
    exact ⟨rfl, rfl⟩

theorem owner_no (m : Value) (f : Int) (w : World) (h : NoAt m f (w.alloc (.cells #[.int .i64 0, .int .i64 0] 35))) : Calls Try.prog 38 #[m, .int .i64 f] w fun e w' => e = .returned (.tuple #[.agg #[.int .i64 0, .int .i64 0], .int .i64 1]) ∧ Ext [] w w' := by
  have H := Lib.hid h
  clear h
  go_enter Try.func38, Try.ntmps38
  go_wp2_with (go_at_call 51; refine (H.out).mono ?_; rintro e w' ⟨rfl, rfl⟩)
  (try simp only [Exit.inBlock, Exit.then])
  refine bodyPost_ret (v := .tuple #[.agg #[.int .i64 0, .int .i64 0], .int .i64 1]) ?_ rfl ⟨rfl, ?_⟩
  · rw [results_cell_tmp rfl]
    go_simp
  · repeat' (first | exact Ext.refl _ _ | refine Ext.alloc ?_ _ | refine Ext.setCell ?_ _ _ (.inr (Nat.le_refl _)))
theorem owner_is (m : Value) (f : Int) (bl o : Nat) (x y : Int) (w : World) (h : AtIs m f bl o (w.alloc (.cells #[.int .i64 0, .int .i64 0] 35))) (hb : bl < w.heap.size) (c0 : w.cell? ⟨bl, o + 8, none⟩ = some (.int .i64 x)) (c1 : w.cell? ⟨bl, o + 9, none⟩ = some (.int .i64 y)) :
    Calls Try.prog 38 #[m, .int .i64 f] w fun e w' => e = .returned (.tuple #[.agg #[.int .i64 x, .int .i64 y], .int .i64 0]) ∧ Ext [] w w' := by
  have H := Lib.hid h
  clear h
  go_enter Try.func38, Try.ntmps38
  go_wp2_with (go_at_call 51; refine (H.out).mono ?_; rintro e w' ⟨rfl, rfl⟩)
  (try simp only [Exit.inBlock, Exit.then])
  refine bodyPost_ret (v := .tuple #[.agg #[.int .i64 x, .int .i64 y], .int .i64 0]) ?_ rfl ⟨rfl, ?_⟩
  · rw [results_cell_tmp rfl]
    go_simp
  · repeat' (first | exact Ext.refl _ _ | refine Ext.alloc ?_ _ | refine Ext.setCell ?_ _ _ (.inr (Nat.le_refl _)))

/-- May an owner be, where there are so many nodes? -/
def mayOwn (N k n : Int) : Bool := ((k == 1 || k == 3) && (decide (0 ≤ n) && decide (n < N))) || ((k == 0 || k == 2) && n == 0)
theorem may_c (bm : Nat) (N k n : Int) (w : World) (c0 : w.cell? ⟨bm, 0, none⟩ = some (.int .i64 N)) (hb : bm < w.heap.size) : Calls Try.prog 68 #[.pointer (some ⟨bm, 0, none⟩), .agg #[.int .i64 k, .int .i64 n]] w fun e w' => e = .returned (.bool (mayOwn N k n)) ∧ Ext [] w w' := by
  by_cases hn : 0 ≤ n
  · go_enter Try.func68, Try.ntmps68
    go_wp2
    all_goals (try go_region)
    all_goals (try go_wp2)
    all_goals go_ret
    all_goals (refine ⟨ret_bool ?_, ?_⟩)
    all_goals first
      | exact ((Ext.refl _ _).alloc _).drew
      | exact (Ext.refl _ _).alloc _
      | (simp_all [mayOwn])
  · have hn1 : n < 0 := by omega
    have hn2 : decide (0 ≤ n) = false := by simpa using hn1
    go_enter Try.func68, Try.ntmps68
    go_wp2
    all_goals (try go_region)
    all_goals (try go_wp2)
    all_goals go_ret
    all_goals (refine ⟨ret_bool ?_, ?_⟩)
    all_goals first
      | exact ((Ext.refl _ _).alloc _).drew
      | exact (Ext.refl _ _).alloc _
      | (simp_all [mayOwn] <;> try omega)

theorem setOwner_no (m : Value) (f k n : Int) (w : World) (h : NoAt m f (w.alloc (.cells #[.int .i64 k, .int .i64 n] 35))) : Calls Try.prog 43 #[m, .int .i64 f, .agg #[.int .i64 k, .int .i64 n]] w fun e w' => e = .returned (.int .i64 1) ∧ Ext [] w w' := by
  have H := Lib.hid h
  clear h
  go_enter Try.func43, Try.ntmps43
  go_wp2_with (go_at_call 51; refine (H.out).mono ?_; rintro e w' ⟨rfl, rfl⟩)
  go_ret
  exact ⟨rfl, (Ext.refl _ _).alloc _⟩
theorem setOwner_bad (bm : Nat) (f k n N : Int) (bl o : Nat) (w : World) (h : AtIs (.pointer (some ⟨bm, 0, none⟩)) f bl o (w.alloc (.cells #[.int .i64 k, .int .i64 n] 35))) (hb : bl < w.heap.size) (hm : bm < w.heap.size) (c : w.cell? ⟨bm, 0, none⟩ = some (.int .i64 N)) (hmay : mayOwn N k n = false) :
    Calls Try.prog 43 #[.pointer (some ⟨bm, 0, none⟩), .int .i64 f, .agg #[.int .i64 k, .int .i64 n]] w fun e w' => e = .returned (.int .i64 1) ∧ Ext [] w w' := by
  have H := Lib.hid h
  clear h
  have CM := Lib.hid (may_c bm N k n (w.alloc (.cells #[.int .i64 k, .int .i64 n] 35)) (by rw [World.cell?_alloc_past _ _ _ hm]; exact c) (by simp; omega))
  have hc0 : Ext [] w (w.alloc (.cells #[.int .i64 k, .int .i64 n] 35)) := (Ext.refl _ _).alloc _
  have hB := Blk.new w [.int .i64 k, .int .i64 n] 35
  rw [hmay] at CM
  clear hmay
  go_enter Try.func43, Try.ntmps43
  go_wp2_with (first
    | (go_at_call 51; refine (H.out).mono ?_; rintro e w' ⟨rfl, rfl⟩)
    | (go_at_call 68; refine (CM.out).mono ?_; rintro e w' ⟨rfl, hx⟩))
  go_ret
  exact ⟨rfl, hc0.trans hx⟩
theorem setOwner_is (bm : Nat) (f k n N : Int) (bl o : Nat) (w : World) (h : AtIs (.pointer (some ⟨bm, 0, none⟩)) f bl o (w.alloc (.cells #[.int .i64 k, .int .i64 n] 35))) (hb : bl < w.heap.size) (hm : bm < w.heap.size) (c : w.cell? ⟨bm, 0, none⟩ = some (.int .i64 N)) (hmay : mayOwn N k n = true)
    (x y : Value) (c0 : w.cell? ⟨bl, o + 8, none⟩ = some x) (c1 : w.cell? ⟨bl, o + 9, none⟩ = some y) (q0 : w.frozen? ⟨bl, o + 8, none⟩ = false) (q1 : w.frozen? ⟨bl, o + 9, none⟩ = false) :
    Calls Try.prog 43 #[.pointer (some ⟨bm, 0, none⟩), .int .i64 f, .agg #[.int .i64 k, .int .i64 n]] w fun e w' =>
      e = .returned (.int .i64 0) ∧ ∃ w2, Ext [] w w2 ∧ w' = (w2.setCell ⟨bl, o + 8, none⟩ (.int .i64 k)).setCell ⟨bl, o + 9, none⟩ (.int .i64 n) := by
  have H := Lib.hid h
  clear h
  have CM := Lib.hid (may_c bm N k n (w.alloc (.cells #[.int .i64 k, .int .i64 n] 35)) (by rw [World.cell?_alloc_past _ _ _ hm]; exact c) (by simp; omega))
  have hc0 : Ext [] w (w.alloc (.cells #[.int .i64 k, .int .i64 n] 35)) := (Ext.refl _ _).alloc _
  have hB := Blk.new w [.int .i64 k, .int .i64 n] 35
  rw [hmay] at CM
  clear hmay
  go_enter Try.func43, Try.ntmps43
  go_wp2_with (first
    | (go_at_call 51; refine (H.out).mono ?_; rintro e w' ⟨rfl, rfl⟩)
    | (go_at_call 68; refine (CM.out).mono ?_; rintro e w' ⟨rfl, hx⟩; have b0 := (hB.ext hx (by simp)).cell 0; have b1 := (hB.ext hx (by simp)).cell 1; have hxx := hc0.trans hx; have d0 := (hxx.cell (p := ⟨bl, o + 8, none⟩) hb (by simp)).trans c0; have d1 := (hxx.cell (p := ⟨bl, o + 9, none⟩) hb (by simp)).trans c1; have p0 := (hxx.frozen (p := ⟨bl, o + 8, none⟩) hb (by simp)).trans q0; have p1 := (hxx.frozen (p := ⟨bl, o + 9, none⟩) hb (by simp)).trans q1))
  go_ret
  exact ⟨rfl, _, hxx, rfl⟩

end Go.Proofs.Ytkpnmknkimlnaaa
