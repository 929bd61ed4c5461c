/-
  Walks over package pte and its reference: leaves, what words let.
-/
import Derived.Test.YtemmoabhlfbfcaaPteC
namespace Go.Proofs.Ytemmoabhlfbfcaa
set_option linter.unusedVariables false
set_option linter.unusedSimpArgs false
open Go.RowKit
set_option maxHeartbeats 2000000
set_option maxRecDepth 10000

def PTE.leaf (fr perm : Int) (hu re : Bool) : PTE := ⟨true, perm == 3, hu, false, false, false, re, fr⟩
def leafOk (fr perm : Int) (hu re : Bool) : Bool := (perm == 1 || perm == 3) && (PTE.leaf fr perm hu re).may
def leafV (fr perm : Int) (hu re : Bool) : Value := if leafOk fr perm hu re then .tuple #[.agg (PTE.leaf fr perm hu re).cells, .int .i64 0] else .tuple #[.agg PTE.zero.cells, .int .i64 1]

theorem leaf_c (fr perm : Int) (hu re : Bool) (w : World) : Calls Try.prog 37 #[.int .i64 fr, .int .i64 perm, .bool hu, .bool re] w fun e w' => e = .returned (leafV fr perm hu re) ∧ Ext [] w w' := by
  have C := Lib.hid (fun w => check_c (PTE.leaf fr perm hu re) w)
  unfold leafV leafOk
  unfold PTE.zero
  unfold PTE.err at C
  by_cases h1 : perm = 1
  · subst h1
    generalize hm : (PTE.leaf fr 1 hu re).may = m at *
    clear hm
    unfold PTE.leaf PTE.cells at *
    simp only [] at *
    cases m
    · have hZ := (Blk.new w [.bool false, .bool false, .bool false, .bool false, .bool false, .bool false, .bool false, .int .i64 0] 39).alloc (.cells #[.bool true, .bool false, .bool hu, .bool false, .bool false, .bool false, .bool re, .int .i64 fr] 39)
      have hB := Blk.new (w.alloc (.cells #[.bool false, .bool false, .bool false, .bool false, .bool false, .bool false, .bool false, .int .i64 0] 39)) [.bool true, .bool false, .bool hu, .bool false, .bool false, .bool false, .bool re, .int .i64 fr] 39
      have hs : (w.alloc (.cells #[.bool false, .bool false, .bool false, .bool false, .bool false, .bool false, .bool false, .int .i64 0] 39)).heap.size = w.heap.size + 1 := by simp
      have Hs := Lib.hid hs
      clear hs
      go_enter Try.func37, Try.ntmps37
      go_wp2_with (go_at_call 27; refine (C.out _).mono ?_; rintro e w' ⟨rfl, hx⟩; have hx' := (((Ext.refl [] w).alloc _).alloc _).trans hx; obtain ⟨k0, k1, k2, k3, k4, k5, k6, k7⟩ := (hB.ext hx (by simp)).cells8 Hs.out; obtain ⟨z0, z1, z2, z3, z4, z5, z6, z7⟩ := (hZ.ext hx (by simp)).cells8 rfl; obtain ⟨q0, q1, q2, q3, q4, q5, q6, q7⟩ := (hZ.ext hx (by simp)).frozen8 rfl)
      (try simp only [Exit.inBlock, Exit.then])
      refine bodyPost_ret (v := .tuple #[.agg #[.bool false, .bool false, .bool false, .bool false, .bool false, .bool false, .bool false, .int .i64 0], .int .i64 1]) ?_ rfl ⟨rfl, ?_⟩
      · rw [results_cell_tmp rfl]
        go_simp
      · iterate 8 refine Ext.setCell ?_ _ _ (.inr (by simp))
        exact hx'
    · have hZ := (Blk.new w [.bool false, .bool false, .bool false, .bool false, .bool false, .bool false, .bool false, .int .i64 0] 39).alloc (.cells #[.bool true, .bool false, .bool hu, .bool false, .bool false, .bool false, .bool re, .int .i64 fr] 39)
      have hB := Blk.new (w.alloc (.cells #[.bool false, .bool false, .bool false, .bool false, .bool false, .bool false, .bool false, .int .i64 0] 39)) [.bool true, .bool false, .bool hu, .bool false, .bool false, .bool false, .bool re, .int .i64 fr] 39
      have hs : (w.alloc (.cells #[.bool false, .bool false, .bool false, .bool false, .bool false, .bool false, .bool false, .int .i64 0] 39)).heap.size = w.heap.size + 1 := by simp
      have Hs := Lib.hid hs
      clear hs
      go_enter Try.func37, Try.ntmps37
      go_wp2_with (go_at_call 27; refine (C.out _).mono ?_; rintro e w' ⟨rfl, hx⟩; have hx' := (((Ext.refl [] w).alloc _).alloc _).trans hx; obtain ⟨k0, k1, k2, k3, k4, k5, k6, k7⟩ := (hB.ext hx (by simp)).cells8 Hs.out; obtain ⟨z0, z1, z2, z3, z4, z5, z6, z7⟩ := (hZ.ext hx (by simp)).cells8 rfl; obtain ⟨q0, q1, q2, q3, q4, q5, q6, q7⟩ := (hZ.ext hx (by simp)).frozen8 rfl)
      (try simp only [Exit.inBlock, Exit.then])
      refine bodyPost_ret (v := .tuple #[.agg #[.bool true, .bool false, .bool hu, .bool false, .bool false, .bool false, .bool re, .int .i64 fr], .int .i64 0]) ?_ rfl ⟨rfl, ?_⟩
      · rw [results_cell_tmp rfl]
        go_simp
      · iterate 8 refine Ext.setCell ?_ _ _ (.inr (by simp))
        exact hx'
  by_cases h3 : perm = 3
  · subst h3
    generalize hm : (PTE.leaf fr 3 hu re).may = m at *
    clear hm
    unfold PTE.leaf PTE.cells at *
    simp only [] at *
    cases m
    · have hZ := (Blk.new w [.bool false, .bool false, .bool false, .bool false, .bool false, .bool false, .bool false, .int .i64 0] 39).alloc (.cells #[.bool true, .bool true, .bool hu, .bool false, .bool false, .bool false, .bool re, .int .i64 fr] 39)
      have hB := Blk.new (w.alloc (.cells #[.bool false, .bool false, .bool false, .bool false, .bool false, .bool false, .bool false, .int .i64 0] 39)) [.bool true, .bool true, .bool hu, .bool false, .bool false, .bool false, .bool re, .int .i64 fr] 39
      have hs : (w.alloc (.cells #[.bool false, .bool false, .bool false, .bool false, .bool false, .bool false, .bool false, .int .i64 0] 39)).heap.size = w.heap.size + 1 := by simp
      have Hs := Lib.hid hs
      clear hs
      go_enter Try.func37, Try.ntmps37
      go_wp2_with (go_at_call 27; refine (C.out _).mono ?_; rintro e w' ⟨rfl, hx⟩; have hx' := (((Ext.refl [] w).alloc _).alloc _).trans hx; obtain ⟨k0, k1, k2, k3, k4, k5, k6, k7⟩ := (hB.ext hx (by simp)).cells8 Hs.out; obtain ⟨z0, z1, z2, z3, z4, z5, z6, z7⟩ := (hZ.ext hx (by simp)).cells8 rfl; obtain ⟨q0, q1, q2, q3, q4, q5, q6, q7⟩ := (hZ.ext hx (by simp)).frozen8 rfl)
      (try simp only [Exit.inBlock, Exit.then])
      refine bodyPost_ret (v := .tuple #[.agg #[.bool false, .bool false, .bool false, .bool false, .bool false, .bool false, .bool false, .int .i64 0], .int .i64 1]) ?_ rfl ⟨rfl, ?_⟩
      · rw [results_cell_tmp rfl]
        go_simp
      · iterate 8 refine Ext.setCell ?_ _ _ (.inr (by simp))
        exact hx'
    · have hZ := (Blk.new w [.bool false, .bool false, .bool false, .bool false, .bool false, .bool false, .bool false, .int .i64 0] 39).alloc (.cells #[.bool true, .bool true, .bool hu, .bool false, .bool false, .bool false, .bool re, .int .i64 fr] 39)
      have hB := Blk.new (w.alloc (.cells #[.bool false, .bool false, .bool false, .bool false, .bool false, .bool false, .bool false, .int .i64 0] 39)) [.bool true, .bool true, .bool hu, .bool false, .bool false, .bool false, .bool re, .int .i64 fr] 39
      have hs : (w.alloc (.cells #[.bool false, .bool false, .bool false, .bool false, .bool false, .bool false, .bool false, .int .i64 0] 39)).heap.size = w.heap.size + 1 := by simp
      have Hs := Lib.hid hs
      clear hs
      go_enter Try.func37, Try.ntmps37
      go_wp2_with (go_at_call 27; refine (C.out _).mono ?_; rintro e w' ⟨rfl, hx⟩; have hx' := (((Ext.refl [] w).alloc _).alloc _).trans hx; obtain ⟨k0, k1, k2, k3, k4, k5, k6, k7⟩ := (hB.ext hx (by simp)).cells8 Hs.out; obtain ⟨z0, z1, z2, z3, z4, z5, z6, z7⟩ := (hZ.ext hx (by simp)).cells8 rfl; obtain ⟨q0, q1, q2, q3, q4, q5, q6, q7⟩ := (hZ.ext hx (by simp)).frozen8 rfl)
      (try simp only [Exit.inBlock, Exit.then])
      refine bodyPost_ret (v := .tuple #[.agg #[.bool true, .bool true, .bool hu, .bool false, .bool false, .bool false, .bool re, .int .i64 fr], .int .i64 0]) ?_ rfl ⟨rfl, ?_⟩
      · rw [results_cell_tmp rfl]
        go_simp
      · iterate 8 refine Ext.setCell ?_ _ _ (.inr (by simp))
        exact hx'
  · have e1 : (perm != 1) = true := by simpa using h1
    have e2 : (perm != 3) = true := by simpa using h3
    have e3 : (perm == 3) = false := by simpa using h3
    have e4 : (perm == 1) = false := by simpa using h1
    simp only [e3, e4, Bool.or_false, Bool.false_and]
    unfold PTE.cells
    clear C h1 h3
    go_enter Try.func37, Try.ntmps37
    go_wp2
    (try simp only [Exit.inBlock, Exit.then])
    refine bodyPost_ret (v := .tuple #[.agg #[.bool false, .bool false, .bool false, .bool false, .bool false, .bool false, .bool false, .int .i64 0], .int .i64 1]) ?_ rfl ⟨rfl, ?_⟩
    · rw [results_cell_tmp rfl]
      go_simp
    · repeat' (first | exact Ext.refl _ _ | refine Ext.alloc ?_ _ | refine Ext.setCell ?_ _ _ (.inr (Nat.le_refl _)))

theorem rleaf_c (fr perm : Int) (hu re : Bool) (w : World) : Calls Try.prog 38 #[.int .i64 fr, .int .i64 perm, .bool hu, .bool re] w fun e w' => e = .returned (leafV fr perm hu re) ∧ Ext [] w w' := by
  have C := Lib.hid (fun w => rmay_c (PTE.leaf fr perm hu re) w)
  unfold leafV leafOk
  unfold PTE.zero
  by_cases h1 : perm = 1
  · subst h1
    generalize hm : (PTE.leaf fr 1 hu re).may = m at *
    clear hm
    unfold PTE.leaf PTE.cells at *
    simp only [] at *
    cases m
    · have hZ := (Blk.new w [.bool false, .bool false, .bool false, .bool false, .bool false, .bool false, .bool false, .int .i64 0] 39).alloc (.cells #[.bool true, .bool false, .bool hu, .bool false, .bool false, .bool false, .bool re, .int .i64 fr] 39)
      have hB := Blk.new (w.alloc (.cells #[.bool false, .bool false, .bool false, .bool false, .bool false, .bool false, .bool false, .int .i64 0] 39)) [.bool true, .bool false, .bool hu, .bool false, .bool false, .bool false, .bool re, .int .i64 fr] 39
      have hs : (w.alloc (.cells #[.bool false, .bool false, .bool false, .bool false, .bool false, .bool false, .bool false, .int .i64 0] 39)).heap.size = w.heap.size + 1 := by simp
      have Hs := Lib.hid hs
      clear hs
      go_enter Try.func38, Try.ntmps38
      go_wp2_with (go_at_call 52; refine (C.out _).mono ?_; rintro e w' ⟨rfl, hx⟩; have hx' := (((Ext.refl [] w).alloc _).alloc _).trans hx; obtain ⟨k0, k1, k2, k3, k4, k5, k6, k7⟩ := (hB.ext hx (by simp)).cells8 Hs.out; obtain ⟨z0, z1, z2, z3, z4, z5, z6, z7⟩ := (hZ.ext hx (by simp)).cells8 rfl; obtain ⟨q0, q1, q2, q3, q4, q5, q6, q7⟩ := (hZ.ext hx (by simp)).frozen8 rfl)
      (try simp only [Exit.inBlock, Exit.then])
      refine bodyPost_ret (v := .tuple #[.agg #[.bool false, .bool false, .bool false, .bool false, .bool false, .bool false, .bool false, .int .i64 0], .int .i64 1]) ?_ rfl ⟨rfl, ?_⟩
      · rw [results_cell_tmp rfl]
        go_simp
      · iterate 8 refine Ext.setCell ?_ _ _ (.inr (by simp))
        exact hx'
    · have hZ := (Blk.new w [.bool false, .bool false, .bool false, .bool false, .bool false, .bool false, .bool false, .int .i64 0] 39).alloc (.cells #[.bool true, .bool false, .bool hu, .bool false, .bool false, .bool false, .bool re, .int .i64 fr] 39)
      have hB := Blk.new (w.alloc (.cells #[.bool false, .bool false, .bool false, .bool false, .bool false, .bool false, .bool false, .int .i64 0] 39)) [.bool true, .bool false, .bool hu, .bool false, .bool false, .bool false, .bool re, .int .i64 fr] 39
      have hs : (w.alloc (.cells #[.bool false, .bool false, .bool false, .bool false, .bool false, .bool false, .bool false, .int .i64 0] 39)).heap.size = w.heap.size + 1 := by simp
      have Hs := Lib.hid hs
      clear hs
      go_enter Try.func38, Try.ntmps38
      go_wp2_with (go_at_call 52; refine (C.out _).mono ?_; rintro e w' ⟨rfl, hx⟩; have hx' := (((Ext.refl [] w).alloc _).alloc _).trans hx; obtain ⟨k0, k1, k2, k3, k4, k5, k6, k7⟩ := (hB.ext hx (by simp)).cells8 Hs.out; obtain ⟨z0, z1, z2, z3, z4, z5, z6, z7⟩ := (hZ.ext hx (by simp)).cells8 rfl; obtain ⟨q0, q1, q2, q3, q4, q5, q6, q7⟩ := (hZ.ext hx (by simp)).frozen8 rfl)
      (try simp only [Exit.inBlock, Exit.then])
      refine bodyPost_ret (v := .tuple #[.agg #[.bool true, .bool false, .bool hu, .bool false, .bool false, .bool false, .bool re, .int .i64 fr], .int .i64 0]) ?_ rfl ⟨rfl, ?_⟩
      · rw [results_cell_tmp rfl]
        go_simp
      · iterate 8 refine Ext.setCell ?_ _ _ (.inr (by simp))
        exact hx'
  by_cases h3 : perm = 3
  · subst h3
    generalize hm : (PTE.leaf fr 3 hu re).may = m at *
    clear hm
    unfold PTE.leaf PTE.cells at *
    simp only [] at *
    cases m
    · have hZ := (Blk.new w [.bool false, .bool false, .bool false, .bool false, .bool false, .bool false, .bool false, .int .i64 0] 39).alloc (.cells #[.bool true, .bool true, .bool hu, .bool false, .bool false, .bool false, .bool re, .int .i64 fr] 39)
      have hB := Blk.new (w.alloc (.cells #[.bool false, .bool false, .bool false, .bool false, .bool false, .bool false, .bool false, .int .i64 0] 39)) [.bool true, .bool true, .bool hu, .bool false, .bool false, .bool false, .bool re, .int .i64 fr] 39
      have hs : (w.alloc (.cells #[.bool false, .bool false, .bool false, .bool false, .bool false, .bool false, .bool false, .int .i64 0] 39)).heap.size = w.heap.size + 1 := by simp
      have Hs := Lib.hid hs
      clear hs
      go_enter Try.func38, Try.ntmps38
      go_wp2_with (go_at_call 52; refine (C.out _).mono ?_; rintro e w' ⟨rfl, hx⟩; have hx' := (((Ext.refl [] w).alloc _).alloc _).trans hx; obtain ⟨k0, k1, k2, k3, k4, k5, k6, k7⟩ := (hB.ext hx (by simp)).cells8 Hs.out; obtain ⟨z0, z1, z2, z3, z4, z5, z6, z7⟩ := (hZ.ext hx (by simp)).cells8 rfl; obtain ⟨q0, q1, q2, q3, q4, q5, q6, q7⟩ := (hZ.ext hx (by simp)).frozen8 rfl)
      (try simp only [Exit.inBlock, Exit.then])
      refine bodyPost_ret (v := .tuple #[.agg #[.bool false, .bool false, .bool false, .bool false, .bool false, .bool false, .bool false, .int .i64 0], .int .i64 1]) ?_ rfl ⟨rfl, ?_⟩
      · rw [results_cell_tmp rfl]
        go_simp
      · iterate 8 refine Ext.setCell ?_ _ _ (.inr (by simp))
        exact hx'
    · have hZ := (Blk.new w [.bool false, .bool false, .bool false, .bool false, .bool false, .bool false, .bool false, .int .i64 0] 39).alloc (.cells #[.bool true, .bool true, .bool hu, .bool false, .bool false, .bool false, .bool re, .int .i64 fr] 39)
      have hB := Blk.new (w.alloc (.cells #[.bool false, .bool false, .bool false, .bool false, .bool false, .bool false, .bool false, .int .i64 0] 39)) [.bool true, .bool true, .bool hu, .bool false, .bool false, .bool false, .bool re, .int .i64 fr] 39
      have hs : (w.alloc (.cells #[.bool false, .bool false, .bool false, .bool false, .bool false, .bool false, .bool false, .int .i64 0] 39)).heap.size = w.heap.size + 1 := by simp
      have Hs := Lib.hid hs
      clear hs
      go_enter Try.func38, Try.ntmps38
      go_wp2_with (go_at_call 52; refine (C.out _).mono ?_; rintro e w' ⟨rfl, hx⟩; have hx' := (((Ext.refl [] w).alloc _).alloc _).trans hx; obtain ⟨k0, k1, k2, k3, k4, k5, k6, k7⟩ := (hB.ext hx (by simp)).cells8 Hs.out; obtain ⟨z0, z1, z2, z3, z4, z5, z6, z7⟩ := (hZ.ext hx (by simp)).cells8 rfl; obtain ⟨q0, q1, q2, q3, q4, q5, q6, q7⟩ := (hZ.ext hx (by simp)).frozen8 rfl)
      (try simp only [Exit.inBlock, Exit.then])
      refine bodyPost_ret (v := .tuple #[.agg #[.bool true, .bool true, .bool hu, .bool false, .bool false, .bool false, .bool re, .int .i64 fr], .int .i64 0]) ?_ rfl ⟨rfl, ?_⟩
      · rw [results_cell_tmp rfl]
        go_simp
      · iterate 8 refine Ext.setCell ?_ _ _ (.inr (by simp))
        exact hx'
  · have e1 : (perm != 1) = true := by simpa using h1
    have e2 : (perm != 3) = true := by simpa using h3
    have e3 : (perm == 3) = false := by simpa using h3
    have e4 : (perm == 1) = false := by simpa using h1
    simp only [e3, e4, Bool.or_false, Bool.false_and]
    unfold PTE.cells
    clear C h1 h3
    go_enter Try.func38, Try.ntmps38
    go_wp2
    (try simp only [Exit.inBlock, Exit.then])
    refine bodyPost_ret (v := .tuple #[.agg #[.bool false, .bool false, .bool false, .bool false, .bool false, .bool false, .bool false, .int .i64 0], .int .i64 1]) ?_ rfl ⟨rfl, ?_⟩
    · rw [results_cell_tmp rfl]
      go_simp
    · repeat' (first | exact Ext.refl _ _ | refine Ext.alloc ?_ _ | refine Ext.setCell ?_ _ _ (.inr (Nat.le_refl _)))

def PTE.lets (p : PTE) : Int := if p.pr then (if p.wr then 3 else 1) else 0
theorem perm_c (p : PTE) (w : World) : Calls Try.prog 39 #[.agg p.cells] w fun e w' => e = .returned (.int .i64 p.lets) ∧ Ext [] w w' := by
  obtain ⟨pr, wr, hu, ac, di, ma, re, fr⟩ := p
  unfold PTE.cells PTE.lets
  simp only []
  cases pr <;> cases wr
  all_goals
    go_enter Try.func39, Try.ntmps39
    go_wp2
    go_ret
    exact ⟨rfl, (Ext.refl _ _).alloc _⟩

theorem rperm_c (p : PTE) (w : World) : Calls Try.prog 45 #[.agg p.cells] w fun e w' => e = .returned (.int .i64 p.lets) ∧ Ext [] w w' := by
  obtain ⟨pr, wr, hu, ac, di, ma, re, fr⟩ := p
  unfold PTE.cells PTE.lets
  simp only []
  cases pr <;> cases wr
  all_goals
    go_enter Try.func45, Try.ntmps45
    go_wp2
    go_ret
    exact ⟨rfl, (Ext.refl _ _).alloc _⟩

theorem awake05_c (w : World) : Calls Try.prog 29 #[] w fun e w' => e = .returned (.bool true) ∧ Ext [] w w' := by
  have C := Lib.hid (fun w => leaf_c 5 3 false false w)
  have CE := Lib.hid (fun w => enc_c (PTE.leaf 5 3 false false) w)
  have e1 : leafV 5 3 false false = .tuple #[.agg #[.bool true, .bool true, .bool false, .bool false, .bool false, .bool false, .bool false, .int .i64 5], .int .i64 0] := by kernel_rfl
  have e2 : (PTE.leaf 5 3 false false).encV = .tuple #[.int .u64 20483, .int .i64 0] := by kernel_rfl
  have e3 : (PTE.leaf 5 3 false false).cells = #[.bool true, .bool true, .bool false, .bool false, .bool false, .bool false, .bool false, .int .i64 5] := by kernel_rfl
  rw [e1] at C
  rw [e2, e3] at CE
  clear e1 e2 e3
  go_enter Try.func29, Try.ntmps29
  go_wp2_with (first
    | (go_at_call 37; refine (C.out _).mono ?_; rintro e w' ⟨rfl, hx⟩)
    | (go_at_call 25; refine (CE.out _).mono ?_; rintro e w2 ⟨rfl, hy⟩))
  go_ret
  exact ⟨rfl, (hx.alloc _).trans hy⟩

end Go.Proofs.Ytemmoabhlfbfcaa
