/-
  Walks over package pte and its reference: parts out of words.
-/
import Derived.Test.YtemmoabhlfbfcaaPteB
import Derived.Laws.ResultCell
namespace Go.Proofs.Ytemmoabhlfbfcaa
set_option linter.unusedVariables false
set_option linter.unusedSimpArgs false
open Go.RowKit
set_option maxHeartbeats 2000000
set_option maxRecDepth 10000

/-- What of the parts the walks see. -/
theorem PTE.dec_cells (v : Int) : (PTE.dec v).cells = #[.bool (bits .and .u64 v 1 != 0), .bool (bits .and .u64 v 2 != 0), .bool (bits .and .u64 v 4 != 0), .bool (bits .and .u64 v 8 != 0), .bool (bits .and .u64 v 16 != 0), .bool (bits .and .u64 v 32 != 0), .bool (bits .and .u64 v 64 != 0), .int .i64 (wrap64 (bits .and .u64 (v / 4096) 8191))] := rfl

theorem Blk.cells8 {w : World} {b n : Nat} {a0 a1 a2 a3 a4 a5 a6 a7 : Value} {t : TypeId} (h : Blk w b [a0, a1, a2, a3, a4, a5, a6, a7] t) (hn : b = n) :
    w.cell? ⟨n, 0, none⟩ = some a0 ∧ w.cell? ⟨n, 1, none⟩ = some a1 ∧ w.cell? ⟨n, 2, none⟩ = some a2 ∧ w.cell? ⟨n, 3, none⟩ = some a3 ∧ w.cell? ⟨n, 4, none⟩ = some a4 ∧ w.cell? ⟨n, 5, none⟩ = some a5 ∧ w.cell? ⟨n, 6, none⟩ = some a6 ∧ w.cell? ⟨n, 7, none⟩ = some a7 := by
  subst hn
  exact ⟨h.cell 0, h.cell 1, h.cell 2, h.cell 3, h.cell 4, h.cell 5, h.cell 6, h.cell 7⟩

theorem Blk.frozen8 {w : World} {b n : Nat} {cs : List Value} {t : TypeId} (h : Blk w b cs t) (hn : b = n) :
    w.frozen? ⟨n, 0, none⟩ = false ∧ w.frozen? ⟨n, 1, none⟩ = false ∧ w.frozen? ⟨n, 2, none⟩ = false ∧ w.frozen? ⟨n, 3, none⟩ = false ∧ w.frozen? ⟨n, 4, none⟩ = false ∧ w.frozen? ⟨n, 5, none⟩ = false ∧ w.frozen? ⟨n, 6, none⟩ = false ∧ w.frozen? ⟨n, 7, none⟩ = false := by
  subst hn
  exact ⟨h.frozen 0, h.frozen 1, h.frozen 2, h.frozen 3, h.frozen 4, h.frozen 5, h.frozen 6, h.frozen 7⟩

theorem dec_c (v : Int) (w : World) : Calls Try.prog 35 #[.int .u64 v] w fun e w' => e = .returned (PTE.decV v) ∧ Ext [] w w' := by
  have C := Lib.hid (fun w => enc_c (PTE.dec v) w)
  rw [PTE.dec_cells] at C
  have hZ := (Blk.new w [.bool false, .bool false, .bool false, .bool false, .bool false, .bool false, .bool false, .int .i64 0] 39).alloc (.cells #[.bool (bits .and .u64 v 1 != 0), .bool (bits .and .u64 v 2 != 0), .bool (bits .and .u64 v 4 != 0), .bool (bits .and .u64 v 8 != 0), .bool (bits .and .u64 v 16 != 0), .bool (bits .and .u64 v 32 != 0), .bool (bits .and .u64 v 64 != 0), .int .i64 (wrap64 (bits .and .u64 (v / 4096) 8191))] 39)
  have hB := Blk.new (w.alloc (.cells #[.bool false, .bool false, .bool false, .bool false, .bool false, .bool false, .bool false, .int .i64 0] 39)) [.bool (bits .and .u64 v 1 != 0), .bool (bits .and .u64 v 2 != 0), .bool (bits .and .u64 v 4 != 0), .bool (bits .and .u64 v 8 != 0), .bool (bits .and .u64 v 16 != 0), .bool (bits .and .u64 v 32 != 0), .bool (bits .and .u64 v 64 != 0), .int .i64 (wrap64 (bits .and .u64 (v / 4096) 8191))] 39
  have hs : (w.alloc (.cells #[.bool false, .bool false, .bool false, .bool false, .bool false, .bool false, .bool false, .int .i64 0] 39)).heap.size = w.heap.size + 1 := by simp
  have Hs := Lib.hid hs
  clear hs
  by_cases hm : (PTE.dec v).may = true
  · have e1 : (PTE.dec v).encV = .tuple #[.int .u64 (PTE.dec v).word, .int .i64 0] := by unfold PTE.encV PTE.encW PTE.err; rw [if_pos hm, if_pos hm]
    rw [e1] at C
    by_cases hw : (PTE.dec v).word = v
    · have e2 : PTE.decV v = .tuple #[.agg (PTE.dec v).cells, .int .i64 0] := by unfold PTE.decV PTE.isW; rw [hm, hw]; simp
      rw [hw] at C
      rw [e2, PTE.dec_cells]
      clear e1 e2 hm hw
      go_enter Try.func35, Try.ntmps35
      go_wp2_with (go_at_call 25; refine (C.out _).mono ?_; rintro e w' ⟨rfl, hx⟩; have hx' := (((Ext.refl [] w).alloc _).alloc _).trans hx; obtain ⟨k0, k1, k2, k3, k4, k5, k6, k7⟩ := (hB.ext hx (by simp)).cells8 Hs.out; obtain ⟨z0, z1, z2, z3, z4, z5, z6, z7⟩ := (hZ.ext hx (by simp)).cells8 rfl; obtain ⟨q0, q1, q2, q3, q4, q5, q6, q7⟩ := (hZ.ext hx (by simp)).frozen8 rfl)
      (try simp only [Exit.inBlock, Exit.then])
      refine bodyPost_ret (v := .tuple #[.agg #[.bool (bits .and .u64 v 1 != 0), .bool (bits .and .u64 v 2 != 0), .bool (bits .and .u64 v 4 != 0), .bool (bits .and .u64 v 8 != 0), .bool (bits .and .u64 v 16 != 0), .bool (bits .and .u64 v 32 != 0), .bool (bits .and .u64 v 64 != 0), .int .i64 (wrap64 (bits .and .u64 (v / 4096) 8191))], .int .i64 0]) ?_ rfl ⟨rfl, ?_⟩
      · rw [results_cell_tmp rfl]
        go_simp
      · iterate 8 refine Ext.setCell ?_ _ _ (.inr (by simp))
        exact hx'
    · have e2 : PTE.decV v = .tuple #[.agg PTE.zero.cells, .int .i64 1] := by unfold PTE.decV PTE.isW; rw [hm]; simp [hw]
      have hw' : ((PTE.dec v).word != v) = true := by simpa using hw
      rw [e2]
      unfold PTE.zero PTE.cells
      simp only []
      generalize (PTE.dec v).word = wd at *
      clear e1 e2 hm hw
      go_enter Try.func35, Try.ntmps35
      go_wp2_with (go_at_call 25; refine (C.out _).mono ?_; rintro e w' ⟨rfl, hx⟩; have hx' := (((Ext.refl [] w).alloc _).alloc _).trans hx; obtain ⟨k0, k1, k2, k3, k4, k5, k6, k7⟩ := (hB.ext hx (by simp)).cells8 Hs.out; obtain ⟨z0, z1, z2, z3, z4, z5, z6, z7⟩ := (hZ.ext hx (by simp)).cells8 rfl; obtain ⟨q0, q1, q2, q3, q4, q5, q6, q7⟩ := (hZ.ext hx (by simp)).frozen8 rfl)
      (try simp only [Exit.inBlock, Exit.then])
      refine bodyPost_ret (v := .tuple #[.agg #[.bool false, .bool false, .bool false, .bool false, .bool false, .bool false, .bool false, .int .i64 0], .int .i64 1]) ?_ rfl ⟨rfl, ?_⟩
      · rw [results_cell_tmp rfl]
        go_simp
      · iterate 8 refine Ext.setCell ?_ _ _ (.inr (by simp))
        exact hx'
  · have e1 : (PTE.dec v).encV = .tuple #[.int .u64 0, .int .i64 1] := by unfold PTE.encV PTE.encW PTE.err; rw [if_neg hm, if_neg hm]
    have e2 : PTE.decV v = .tuple #[.agg PTE.zero.cells, .int .i64 1] := by unfold PTE.decV PTE.isW; simp [hm]
    rw [e1] at C
    rw [e2]
    unfold PTE.zero PTE.cells
    simp only []
    clear e1 e2 hm
    go_enter Try.func35, Try.ntmps35
    go_wp2_with (go_at_call 25; refine (C.out _).mono ?_; rintro e w' ⟨rfl, hx⟩; have hx' := (((Ext.refl [] w).alloc _).alloc _).trans hx; obtain ⟨k0, k1, k2, k3, k4, k5, k6, k7⟩ := (hB.ext hx (by simp)).cells8 Hs.out; obtain ⟨z0, z1, z2, z3, z4, z5, z6, z7⟩ := (hZ.ext hx (by simp)).cells8 rfl; obtain ⟨q0, q1, q2, q3, q4, q5, q6, q7⟩ := (hZ.ext hx (by simp)).frozen8 rfl)
    (try simp only [Exit.inBlock, Exit.then])
    refine bodyPost_ret (v := .tuple #[.agg #[.bool false, .bool false, .bool false, .bool false, .bool false, .bool false, .bool false, .int .i64 0], .int .i64 1]) ?_ rfl ⟨rfl, ?_⟩
    · rw [results_cell_tmp rfl]
      go_simp
    · iterate 8 refine Ext.setCell ?_ _ _ (.inr (by simp))
      exact hx'

theorem rdec_c (v : Int) (h0 : 0 ≤ v) (h1 : v < 18446744073709551616) (w : World) : Calls Try.prog 36 #[.int .u64 v] w fun e w' => e = .returned (PTE.decV v) ∧ Ext [] w w' := by
  have C := Lib.hid (fun w => rmay_c (PTE.dec v) w)
  have CW := Lib.hid (fun w h0 h1 => word_c (PTE.dec v) w h0 h1)
  have Hf := Lib.hid (PTE.dec_fr v h0 h1)
  rw [PTE.dec_cells] at C CW
  have hZ := (Blk.new w [.bool false, .bool false, .bool false, .bool false, .bool false, .bool false, .bool false, .int .i64 0] 39).alloc (.cells #[.bool (bits .and .u64 v 1 != 0), .bool (bits .and .u64 v 2 != 0), .bool (bits .and .u64 v 4 != 0), .bool (bits .and .u64 v 8 != 0), .bool (bits .and .u64 v 16 != 0), .bool (bits .and .u64 v 32 != 0), .bool (bits .and .u64 v 64 != 0), .int .i64 (wrap64 (bits .and .u64 (v / 4096) 8191))] 39)
  have hB := Blk.new (w.alloc (.cells #[.bool false, .bool false, .bool false, .bool false, .bool false, .bool false, .bool false, .int .i64 0] 39)) [.bool (bits .and .u64 v 1 != 0), .bool (bits .and .u64 v 2 != 0), .bool (bits .and .u64 v 4 != 0), .bool (bits .and .u64 v 8 != 0), .bool (bits .and .u64 v 16 != 0), .bool (bits .and .u64 v 32 != 0), .bool (bits .and .u64 v 64 != 0), .int .i64 (wrap64 (bits .and .u64 (v / 4096) 8191))] 39
  have hs : (w.alloc (.cells #[.bool false, .bool false, .bool false, .bool false, .bool false, .bool false, .bool false, .int .i64 0] 39)).heap.size = w.heap.size + 1 := by simp
  have Hs := Lib.hid hs
  clear hs
  by_cases hw : (PTE.dec v).word = v
  · have hw' : ((PTE.dec v).word != v) = false := by simp [hw]
    by_cases hm : (PTE.dec v).may = true
    · have e2 : PTE.decV v = .tuple #[.agg (PTE.dec v).cells, .int .i64 0] := by unfold PTE.decV PTE.isW; rw [hm, hw]; simp
      rw [hm] at C
      rw [hw] at CW
      rw [e2, PTE.dec_cells]
      clear e2 hm hw hw'
      go_enter Try.func36, Try.ntmps36
      go_wp2_with (first | (go_at_call 53; refine (CW.out _ Hf.out.1 Hf.out.2).mono ?_; rintro e w' ⟨rfl, hx⟩; have hx' := (((Ext.refl [] w).alloc _).alloc _).trans hx; obtain ⟨k0, k1, k2, k3, k4, k5, k6, k7⟩ := (hB.ext hx (by simp)).cells8 Hs.out; have hZ' := hZ.ext hx (by simp); have hB' := hB.ext hx (by simp); obtain ⟨z0, z1, z2, z3, z4, z5, z6, z7⟩ := hZ'.cells8 rfl; obtain ⟨q0, q1, q2, q3, q4, q5, q6, q7⟩ := hZ'.frozen8 rfl) | (go_at_call 52; refine (C.out _).mono ?_; rintro e w3 ⟨rfl, hy⟩; have hx' := hx'.trans hy; obtain ⟨k0, k1, k2, k3, k4, k5, k6, k7⟩ := (hB'.ext hy (by simp)).cells8 Hs.out; obtain ⟨z0, z1, z2, z3, z4, z5, z6, z7⟩ := (hZ'.ext hy (by simp)).cells8 rfl; obtain ⟨q0, q1, q2, q3, q4, q5, q6, q7⟩ := (hZ'.ext hy (by simp)).frozen8 rfl))
      (try simp only [Exit.inBlock, Exit.then])
      refine bodyPost_ret (v := .tuple #[.agg #[.bool (bits .and .u64 v 1 != 0), .bool (bits .and .u64 v 2 != 0), .bool (bits .and .u64 v 4 != 0), .bool (bits .and .u64 v 8 != 0), .bool (bits .and .u64 v 16 != 0), .bool (bits .and .u64 v 32 != 0), .bool (bits .and .u64 v 64 != 0), .int .i64 (wrap64 (bits .and .u64 (v / 4096) 8191))], .int .i64 0]) ?_ rfl ⟨rfl, ?_⟩
      · rw [results_cell_tmp rfl]
        go_simp
      · iterate 8 refine Ext.setCell ?_ _ _ (.inr (by simp))
        exact hx'
    · have e2 : PTE.decV v = .tuple #[.agg PTE.zero.cells, .int .i64 1] := by unfold PTE.decV PTE.isW; simp [hm]
      have hm' : (PTE.dec v).may = false := by simpa using hm
      rw [hm'] at C
      rw [hw] at CW
      rw [e2]
      unfold PTE.zero PTE.cells
      simp only []
      clear e2 hm hw hw' hm'
      go_enter Try.func36, Try.ntmps36
      go_wp2_with (first | (go_at_call 53; refine (CW.out _ Hf.out.1 Hf.out.2).mono ?_; rintro e w' ⟨rfl, hx⟩; have hx' := (((Ext.refl [] w).alloc _).alloc _).trans hx; obtain ⟨k0, k1, k2, k3, k4, k5, k6, k7⟩ := (hB.ext hx (by simp)).cells8 Hs.out; have hZ' := hZ.ext hx (by simp); have hB' := hB.ext hx (by simp); obtain ⟨z0, z1, z2, z3, z4, z5, z6, z7⟩ := hZ'.cells8 rfl; obtain ⟨q0, q1, q2, q3, q4, q5, q6, q7⟩ := hZ'.frozen8 rfl) | (go_at_call 52; refine (C.out _).mono ?_; rintro e w3 ⟨rfl, hy⟩; have hx' := hx'.trans hy; obtain ⟨k0, k1, k2, k3, k4, k5, k6, k7⟩ := (hB'.ext hy (by simp)).cells8 Hs.out; obtain ⟨z0, z1, z2, z3, z4, z5, z6, z7⟩ := (hZ'.ext hy (by simp)).cells8 rfl; obtain ⟨q0, q1, q2, q3, q4, q5, q6, q7⟩ := (hZ'.ext hy (by simp)).frozen8 rfl))
      (try simp only [Exit.inBlock, Exit.then])
      refine bodyPost_ret (v := .tuple #[.agg #[.bool false, .bool false, .bool false, .bool false, .bool false, .bool false, .bool false, .int .i64 0], .int .i64 1]) ?_ rfl ⟨rfl, ?_⟩
      · rw [results_cell_tmp rfl]
        go_simp
      · iterate 8 refine Ext.setCell ?_ _ _ (.inr (by simp))
        exact hx'
  · have hw' : ((PTE.dec v).word != v) = true := by simpa using hw
    have e2 : PTE.decV v = .tuple #[.agg PTE.zero.cells, .int .i64 1] := by unfold PTE.decV PTE.isW; simp [hw]
    rw [e2]
    unfold PTE.zero PTE.cells
    simp only []
    generalize (PTE.dec v).word = wd at *
    clear e2 hw C
    go_enter Try.func36, Try.ntmps36
    go_wp2_with (first | (go_at_call 53; refine (CW.out _ Hf.out.1 Hf.out.2).mono ?_; rintro e w' ⟨rfl, hx⟩; have hx' := (((Ext.refl [] w).alloc _).alloc _).trans hx; obtain ⟨k0, k1, k2, k3, k4, k5, k6, k7⟩ := (hB.ext hx (by simp)).cells8 Hs.out; have hZ' := hZ.ext hx (by simp); have hB' := hB.ext hx (by simp); obtain ⟨z0, z1, z2, z3, z4, z5, z6, z7⟩ := hZ'.cells8 rfl; obtain ⟨q0, q1, q2, q3, q4, q5, q6, q7⟩ := hZ'.frozen8 rfl) | (go_at_call 52; refine (C.out _).mono ?_; rintro e w3 ⟨rfl, hy⟩; have hx' := hx'.trans hy; obtain ⟨k0, k1, k2, k3, k4, k5, k6, k7⟩ := (hB'.ext hy (by simp)).cells8 Hs.out; obtain ⟨z0, z1, z2, z3, z4, z5, z6, z7⟩ := (hZ'.ext hy (by simp)).cells8 rfl; obtain ⟨q0, q1, q2, q3, q4, q5, q6, q7⟩ := (hZ'.ext hy (by simp)).frozen8 rfl))
    (try simp only [Exit.inBlock, Exit.then])
    refine bodyPost_ret (v := .tuple #[.agg #[.bool false, .bool false, .bool false, .bool false, .bool false, .bool false, .bool false, .int .i64 0], .int .i64 1]) ?_ rfl ⟨rfl, ?_⟩
    · rw [results_cell_tmp rfl]
      go_simp
    · iterate 8 refine Ext.setCell ?_ _ _ (.inr (by simp))
      exact hx'

end Go.Proofs.Ytemmoabhlfbfcaa
