/-
  The law PteBack, walked.
-/
import Derived.Test.YtemmoabhlfbfcaaPteG
namespace Go.Proofs.Ytemmoabhlfbfcaa
set_option linter.unusedVariables false
set_option linter.unusedSimpArgs false
open Go.RowKit
set_option maxHeartbeats 4000000
set_option maxRecDepth 10000

theorem back_D0 (p : PTE) (v : Int) (w : World) (hp : p.may = true) (hd : PTE.decV v = .tuple #[.agg PTE.zero.cells, .int .i64 1]) :
    Calls Try.prog 12 #[.agg p.cells, .agg p.cells, .int .u64 v] w fun e w' => e = .returned (.bool true) ∧ Ext [] w w' := by
  have CW := Lib.hid (fun w => awake05_c w)
  have CP := Lib.hid (fun w => enc_c p w)
  rw [PTE.encV_may hp] at CP
  have CA := Lib.hid (fun w => dec_c p.word w)
  rw [PTE.decV_word hp] at CA
  have CL := Lib.hid (fun w => perm_c p w)
  have CLR := Lib.hid (fun w => rperm_c p w)
  generalize p.lets = lt at *
  generalize p.word = wp at *
  clear hp
  have CV := Lib.hid (fun w => dec_c v w)
  rw [hd] at CV
  clear hd
  unfold PTE.zero at CV
  obtain ⟨pr, wr, hu, ac, di, ma, re, fr⟩ := p
  unfold PTE.cells at *
  simp only [] at *
  have hP := (Blk.new w [.bool pr, .bool wr, .bool hu, .bool ac, .bool di, .bool ma, .bool re, .int .i64 fr] 39).alloc (.cells #[.bool pr, .bool wr, .bool hu, .bool ac, .bool di, .bool ma, .bool re, .int .i64 fr] 39)
  have hQ := Blk.new (w.alloc (.cells #[.bool pr, .bool wr, .bool hu, .bool ac, .bool di, .bool ma, .bool re, .int .i64 fr] 39)) [.bool pr, .bool wr, .bool hu, .bool ac, .bool di, .bool ma, .bool re, .int .i64 fr] 39
  have hc := ((Ext.refl [] w).alloc (.cells #[.bool pr, .bool wr, .bool hu, .bool ac, .bool di, .bool ma, .bool re, .int .i64 fr] 39)).alloc (.cells #[.bool pr, .bool wr, .bool hu, .bool ac, .bool di, .bool ma, .bool re, .int .i64 fr] 39)
  have hs : (w.alloc (.cells #[.bool pr, .bool wr, .bool hu, .bool ac, .bool di, .bool ma, .bool re, .int .i64 fr] 39)).heap.size = w.heap.size + 1 := by simp
  have Hs := Lib.hid hs
  clear hs
  obtain ⟨k0, k1, k2, k3, k4, k5, k6, k7⟩ := hP.cells8 rfl
  obtain ⟨l0, l1, l2, l3, l4, l5, l6, l7⟩ := hQ.cells8 Hs.out
  go_enter Try.func12, Try.ntmps12
  go_wp2_with (first
    | (go_at_call 25; with_reducible refine (CP.out _).mono ?_; rintro e w2 ⟨rfl, hx⟩; replace hc := hc.trans hx; replace hP := hP.ext hx (by simp); replace hQ := hQ.ext hx (by simp); clear hx; (try clear k0 k1 k2 k3 k4 k5 k6 k7 l0 l1 l2 l3 l4 l5 l6 l7); obtain ⟨k0, k1, k2, k3, k4, k5, k6, k7⟩ := hP.cells8 rfl; obtain ⟨l0, l1, l2, l3, l4, l5, l6, l7⟩ := hQ.cells8 Hs.out)
    | (go_at_call 35; with_reducible refine (CA.out _).mono ?_; rintro e w2 ⟨rfl, hx⟩; replace hc := hc.trans hx; replace hP := hP.ext hx (by simp); replace hQ := hQ.ext hx (by simp); replace hc := (hc.alloc (.cells #[.bool pr, .bool wr, .bool hu, .bool ac, .bool di, .bool ma, .bool re, .int .i64 fr] 39)).drew; replace hP := (hP.alloc (.cells #[.bool pr, .bool wr, .bool hu, .bool ac, .bool di, .bool ma, .bool re, .int .i64 fr] 39)).ext (Ext.drew (Ext.refl [] _)) (by simp); replace hQ := (hQ.alloc (.cells #[.bool pr, .bool wr, .bool hu, .bool ac, .bool di, .bool ma, .bool re, .int .i64 fr] 39)).ext (Ext.drew (Ext.refl [] _)) (by simp); clear hx; (try clear k0 k1 k2 k3 k4 k5 k6 k7 l0 l1 l2 l3 l4 l5 l6 l7); obtain ⟨k0, k1, k2, k3, k4, k5, k6, k7⟩ := hP.cells8 rfl; obtain ⟨l0, l1, l2, l3, l4, l5, l6, l7⟩ := hQ.cells8 Hs.out))
  go_region_with (first
    | (go_at_call 39; with_reducible refine (CL.out _).mono ?_; rintro e w2 ⟨rfl, hx⟩; replace hc := hc.trans hx; replace hP := hP.ext hx (by simp); replace hQ := hQ.ext hx (by simp); clear hx; (try clear k0 k1 k2 k3 k4 k5 k6 k7 l0 l1 l2 l3 l4 l5 l6 l7); obtain ⟨k0, k1, k2, k3, k4, k5, k6, k7⟩ := hP.cells8 rfl; obtain ⟨l0, l1, l2, l3, l4, l5, l6, l7⟩ := hQ.cells8 Hs.out)
    | (go_at_call 45; with_reducible refine (CLR.out _).mono ?_; rintro e w2 ⟨rfl, hx⟩; replace hc := hc.trans hx; replace hP := hP.ext hx (by simp); replace hQ := hQ.ext hx (by simp); clear hx; (try clear k0 k1 k2 k3 k4 k5 k6 k7 l0 l1 l2 l3 l4 l5 l6 l7); obtain ⟨k0, k1, k2, k3, k4, k5, k6, k7⟩ := hP.cells8 rfl; obtain ⟨l0, l1, l2, l3, l4, l5, l6, l7⟩ := hQ.cells8 Hs.out))
  all_goals go_wp2_with (first
    | (go_at_call 35; with_reducible refine (CV.out _).mono ?_; rintro e w2 ⟨rfl, hx⟩; replace hc := hc.trans hx; replace hP := hP.ext hx (by simp); replace hQ := hQ.ext hx (by simp); replace hc := hc.alloc (.cells #[.bool false, .bool false, .bool false, .bool false, .bool false, .bool false, .bool false, .int .i64 0] 39); replace hP := hP.alloc (.cells #[.bool false, .bool false, .bool false, .bool false, .bool false, .bool false, .bool false, .int .i64 0] 39); replace hQ := hQ.alloc (.cells #[.bool false, .bool false, .bool false, .bool false, .bool false, .bool false, .bool false, .int .i64 0] 39); clear hx; (try clear k0 k1 k2 k3 k4 k5 k6 k7 l0 l1 l2 l3 l4 l5 l6 l7); obtain ⟨k0, k1, k2, k3, k4, k5, k6, k7⟩ := hP.cells8 rfl; obtain ⟨l0, l1, l2, l3, l4, l5, l6, l7⟩ := hQ.cells8 Hs.out)
    | (go_at_call 29; with_reducible refine (CW.out _).mono ?_; rintro e w2 ⟨rfl, hx⟩; replace hc := hc.trans hx; replace hP := hP.ext hx (by simp); replace hQ := hQ.ext hx (by simp); clear hx; (try clear k0 k1 k2 k3 k4 k5 k6 k7 l0 l1 l2 l3 l4 l5 l6 l7); obtain ⟨k0, k1, k2, k3, k4, k5, k6, k7⟩ := hP.cells8 rfl; obtain ⟨l0, l1, l2, l3, l4, l5, l6, l7⟩ := hQ.cells8 Hs.out))
  all_goals
    go_ret
    exact ⟨rfl, hc⟩

theorem back_D1 (p : PTE) (v : Int) (w : World) (hp : p.may = true) (x : PTE) (hd : PTE.decV v = .tuple #[.agg x.cells, .int .i64 0]) (he : x.encV = .tuple #[.int .u64 v, .int .i64 0]) :
    Calls Try.prog 12 #[.agg p.cells, .agg p.cells, .int .u64 v] w fun e w' => e = .returned (.bool true) ∧ Ext [] w w' := by
  have CW := Lib.hid (fun w => awake05_c w)
  have CP := Lib.hid (fun w => enc_c p w)
  rw [PTE.encV_may hp] at CP
  have CA := Lib.hid (fun w => dec_c p.word w)
  rw [PTE.decV_word hp] at CA
  have CL := Lib.hid (fun w => perm_c p w)
  have CLR := Lib.hid (fun w => rperm_c p w)
  generalize p.lets = lt at *
  generalize p.word = wp at *
  clear hp
  have CV := Lib.hid (fun w => dec_c v w)
  rw [hd] at CV
  have CX := Lib.hid (fun w => enc_c x w)
  rw [he] at CX
  clear hd he
  obtain ⟨pr3, wr3, hu3, ac3, di3, ma3, re3, fr3⟩ := x
  obtain ⟨pr, wr, hu, ac, di, ma, re, fr⟩ := p
  unfold PTE.cells at *
  simp only [] at *
  have hP := (Blk.new w [.bool pr, .bool wr, .bool hu, .bool ac, .bool di, .bool ma, .bool re, .int .i64 fr] 39).alloc (.cells #[.bool pr, .bool wr, .bool hu, .bool ac, .bool di, .bool ma, .bool re, .int .i64 fr] 39)
  have hQ := Blk.new (w.alloc (.cells #[.bool pr, .bool wr, .bool hu, .bool ac, .bool di, .bool ma, .bool re, .int .i64 fr] 39)) [.bool pr, .bool wr, .bool hu, .bool ac, .bool di, .bool ma, .bool re, .int .i64 fr] 39
  have hc := ((Ext.refl [] w).alloc (.cells #[.bool pr, .bool wr, .bool hu, .bool ac, .bool di, .bool ma, .bool re, .int .i64 fr] 39)).alloc (.cells #[.bool pr, .bool wr, .bool hu, .bool ac, .bool di, .bool ma, .bool re, .int .i64 fr] 39)
  have hs : (w.alloc (.cells #[.bool pr, .bool wr, .bool hu, .bool ac, .bool di, .bool ma, .bool re, .int .i64 fr] 39)).heap.size = w.heap.size + 1 := by simp
  have Hs := Lib.hid hs
  clear hs
  obtain ⟨k0, k1, k2, k3, k4, k5, k6, k7⟩ := hP.cells8 rfl
  obtain ⟨l0, l1, l2, l3, l4, l5, l6, l7⟩ := hQ.cells8 Hs.out
  go_enter Try.func12, Try.ntmps12
  go_wp2_with (first
    | (go_at_call 25; with_reducible refine (CP.out _).mono ?_; rintro e w2 ⟨rfl, hx⟩; replace hc := hc.trans hx; replace hP := hP.ext hx (by simp); replace hQ := hQ.ext hx (by simp); clear hx; (try clear k0 k1 k2 k3 k4 k5 k6 k7 l0 l1 l2 l3 l4 l5 l6 l7); obtain ⟨k0, k1, k2, k3, k4, k5, k6, k7⟩ := hP.cells8 rfl; obtain ⟨l0, l1, l2, l3, l4, l5, l6, l7⟩ := hQ.cells8 Hs.out)
    | (go_at_call 35; with_reducible refine (CA.out _).mono ?_; rintro e w2 ⟨rfl, hx⟩; replace hc := hc.trans hx; replace hP := hP.ext hx (by simp); replace hQ := hQ.ext hx (by simp); replace hc := (hc.alloc (.cells #[.bool pr, .bool wr, .bool hu, .bool ac, .bool di, .bool ma, .bool re, .int .i64 fr] 39)).drew; replace hP := (hP.alloc (.cells #[.bool pr, .bool wr, .bool hu, .bool ac, .bool di, .bool ma, .bool re, .int .i64 fr] 39)).ext (Ext.drew (Ext.refl [] _)) (by simp); replace hQ := (hQ.alloc (.cells #[.bool pr, .bool wr, .bool hu, .bool ac, .bool di, .bool ma, .bool re, .int .i64 fr] 39)).ext (Ext.drew (Ext.refl [] _)) (by simp); clear hx; (try clear k0 k1 k2 k3 k4 k5 k6 k7 l0 l1 l2 l3 l4 l5 l6 l7); obtain ⟨k0, k1, k2, k3, k4, k5, k6, k7⟩ := hP.cells8 rfl; obtain ⟨l0, l1, l2, l3, l4, l5, l6, l7⟩ := hQ.cells8 Hs.out))
  go_region_with (first
    | (go_at_call 39; with_reducible refine (CL.out _).mono ?_; rintro e w2 ⟨rfl, hx⟩; replace hc := hc.trans hx; replace hP := hP.ext hx (by simp); replace hQ := hQ.ext hx (by simp); clear hx; (try clear k0 k1 k2 k3 k4 k5 k6 k7 l0 l1 l2 l3 l4 l5 l6 l7); obtain ⟨k0, k1, k2, k3, k4, k5, k6, k7⟩ := hP.cells8 rfl; obtain ⟨l0, l1, l2, l3, l4, l5, l6, l7⟩ := hQ.cells8 Hs.out)
    | (go_at_call 45; with_reducible refine (CLR.out _).mono ?_; rintro e w2 ⟨rfl, hx⟩; replace hc := hc.trans hx; replace hP := hP.ext hx (by simp); replace hQ := hQ.ext hx (by simp); clear hx; (try clear k0 k1 k2 k3 k4 k5 k6 k7 l0 l1 l2 l3 l4 l5 l6 l7); obtain ⟨k0, k1, k2, k3, k4, k5, k6, k7⟩ := hP.cells8 rfl; obtain ⟨l0, l1, l2, l3, l4, l5, l6, l7⟩ := hQ.cells8 Hs.out))
  all_goals go_wp2_with (first
    | (go_at_call 35; with_reducible refine (CV.out _).mono ?_; rintro e w2 ⟨rfl, hx⟩; replace hc := hc.trans hx; replace hP := hP.ext hx (by simp); replace hQ := hQ.ext hx (by simp); replace hc := hc.alloc (.cells #[.bool pr3, .bool wr3, .bool hu3, .bool ac3, .bool di3, .bool ma3, .bool re3, .int .i64 fr3] 39); replace hP := hP.alloc (.cells #[.bool pr3, .bool wr3, .bool hu3, .bool ac3, .bool di3, .bool ma3, .bool re3, .int .i64 fr3] 39); replace hQ := hQ.alloc (.cells #[.bool pr3, .bool wr3, .bool hu3, .bool ac3, .bool di3, .bool ma3, .bool re3, .int .i64 fr3] 39); clear hx; (try clear k0 k1 k2 k3 k4 k5 k6 k7 l0 l1 l2 l3 l4 l5 l6 l7); obtain ⟨k0, k1, k2, k3, k4, k5, k6, k7⟩ := hP.cells8 rfl; obtain ⟨l0, l1, l2, l3, l4, l5, l6, l7⟩ := hQ.cells8 Hs.out)
    | (go_at_call 25; with_reducible refine (CX.out _).mono ?_; rintro e w2 ⟨rfl, hx⟩; replace hc := hc.trans hx; replace hP := hP.ext hx (by simp); replace hQ := hQ.ext hx (by simp); clear hx; (try clear k0 k1 k2 k3 k4 k5 k6 k7 l0 l1 l2 l3 l4 l5 l6 l7); obtain ⟨k0, k1, k2, k3, k4, k5, k6, k7⟩ := hP.cells8 rfl; obtain ⟨l0, l1, l2, l3, l4, l5, l6, l7⟩ := hQ.cells8 Hs.out)
    | (go_at_call 29; with_reducible refine (CW.out _).mono ?_; rintro e w2 ⟨rfl, hx⟩; replace hc := hc.trans hx; replace hP := hP.ext hx (by simp); replace hQ := hQ.ext hx (by simp); clear hx; (try clear k0 k1 k2 k3 k4 k5 k6 k7 l0 l1 l2 l3 l4 l5 l6 l7); obtain ⟨k0, k1, k2, k3, k4, k5, k6, k7⟩ := hP.cells8 rfl; obtain ⟨l0, l1, l2, l3, l4, l5, l6, l7⟩ := hQ.cells8 Hs.out))
  all_goals
    go_ret
    exact ⟨rfl, hc⟩

end Go.Proofs.Ytemmoabhlfbfcaa
