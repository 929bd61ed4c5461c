/-
  The law PteBack, walked.
-/
import Derived.Test.YtemmoabhlfbfcaaPteG
namespace Go.Proofs.Ytemmoabhlfbfcaa
set_option linter.unusedVariables false
set_option linter.unusedSimpArgs false
open Go.RowKit
set_option maxHeartbeats 4000000
set_option maxRecDepth 10000

theorem back_C0 (p q : PTE) (v : Int) (w : World) (hp : p.may = true) (hq : q.may = true) (hne : (p.word == q.word) = false) (hd : PTE.decV v = .tuple #[.agg PTE.zero.cells, .int .i64 1]) :
    Calls Try.prog 12 #[.agg p.cells, .agg q.cells, .int .u64 v] w fun e w' => e = .returned (.bool true) ∧ Ext [] w w' := by
  have CW := Lib.hid (fun w => awake05_c w)
  have CP := Lib.hid (fun w => enc_c p w)
  have CQ := Lib.hid (fun w => enc_c q w)
  rw [PTE.encV_may hp] at CP
  have CA := Lib.hid (fun w => dec_c p.word w)
  rw [PTE.decV_word hp] at CA
  have CL := Lib.hid (fun w => perm_c p w)
  have CLR := Lib.hid (fun w => rperm_c p w)
  generalize p.lets = lt at *
  rw [PTE.encV_may hq] at CQ
  generalize p.word = wp at *
  generalize q.word = wq at *
  clear hp hq
  have CV := Lib.hid (fun w => dec_c v w)
  rw [hd] at CV
  clear hd
  unfold PTE.zero at CV
  obtain ⟨pr, wr, hu, ac, di, ma, re, fr⟩ := p
  obtain ⟨pr2, wr2, hu2, ac2, di2, ma2, re2, fr2⟩ := q
  unfold PTE.cells at *
  simp only [] at *
  have hP := (Blk.new w [.bool pr, .bool wr, .bool hu, .bool ac, .bool di, .bool ma, .bool re, .int .i64 fr] 39).alloc (.cells #[.bool pr2, .bool wr2, .bool hu2, .bool ac2, .bool di2, .bool ma2, .bool re2, .int .i64 fr2] 39)
  have hQ := Blk.new (w.alloc (.cells #[.bool pr, .bool wr, .bool hu, .bool ac, .bool di, .bool ma, .bool re, .int .i64 fr] 39)) [.bool pr2, .bool wr2, .bool hu2, .bool ac2, .bool di2, .bool ma2, .bool re2, .int .i64 fr2] 39
  have hc := ((Ext.refl [] w).alloc (.cells #[.bool pr, .bool wr, .bool hu, .bool ac, .bool di, .bool ma, .bool re, .int .i64 fr] 39)).alloc (.cells #[.bool pr2, .bool wr2, .bool hu2, .bool ac2, .bool di2, .bool ma2, .bool re2, .int .i64 fr2] 39)
  have hs : (w.alloc (.cells #[.bool pr, .bool wr, .bool hu, .bool ac, .bool di, .bool ma, .bool re, .int .i64 fr] 39)).heap.size = w.heap.size + 1 := by simp
  have Hs := Lib.hid hs
  clear hs
  obtain ⟨k0, k1, k2, k3, k4, k5, k6, k7⟩ := hP.cells8 rfl
  obtain ⟨l0, l1, l2, l3, l4, l5, l6, l7⟩ := hQ.cells8 Hs.out
  go_enter Try.func12, Try.ntmps12
  go_wp2_with (first
    | (go_at_call 25; with_reducible refine (CP.out _).mono ?_; rintro e w2 ⟨rfl, hx⟩; replace hc := hc.trans hx; replace hP := hP.ext hx (by simp); replace hQ := hQ.ext hx (by simp); clear hx; (try clear k0 k1 k2 k3 k4 k5 k6 k7 l0 l1 l2 l3 l4 l5 l6 l7); obtain ⟨k0, k1, k2, k3, k4, k5, k6, k7⟩ := hP.cells8 rfl; obtain ⟨l0, l1, l2, l3, l4, l5, l6, l7⟩ := hQ.cells8 Hs.out)
    | (go_at_call 25; with_reducible refine (CQ.out _).mono ?_; rintro e w2 ⟨rfl, hx⟩; replace hc := hc.trans hx; replace hP := hP.ext hx (by simp); replace hQ := hQ.ext hx (by simp); clear hx; (try clear k0 k1 k2 k3 k4 k5 k6 k7 l0 l1 l2 l3 l4 l5 l6 l7); obtain ⟨k0, k1, k2, k3, k4, k5, k6, k7⟩ := hP.cells8 rfl; obtain ⟨l0, l1, l2, l3, l4, l5, l6, l7⟩ := hQ.cells8 Hs.out)
    | (go_at_call 35; with_reducible refine (CA.out _).mono ?_; rintro e w2 ⟨rfl, hx⟩; replace hc := hc.trans hx; replace hP := hP.ext hx (by simp); replace hQ := hQ.ext hx (by simp); replace hc := (hc.alloc (.cells #[.bool pr, .bool wr, .bool hu, .bool ac, .bool di, .bool ma, .bool re, .int .i64 fr] 39)).drew; replace hP := (hP.alloc (.cells #[.bool pr, .bool wr, .bool hu, .bool ac, .bool di, .bool ma, .bool re, .int .i64 fr] 39)).ext (Ext.drew (Ext.refl [] _)) (by simp); replace hQ := (hQ.alloc (.cells #[.bool pr, .bool wr, .bool hu, .bool ac, .bool di, .bool ma, .bool re, .int .i64 fr] 39)).ext (Ext.drew (Ext.refl [] _)) (by simp); clear hx; (try clear k0 k1 k2 k3 k4 k5 k6 k7 l0 l1 l2 l3 l4 l5 l6 l7); obtain ⟨k0, k1, k2, k3, k4, k5, k6, k7⟩ := hP.cells8 rfl; obtain ⟨l0, l1, l2, l3, l4, l5, l6, l7⟩ := hQ.cells8 Hs.out))
  go_region_with (first
    | (go_at_call 39; with_reducible refine (CL.out _).mono ?_; rintro e w2 ⟨rfl, hx⟩; replace hc := hc.trans hx; replace hP := hP.ext hx (by simp); replace hQ := hQ.ext hx (by simp); clear hx; (try clear k0 k1 k2 k3 k4 k5 k6 k7 l0 l1 l2 l3 l4 l5 l6 l7); obtain ⟨k0, k1, k2, k3, k4, k5, k6, k7⟩ := hP.cells8 rfl; obtain ⟨l0, l1, l2, l3, l4, l5, l6, l7⟩ := hQ.cells8 Hs.out)
    | (go_at_call 45; with_reducible refine (CLR.out _).mono ?_; rintro e w2 ⟨rfl, hx⟩; replace hc := hc.trans hx; replace hP := hP.ext hx (by simp); replace hQ := hQ.ext hx (by simp); clear hx; (try clear k0 k1 k2 k3 k4 k5 k6 k7 l0 l1 l2 l3 l4 l5 l6 l7); obtain ⟨k0, k1, k2, k3, k4, k5, k6, k7⟩ := hP.cells8 rfl; obtain ⟨l0, l1, l2, l3, l4, l5, l6, l7⟩ := hQ.cells8 Hs.out))
  all_goals go_wp2_with (first
    | (go_at_call 35; with_reducible refine (CV.out _).mono ?_; rintro e w2 ⟨rfl, hx⟩; replace hc := hc.trans hx; replace hP := hP.ext hx (by simp); replace hQ := hQ.ext hx (by simp); replace hc := hc.alloc (.cells #[.bool false, .bool false, .bool false, .bool false, .bool false, .bool false, .bool false, .int .i64 0] 39); replace hP := hP.alloc (.cells #[.bool false, .bool false, .bool false, .bool false, .bool false, .bool false, .bool false, .int .i64 0] 39); replace hQ := hQ.alloc (.cells #[.bool false, .bool false, .bool false, .bool false, .bool false, .bool false, .bool false, .int .i64 0] 39); clear hx; (try clear k0 k1 k2 k3 k4 k5 k6 k7 l0 l1 l2 l3 l4 l5 l6 l7); obtain ⟨k0, k1, k2, k3, k4, k5, k6, k7⟩ := hP.cells8 rfl; obtain ⟨l0, l1, l2, l3, l4, l5, l6, l7⟩ := hQ.cells8 Hs.out)
    | (go_at_call 29; with_reducible refine (CW.out _).mono ?_; rintro e w2 ⟨rfl, hx⟩; replace hc := hc.trans hx; replace hP := hP.ext hx (by simp); replace hQ := hQ.ext hx (by simp); clear hx; (try clear k0 k1 k2 k3 k4 k5 k6 k7 l0 l1 l2 l3 l4 l5 l6 l7); obtain ⟨k0, k1, k2, k3, k4, k5, k6, k7⟩ := hP.cells8 rfl; obtain ⟨l0, l1, l2, l3, l4, l5, l6, l7⟩ := hQ.cells8 Hs.out))
  all_goals
    go_ret
    exact ⟨rfl, hc⟩

theorem back_C1 (p q : PTE) (v : Int) (w : World) (hp : p.may = true) (hq : q.may = true) (hne : (p.word == q.word) = false) (x : PTE) (hd : PTE.decV v = .tuple #[.agg x.cells, .int .i64 0]) (he : x.encV = .tuple #[.int .u64 v, .int .i64 0]) :
    Calls Try.prog 12 #[.agg p.cells, .agg q.cells, .int .u64 v] w fun e w' => e = .returned (.bool true) ∧ Ext [] w w' := by
  have CW := Lib.hid (fun w => awake05_c w)
  have CP := Lib.hid (fun w => enc_c p w)
  have CQ := Lib.hid (fun w => enc_c q w)
  rw [PTE.encV_may hp] at CP
  have CA := Lib.hid (fun w => dec_c p.word w)
  rw [PTE.decV_word hp] at CA
  have CL := Lib.hid (fun w => perm_c p w)
  have CLR := Lib.hid (fun w => rperm_c p w)
  generalize p.lets = lt at *
  rw [PTE.encV_may hq] at CQ
  generalize p.word = wp at *
  generalize q.word = wq at *
  clear hp hq
  have CV := Lib.hid (fun w => dec_c v w)
  rw [hd] at CV
  have CX := Lib.hid (fun w => enc_c x w)
  rw [he] at CX
  clear hd he
  obtain ⟨pr3, wr3, hu3, ac3, di3, ma3, re3, fr3⟩ := x
  obtain ⟨pr, wr, hu, ac, di, ma, re, fr⟩ := p
  obtain ⟨pr2, wr2, hu2, ac2, di2, ma2, re2, fr2⟩ := q
  unfold PTE.cells at *
  simp only [] at *
  have hP := (Blk.new w [.bool pr, .bool wr, .bool hu, .bool ac, .bool di, .bool ma, .bool re, .int .i64 fr] 39).alloc (.cells #[.bool pr2, .bool wr2, .bool hu2, .bool ac2, .bool di2, .bool ma2, .bool re2, .int .i64 fr2] 39)
  have hQ := Blk.new (w.alloc (.cells #[.bool pr, .bool wr, .bool hu, .bool ac, .bool di, .bool ma, .bool re, .int .i64 fr] 39)) [.bool pr2, .bool wr2, .bool hu2, .bool ac2, .bool di2, .bool ma2, .bool re2, .int .i64 fr2] 39
  have hc := ((Ext.refl [] w).alloc (.cells #[.bool pr, .bool wr, .bool hu, .bool ac, .bool di, .bool ma, .bool re, .int .i64 fr] 39)).alloc (.cells #[.bool pr2, .bool wr2, .bool hu2, .bool ac2, .bool di2, .bool ma2, .bool re2, .int .i64 fr2] 39)
  have hs : (w.alloc (.cells #[.bool pr, .bool wr, .bool hu, .bool ac, .bool di, .bool ma, .bool re, .int .i64 fr] 39)).heap.size = w.heap.size + 1 := by simp
  have Hs := Lib.hid hs
  clear hs
  obtain ⟨k0, k1, k2, k3, k4, k5, k6, k7⟩ := hP.cells8 rfl
  obtain ⟨l0, l1, l2, l3, l4, l5, l6, l7⟩ := hQ.cells8 Hs.out
  go_enter Try.func12, Try.ntmps12
  go_wp2_with (first
    | (go_at_call 25; with_reducible refine (CP.out _).mono ?_; rintro e w2 ⟨rfl, hx⟩; replace hc := hc.trans hx; replace hP := hP.ext hx (by simp); replace hQ := hQ.ext hx (by simp); clear hx; (try clear k0 k1 k2 k3 k4 k5 k6 k7 l0 l1 l2 l3 l4 l5 l6 l7); obtain ⟨k0, k1, k2, k3, k4, k5, k6, k7⟩ := hP.cells8 rfl; obtain ⟨l0, l1, l2, l3, l4, l5, l6, l7⟩ := hQ.cells8 Hs.out)
    | (go_at_call 25; with_reducible refine (CQ.out _).mono ?_; rintro e w2 ⟨rfl, hx⟩; replace hc := hc.trans hx; replace hP := hP.ext hx (by simp); replace hQ := hQ.ext hx (by simp); clear hx; (try clear k0 k1 k2 k3 k4 k5 k6 k7 l0 l1 l2 l3 l4 l5 l6 l7); obtain ⟨k0, k1, k2, k3, k4, k5, k6, k7⟩ := hP.cells8 rfl; obtain ⟨l0, l1, l2, l3, l4, l5, l6, l7⟩ := hQ.cells8 Hs.out)
    | (go_at_call 35; with_reducible refine (CA.out _).mono ?_; rintro e w2 ⟨rfl, hx⟩; replace hc := hc.trans hx; replace hP := hP.ext hx (by simp); replace hQ := hQ.ext hx (by simp); replace hc := (hc.alloc (.cells #[.bool pr, .bool wr, .bool hu, .bool ac, .bool di, .bool ma, .bool re, .int .i64 fr] 39)).drew; replace hP := (hP.alloc (.cells #[.bool pr, .bool wr, .bool hu, .bool ac, .bool di, .bool ma, .bool re, .int .i64 fr] 39)).ext (Ext.drew (Ext.refl [] _)) (by simp); replace hQ := (hQ.alloc (.cells #[.bool pr, .bool wr, .bool hu, .bool ac, .bool di, .bool ma, .bool re, .int .i64 fr] 39)).ext (Ext.drew (Ext.refl [] _)) (by simp); clear hx; (try clear k0 k1 k2 k3 k4 k5 k6 k7 l0 l1 l2 l3 l4 l5 l6 l7); obtain ⟨k0, k1, k2, k3, k4, k5, k6, k7⟩ := hP.cells8 rfl; obtain ⟨l0, l1, l2, l3, l4, l5, l6, l7⟩ := hQ.cells8 Hs.out))
  go_region_with (first
    | (go_at_call 39; with_reducible refine (CL.out _).mono ?_; rintro e w2 ⟨rfl, hx⟩; replace hc := hc.trans hx; replace hP := hP.ext hx (by simp); replace hQ := hQ.ext hx (by simp); clear hx; (try clear k0 k1 k2 k3 k4 k5 k6 k7 l0 l1 l2 l3 l4 l5 l6 l7); obtain ⟨k0, k1, k2, k3, k4, k5, k6, k7⟩ := hP.cells8 rfl; obtain ⟨l0, l1, l2, l3, l4, l5, l6, l7⟩ := hQ.cells8 Hs.out)
    | (go_at_call 45; with_reducible refine (CLR.out _).mono ?_; rintro e w2 ⟨rfl, hx⟩; replace hc := hc.trans hx; replace hP := hP.ext hx (by simp); replace hQ := hQ.ext hx (by simp); clear hx; (try clear k0 k1 k2 k3 k4 k5 k6 k7 l0 l1 l2 l3 l4 l5 l6 l7); obtain ⟨k0, k1, k2, k3, k4, k5, k6, k7⟩ := hP.cells8 rfl; obtain ⟨l0, l1, l2, l3, l4, l5, l6, l7⟩ := hQ.cells8 Hs.out))
  all_goals go_wp2_with (first
    | (go_at_call 35; with_reducible refine (CV.out _).mono ?_; rintro e w2 ⟨rfl, hx⟩; replace hc := hc.trans hx; replace hP := hP.ext hx (by simp); replace hQ := hQ.ext hx (by simp); replace hc := hc.alloc (.cells #[.bool pr3, .bool wr3, .bool hu3, .bool ac3, .bool di3, .bool ma3, .bool re3, .int .i64 fr3] 39); replace hP := hP.alloc (.cells #[.bool pr3, .bool wr3, .bool hu3, .bool ac3, .bool di3, .bool ma3, .bool re3, .int .i64 fr3] 39); replace hQ := hQ.alloc (.cells #[.bool pr3, .bool wr3, .bool hu3, .bool ac3, .bool di3, .bool ma3, .bool re3, .int .i64 fr3] 39); clear hx; (try clear k0 k1 k2 k3 k4 k5 k6 k7 l0 l1 l2 l3 l4 l5 l6 l7); obtain ⟨k0, k1, k2, k3, k4, k5, k6, k7⟩ := hP.cells8 rfl; obtain ⟨l0, l1, l2, l3, l4, l5, l6, l7⟩ := hQ.cells8 Hs.out)
    | (go_at_call 25; with_reducible refine (CX.out _).mono ?_; rintro e w2 ⟨rfl, hx⟩; replace hc := hc.trans hx; replace hP := hP.ext hx (by simp); replace hQ := hQ.ext hx (by simp); clear hx; (try clear k0 k1 k2 k3 k4 k5 k6 k7 l0 l1 l2 l3 l4 l5 l6 l7); obtain ⟨k0, k1, k2, k3, k4, k5, k6, k7⟩ := hP.cells8 rfl; obtain ⟨l0, l1, l2, l3, l4, l5, l6, l7⟩ := hQ.cells8 Hs.out)
    | (go_at_call 29; with_reducible refine (CW.out _).mono ?_; rintro e w2 ⟨rfl, hx⟩; replace hc := hc.trans hx; replace hP := hP.ext hx (by simp); replace hQ := hQ.ext hx (by simp); clear hx; (try clear k0 k1 k2 k3 k4 k5 k6 k7 l0 l1 l2 l3 l4 l5 l6 l7); obtain ⟨k0, k1, k2, k3, k4, k5, k6, k7⟩ := hP.cells8 rfl; obtain ⟨l0, l1, l2, l3, l4, l5, l6, l7⟩ := hQ.cells8 Hs.out))
  all_goals
    go_ret
    exact ⟨rfl, hc⟩

end Go.Proofs.Ytemmoabhlfbfcaa
