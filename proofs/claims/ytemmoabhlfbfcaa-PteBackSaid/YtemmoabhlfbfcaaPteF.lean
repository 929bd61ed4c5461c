/-
  The law PteEncodes, walked.
-/
import Derived.Test.YtemmoabhlfbfcaaPteE
import Derived.Deep.RegionWith
namespace Go.Proofs.Ytemmoabhlfbfcaa
set_option linter.unusedVariables false
set_option linter.unusedSimpArgs false
open Go.RowKit
set_option maxHeartbeats 2000000
set_option maxRecDepth 10000

theorem pteEncodes_c (p : PTE) (w : World) :
    Calls Try.prog 6 #[.agg p.cells] w fun e w' => e = .returned (.bool true) ∧ Ext [] w w' := by
  have C := Lib.hid (fun w => enc_c p w)
  have CR := Lib.hid (fun w => renc_c p w)
  have CC := Lib.hid (fun w => check_c p w)
  have CRC := Lib.hid (fun w => rcheck_c p w)
  obtain ⟨x, e, he⟩ : ∃ (x e : Int), p.encV = .tuple #[.int .u64 x, .int .i64 e] := ⟨_, _, rfl⟩
  rw [he] at C CR
  clear he
  generalize p.err = er at *
  obtain ⟨pr, wr, hu, ac, di, ma, re, fr⟩ := p
  unfold PTE.cells at *
  simp only [] at *
  go_enter Try.func6, Try.ntmps6
  have hc0 : Ext [] w (w.alloc (.cells #[.bool pr, .bool wr, .bool hu, .bool ac, .bool di, .bool ma, .bool re, .int .i64 fr] 39)) := (Ext.refl _ _).alloc _
  have hB := Blk.new w [.bool pr, .bool wr, .bool hu, .bool ac, .bool di, .bool ma, .bool re, .int .i64 fr] 39
  go_wp2_with (first
    | (go_at_call 25; refine (C.out _).mono ?_; rintro e w2 ⟨rfl, hx⟩; have hc2 := hc0.trans hx; have hB2 := hB.ext hx (by simp); clear hc0 hB hx; obtain ⟨k0, k1, k2, k3, k4, k5, k6, k7⟩ := hB2.cells8 rfl)
    | (go_at_call 26; refine (CR.out _).mono ?_; rintro e w3 ⟨rfl, hx⟩; have hc := (hc2.trans hx).drew; have hB := hB2.ext hx.drew (by simp); clear k0 k1 k2 k3 k4 k5 k6 k7 hc2 hB2 hx; obtain ⟨k0, k1, k2, k3, k4, k5, k6, k7⟩ := hB.cells8 rfl))
  go_region_with (first
    | (go_at_call 27; refine (CC.out _).mono ?_; rintro e w4 ⟨rfl, hx⟩; replace hc := hc.trans hx; replace hB := hB.ext hx (by simp); clear k0 k1 k2 k3 k4 k5 k6 k7 hx; obtain ⟨k0, k1, k2, k3, k4, k5, k6, k7⟩ := hB.cells8 rfl)
    | (go_at_call 28; refine (CRC.out _).mono ?_; rintro e w4 ⟨rfl, hx⟩; replace hc := hc.trans hx; replace hB := hB.ext hx (by simp); clear k0 k1 k2 k3 k4 k5 k6 k7 hx; obtain ⟨k0, k1, k2, k3, k4, k5, k6, k7⟩ := hB.cells8 rfl)
    | (go_at_call 29; refine (awake05_c _).mono ?_; rintro e w4 ⟨rfl, hx⟩; replace hc := hc.trans hx; replace hB := hB.ext hx (by simp); clear k0 k1 k2 k3 k4 k5 k6 k7 hx; obtain ⟨k0, k1, k2, k3, k4, k5, k6, k7⟩ := hB.cells8 rfl))
  all_goals (try go_wp2)
  all_goals
    go_ret
    exact ⟨rfl, hc⟩

end Go.Proofs.Ytemmoabhlfbfcaa
