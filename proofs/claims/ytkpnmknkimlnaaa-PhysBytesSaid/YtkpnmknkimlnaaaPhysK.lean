/-
  Phys: both memories in lockstep.
-/
import Derived.Test.YtkpnmknkimlnaaaPhysJ
namespace Go.Proofs.Ytkpnmknkimlnaaa
set_option linter.unusedVariables false
set_option linter.unusedSimpArgs false
open Go.RowKit
set_option maxHeartbeats 2000000
set_option maxRecDepth 10000
set_option linter.unusedSectionVars false

theorem results_cell_tmp2 {fn : Func} {p u v : Tmp} {ty : TypeId} (h : fn.results = #[.cell p ty, .tmp u, .tmp v]) (tmps : Array Value) (P : Program) (w : World) :
    (results fn tmps).run P w =
      ((asAddr (tmps.getD p undef)).run P w).andThen fun a w₁ => ((loadVar ty a).run P w₁).andThen fun x w₂ => .ok (.tuple #[x, tmps.getD u undef, tmps.getD v undef]) w₂ := by
  simp only [results, h]
  simp [Sem.run_bind, Result.andThen]

/-- Both memories hold the same. -/
structure BothIs (w : World) (bm bl br bw bo N E : Nat) (wd kd nd : Nat → Int) : Prop where
  mem : MemIs w bm bl N E wd kd nd
  ref : RefIs w br bw bo N E wd kd nd
  a1 : bl ≠ br
  a2 : bl ≠ bw
  a3 : bl ≠ bo
  a4 : bm ≠ bw
  a5 : bm ≠ bo

theorem BothIs.ext {w w' : World} {bm bl br bw bo N E : Nat} {wd kd nd : Nat → Int} (h : BothIs w bm bl br bw bo N E wd kd nd) (e : Ext [] w w') : BothIs w' bm bl br bw bo N E wd kd nd :=
  ⟨h.mem.ext e (by simp) (by simp), h.ref.ext e (by simp) (by simp) (by simp), h.a1, h.a2, h.a3, h.a4, h.a5⟩

theorem made_bad (N E : Int) (w : World) (h : newBad N E = true) : Calls Try.prog 12 #[.agg #[.int .i64 N, .int .i64 E]] w fun e w' => e = .returned (.tuple #[.agg #[.pointer none, .pointer none], .bool true, .bool false]) ∧ Ext [] w w' := by
  have C := Lib.hid (fun w => new_bad N E w h)
  have CR := Lib.hid (fun w => rnew_bad N E w h)
  clear h
  go_enter Try.func12, Try.ntmps12
  go_wp2_with (first
    | (go_at_call 44; refine (C.out _).mono ?_; rintro e w2 ⟨rfl, rfl⟩)
    | (go_at_call 45; refine (CR.out _).mono ?_; rintro e w2 ⟨rfl, rfl⟩))
  (try simp only [Exit.inBlock, Exit.then])
  refine bodyPost_ret (v := .tuple #[.agg #[.pointer none, .pointer none], .bool true, .bool false]) ?_ rfl ⟨rfl, ?_⟩
  · rw [results_cell_tmp2 rfl]
    go_simp
  · repeat' (first | exact Ext.refl _ _ | refine Ext.alloc ?_ _ | refine Ext.setCell ?_ _ _ (.inr (by simp)))

/-- Both memories, new. -/
def MadeOk (N E : Nat) (w : World) (e : Ending) (w' : World) : Prop :=
  ∃ bm bl br bw bo : Nat, e = .returned (.tuple #[.agg #[.pointer (some ⟨bm, 0, none⟩), .pointer (some ⟨br, 0, none⟩)], .bool true, .bool true]) ∧ Ext [] w w' ∧
    w.heap.size ≤ bm ∧ w.heap.size ≤ bl ∧ w.heap.size ≤ br ∧ w.heap.size ≤ bw ∧ w.heap.size ≤ bo ∧ BothIs w' bm bl br bw bo N E zeroF zeroF zeroF
theorem made_ok (N E : Nat) (w : World) (hN : 1 ≤ N ∧ N ≤ 8) (hE : 1 ≤ E ∧ E ≤ 1024) : Calls Try.prog 12 #[.agg #[.int .i64 N, .int .i64 E]] w (MadeOk N E w) := by
  have C := Lib.hid (fun w => mnew_c N E w hN hE)
  have CR := Lib.hid (fun w => rnew_c N E w hN hE)
  clear hN hE
  have hA := Blk.new w [.int .i64 N, .int .i64 E] 23
  have hA1 := hA.alloc (.cells #[.pointer none, .pointer none] 29)
  have hs : (w.alloc (.cells #[.int .i64 N, .int .i64 E] 23)).heap.size = w.heap.size + 1 := by simp
  have hB := Blk.new (w.alloc (.cells #[.int .i64 N, .int .i64 E] 23)) [.pointer none, .pointer none] 29
  rw [hs] at hB
  have Hs := Lib.hid hs
  clear hs hA
  go_enter Try.func12, Try.ntmps12
  go_wp2_with (first
    | (go_at_call 44; refine (C.out _).mono ?_; rintro e w2 ⟨bm, bl, rfl, hx, hbm, hbl, hM⟩; have k0 := (hA1.ext hx (by simp)).cell 0; have k1 := (hA1.ext hx (by simp)).cell 1; have HM := Lib.hid hM; have HX := Lib.hid hx; have HB1 := Lib.hid hbm; have HB2 := Lib.hid hbl; clear hM hx hbm hbl)
    | (go_at_call 45; refine (CR.out _).mono ?_; rintro e w3 ⟨br, bw, bo, rfl, hy, h1, h2, h3, hR⟩; have hB' := (hB.ext HX.out (by simp)).ext hy (by simp); have k0 := hB'.cell 0; have k1 := hB'.cell 1; have q0 := hB'.frozen 0; have q1 := hB'.frozen 1; have HR := Lib.hid hR; have HY := Lib.hid hy; have R1 := Lib.hid h1; have R2 := Lib.hid h2; have R3 := Lib.hid h3; clear hR hy h1 h2 h3 hB'))
  (try simp only [Exit.inBlock, Exit.then])
  refine bodyPost_ret (v := .tuple #[.agg #[.pointer (some ⟨bm, 0, none⟩), .pointer (some ⟨br, 0, none⟩)], .bool true, .bool true]) ?_ rfl ?_
  · rw [results_cell_tmp2 rfl]
    go_simp
  · have x1 := HX.out.size
    have x2 := HY.out.size
    have b1 := HB1.out
    have b2 := HB2.out
    have r1 := R1.out
    have r2 := R2.out
    have r3 := R3.out
    have m1 := HM.out.head.lt
    have m2 := HM.out.body.lt
    have z : ((w.alloc (.cells #[.int .i64 N, .int .i64 E] 23)).alloc (.cells #[.pointer none, .pointer none] 29)).heap.size = w.heap.size + 1 + 1 := by simp
    rw [z] at x1 b1 b2
    have hw : Ext [] w w3 := ((((Ext.refl [] w).alloc _).alloc _).trans HX.out).trans HY.out
    have hst : Ext [w.heap.size + 1] w3 ((w3.setCell ⟨w.heap.size + 1, 0, none⟩ (.pointer (some ⟨bm, 0, none⟩))).setCell ⟨w.heap.size + 1, 1, none⟩ (.pointer (some ⟨br, 0, none⟩))) := ((Ext.refl _ _).setCell _ _ (.inl (by simp))).setCell _ _ (.inl (by simp))
    refine ⟨bm, bl, br, bw, bo, rfl, hw.step hst (by simp), by omega, by omega, by omega, by omega, by omega, ⟨(HM.out.ext HY.out (by simp) (by simp)).ext hst (by simp; omega) (by simp; omega), HR.out.ext hst (by simp; omega) (by simp; omega) (by simp; omega), by omega, by omega, by omega, by omega, by omega⟩⟩

end Go.Proofs.Ytkpnmknkimlnaaa
