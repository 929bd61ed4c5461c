/-
  Policy's laws: both orders in one contract each; awake; PolicyOrders.
-/
import Derived.Test.YtkcaheedhbgmnaaPoK
namespace Go.Proofs.Ytkcaheedhbgmnaa
set_option linter.unusedVariables false
set_option linter.unusedSimpArgs false
open Go.RowKit
set_option maxHeartbeats 1000000
set_option maxRecDepth 100000
set_option linter.unusedVariables false
set_option linter.unusedSimpArgs false

def ordA (k m x p n : Int) : List Nat := if OkI k m x p n then ordL k m x.toNat p.toNat n.toNat else []
def errA (k m x p n : Int) : Int := if OkI k m x p n then 0 else 1
def RetA (k m x p n : Int) (w : World) (e : Ending) (w' : World) : Prop :=
  ∃ v, e = .returned (.tuple #[v, .int .i64 (errA k m x p n)]) ∧ Sl w' 1 v (encN (ordA k m x p n)) ∧ Ext [] w w'
theorem orderA_c (k m x p n : Int) (w : World) : Calls Try.prog 34 #[polV k m, .int .i64 x, .int .i64 p, .int .i64 n] w (RetA k m x p n w) := by
  by_cases h : OkI k m x p n
  · obtain ⟨x', p', n', rfl, rfl, rfl, hP⟩ := h.ok
    refine (order_c k m x' p' n' hP w).mono fun e w' ⟨v, he, hs, hx⟩ => ⟨v, ?_, ?_, hx⟩
    · rw [he, errA, if_pos h]
    · rw [ordA, if_pos h]; exact hs
  · refine (order_bad k m x p n h w).mono fun e w' ⟨he, hx⟩ => ⟨.slice none 0 0, ?_, ?_, hx⟩
    · rw [he, errA, if_neg h]
    · rw [ordA, if_neg h]; exact Sl.nil _ _
theorem rorderA_c (k m x p n : Int) (w : World) : Calls Try.prog 35 #[polV k m, .int .i64 x, .int .i64 p, .int .i64 n] w (RetA k m x p n w) := by
  by_cases h : OkI k m x p n
  · obtain ⟨x', p', n', rfl, rfl, rfl, hP⟩ := h.ok
    refine (rorder_c k m x' p' n' hP w).mono fun e w' ⟨v, he, hs, hx⟩ => ⟨v, ?_, ?_, hx⟩
    · rw [he, errA, if_pos h]
    · rw [ordA, if_pos h]; exact hs
  · refine (rorder_bad k m x p n h w).mono fun e w' ⟨he, hx⟩ => ⟨.slice none 0 0, ?_, ?_, hx⟩
    · rw [he, errA, if_neg h]
    · rw [ordA, if_neg h]; exact Sl.nil _ _
theorem map_ofNat_inj {A B : List Nat} (h : A.map Int.ofNat = B.map Int.ofNat) : A = B := by
  induction A generalizing B with
  | nil => cases B <;> simp at h ⊢
  | cons a A ih =>
    cases B with
    | nil => simp at h
    | cons b B =>
      simp only [List.map_cons, List.cons.injEq, Int.ofNat.injEq] at h
      rw [h.1, ih h.2]
theorem intsN_c (va vb : Value) (A B : List Nat) (w : World) (ha : Sl w 1 va (encN A)) (hb : Sl w 1 vb (encN B)) :
    Calls Try.prog 36 #[va, vb] w fun e w' => e = .returned (.bool (decide (A = B))) ∧ Ext [] w w' := by
  rw [encN_eq] at ha hb
  refine (ints_c va vb _ _ w ha hb).mono fun e w' ⟨he, hx⟩ => ⟨?_, hx⟩
  rw [he]
  congr 2
  rw [Bool.eq_iff_iff]
  simp only [decide_eq_true_eq]
  exact ⟨map_ofNat_inj, fun h => by rw [h]⟩

theorem awake10_c (w : World) : Calls Try.prog 39 #[] w fun e w' => e = .returned (.bool true) ∧ Ext [] w w' := by
  have CO := Lib.hid (fun w => orderA_c 2 5 2 7 4 w)
  unfold RetA polV at CO
  rw [show errA 2 5 2 7 4 = 0 by decide +kernel, show ordA 2 5 2 7 4 = [2, 0, 1, 3] by decide +kernel] at CO
  go_enter Try.func39, Try.ntmps39
  go_wp2_with (first
    | (go_at_call 34; refine (CO.out _).mono ?_; rintro e w1 ⟨v, rfl, hs, hx⟩; have HS := Lib.hid (Sl.ext hs ((Ext.refl [] _).alloc (.cells (encN [2, 0, 1, 3]).toArray 3)) (by simp)); have HX := Lib.hid (hx.alloc (.cells (encN [2, 0, 1, 3]).toArray 3)); have HL := Lib.hid (Sl.lit w1 1 4 (encN [2, 0, 1, 3]) 3 (by decide) rfl); clear hs hx)
    | (go_at_call 36; refine (intsN_c _ _ _ _ _ HS.out HL.out).mono ?_; rintro e w2 ⟨rfl, hx⟩; have HX2 := Lib.hid hx; clear hx))
  go_ret
  exact ⟨rfl, HX.out.trans HX2.out⟩

/-- The law's arguments, boxed: still there. -/
theorem policyOrders_c (k m x p n : Int) (w : World) : Calls Try.prog 7 #[polV k m, .agg #[.int .i64 x, .int .i64 p, .int .i64 n]] w fun e w' => e = .returned (.bool true) ∧ Ext [] w w' := by
  have CO := Lib.hid (fun w => orderA_c k m x p n w)
  have CR := Lib.hid (fun w => rorderA_c k m x p n w)
  have CK := Lib.hid (fun w => check_c k m n w)
  have CL := Lib.hid (fun w => rcheck_c k m n w)
  have CW := Lib.hid (fun w => awake10_c w)
  have hb0 := (Blk.new w [.int .i64 k, .int .i64 m] 77).alloc (.cells #[.int .i64 x, .int .i64 p, .int .i64 n] 78)
  have hb1 := Blk.new (w.alloc (.cells #[.int .i64 k, .int .i64 m] 77)) [.int .i64 x, .int .i64 p, .int .i64 n] 78
  have hx0 : Ext [] w ((w.alloc (.cells #[.int .i64 k, .int .i64 m] 77)).alloc (.cells #[.int .i64 x, .int .i64 p, .int .i64 n] 78)) := ((Ext.refl _ _).alloc _).alloc _
  have HB0 := Lib.hid hb0
  have HB1 := Lib.hid (show Blk _ (w.heap.size + 1) [.int .i64 x, .int .i64 p, .int .i64 n] 78 by simpa using hb1)
  have HX0 := Lib.hid hx0
  clear hb0 hb1 hx0
  unfold RetA polV at *
  generalize ordA k m x p n = A at *
  generalize errA k m x p n = er at *
  generalize checkS k m n = ck at *
  go_enter Try.func7, Try.ntmps7
  go_wp2_with (first
    | (go_at_call 34; refine (CO.out _).mono ?_; rintro e w1 ⟨v1, rfl, hs, hx⟩; have HS1 := Lib.hid hs; have HX1 := Lib.hid (HX0.out.trans hx); have HC0 := Lib.hid (HB0.out.ext hx (by simp)); have HC1 := Lib.hid (HB1.out.ext hx (by simp)); have k0 := HC0.out.cell 0; have k1 := HC0.out.cell 1; have k2 := HC1.out.cell 0; have k3 := HC1.out.cell 1; have k4 := HC1.out.cell 2; clear hs hx)
    | (go_at_call 35; refine (CR.out _).mono ?_; rintro e w2 ⟨v2, rfl, hs, hx⟩; have HS2 := Lib.hid hs; have HS1' := Lib.hid (Sl.ext HS1.out hx (by simp)); have HX2 := Lib.hid (HX1.out.trans hx); have HD0 := Lib.hid (HC0.out.ext hx (by simp)); have HD1 := Lib.hid (HC1.out.ext hx (by simp)); clear hs hx k0 k1 k2 k3 k4))
  have HX2d := Lib.hid (HX2.out.drew)
  have HS1d := Lib.hid (Sl.ext HS1'.out (Ext.refl [] _).drew (by simp))
  have HS2d := Lib.hid (Sl.ext HS2.out (Ext.refl [] _).drew (by simp))
  have HD0d := Lib.hid (HD0.out.ext (Ext.refl [] _).drew (by simp))
  have HD1d := Lib.hid (HD1.out.ext (Ext.refl [] _).drew (by simp))
  have HXc := Lib.hid (Ext.refl [] w2.drew)
  have e1 : (er == er) = true := by simp
  have e2 : (ck == ck) = true := by simp
  go_region_held3 (fun cur => cur.cell? ⟨w.heap.size, 0, none⟩ = some (.int .i64 k) ∧ cur.cell? ⟨w.heap.size, 1, none⟩ = some (.int .i64 m) ∧ cur.cell? ⟨w.heap.size + 1, 2, none⟩ = some (.int .i64 n))
    (exact ⟨(HD0d.out.ext HXc.out (by simp)).cell 0, (HD0d.out.ext HXc.out (by simp)).cell 1, (HD1d.out.ext HXc.out (by simp)).cell 2⟩)
    (first
    | (go_at_call 36; refine (intsN_c _ _ _ _ _ HS1d.out HS2d.out).mono ?_; rintro e w3 ⟨rfl, hx⟩; have HXc := Lib.hid (HXc.out.trans hx); clear hx)
    | (go_at_call 37; refine (CK.out _).mono ?_; rintro e w3 ⟨rfl, hx⟩; have HXc := Lib.hid (HXc.out.trans hx); clear hx)
    | (go_at_call 38; refine (CL.out _).mono ?_; rintro e w3 ⟨rfl, hx⟩; have HXc := Lib.hid (HXc.out.trans hx); clear hx)
    | (go_at_call 39; refine (CW.out _).mono ?_; rintro e w3 ⟨rfl, hx⟩; have HXc := Lib.hid (HXc.out.trans hx); clear hx))
  all_goals
    go_wp2
    go_ret
    exact ⟨rfl, HX2d.out.trans HXc.out⟩

end Go.Proofs.Ytkcaheedhbgmnaa
