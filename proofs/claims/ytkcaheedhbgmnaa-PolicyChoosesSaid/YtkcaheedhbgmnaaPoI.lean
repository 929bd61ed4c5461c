/-
  Policy: Order where it may not be; the reference's IsPage and around.
-/
import Derived.Test.YtkcaheedhbgmnaaPoH
namespace Go.Proofs.Ytkcaheedhbgmnaa
set_option linter.unusedVariables false
set_option linter.unusedSimpArgs false
open Go.RowKit
set_option maxHeartbeats 1000000
set_option maxRecDepth 10000
set_option linter.unusedVariables false
set_option linter.unusedSimpArgs false

def OkI (k m x p n : Int) : Prop := checkS k m n = 0 ∧ 0 ≤ x ∧ x < n ∧ 0 ≤ p ∧ p < 4096
instance (k m x p n : Int) : Decidable (OkI k m x p n) := by unfold OkI; infer_instance
theorem OkI.ok {k m x p n : Int} (h : OkI k m x p n) : ∃ x' p' n' : Nat, x = x' ∧ p = p' ∧ n = n' ∧ OkP k m x' p' n' := by
  obtain ⟨h1, h2, h3, h4, h5⟩ := h
  refine ⟨x.toNat, p.toNat, n.toNat, by omega, by omega, by omega, ?_, by omega, by omega⟩
  rw [show ((n.toNat : Nat) : Int) = n by omega]; exact h1
def isPageB (p : Int) : Bool := decide (0 ≤ p) && decide (p < 4096)
theorem isPage_c (p : Int) (w : World) : Calls Try.prog 42 #[.int .i64 p] w fun e w' => e = .returned (.bool (isPageB p)) ∧ w = w' := by
  by_cases h0 : 0 ≤ p
  · by_cases h1 : p < 4096
    · rw [show isPageB p = true by unfold isPageB; simp [h0, h1]]
      go_enter Try.func42, Try.ntmps42
      go_wp2
      go_ret
      exact ⟨rfl, rfl⟩
    · rw [show isPageB p = false by unfold isPageB; simp [h0]; omega]
      go_enter Try.func42, Try.ntmps42
      go_wp2
      go_ret
      exact ⟨rfl, rfl⟩
  · rw [show isPageB p = false by unfold isPageB; simp; omega]
    go_enter Try.func42, Try.ntmps42
    go_wp2
    go_ret
    exact ⟨rfl, rfl⟩
def RetBad (w : World) (e : Ending) (w' : World) : Prop := e = .returned (.tuple #[.slice none 0 0, .int .i64 1]) ∧ Ext [] w w'

theorem order_bad (k m x p n : Int) (h : ¬ OkI k m x p n) (w : World) : Calls Try.prog 34 #[polV k m, .int .i64 x, .int .i64 p, .int .i64 n] w (RetBad w) := by
  have CK := Lib.hid (fun w => check_c k m n w)
  have CB := Lib.hid (fun w => base_c p w)
  unfold OkI at h
  unfold polV at *
  by_cases hp : 0 ≤ p ∧ p < 4096
  · rw [show baseS p = .tuple #[.int .i64 (p * 64), .int .i64 0] by unfold baseS twoV; rw [if_pos hp]] at CB
    by_cases h1 : checkS k m n = 0
    · rw [h1] at CK
      by_cases h2 : 0 ≤ x
      · have h3 : n ≤ x := by omega
        clear h hp h1
        go_enter Try.func34, Try.ntmps34
        go_wp2_with (first
          | (go_at_call 65; refine (CB.out _).mono ?_; rintro e w' ⟨rfl, rfl⟩)
          | (go_at_call 37; refine (CK.out _).mono ?_; rintro e w1 ⟨rfl, hx1⟩; have HX1 := Lib.hid hx1; clear hx1))
        go_ret2
        exact ⟨rfl, ((Ext.refl [] w).alloc _).trans HX1.out⟩
      · have h3 : x < 0 := by omega
        clear h hp h1 h2
        go_enter Try.func34, Try.ntmps34
        go_wp2_with (first
          | (go_at_call 65; refine (CB.out _).mono ?_; rintro e w' ⟨rfl, rfl⟩)
          | (go_at_call 37; refine (CK.out _).mono ?_; rintro e w1 ⟨rfl, hx1⟩; have HX1 := Lib.hid hx1; clear hx1))
        go_ret2
        exact ⟨rfl, ((Ext.refl [] w).alloc _).trans HX1.out⟩
    · have hb : (checkS k m n != 0) = true := by simpa using h1
      generalize checkS k m n = c at *
      clear h hp h1
      go_enter Try.func34, Try.ntmps34
      go_wp2_with (first
        | (go_at_call 65; refine (CB.out _).mono ?_; rintro e w' ⟨rfl, rfl⟩)
        | (go_at_call 37; refine (CK.out _).mono ?_; rintro e w1 ⟨rfl, hx1⟩; have HX1 := Lib.hid hx1; clear hx1))
      go_ret2
      exact ⟨rfl, ((Ext.refl [] w).alloc _).trans HX1.out⟩
  · rw [show baseS p = .tuple #[.int .i64 0, .int .i64 1] by unfold baseS twoV; rw [if_neg hp]] at CB
    generalize checkS k m n = c at *
    clear h hp
    go_enter Try.func34, Try.ntmps34
    go_wp2_with (first
      | (go_at_call 65; refine (CB.out _).mono ?_; rintro e w' ⟨rfl, rfl⟩)
      | (go_at_call 37; refine (CK.out _).mono ?_; rintro e w1 ⟨rfl, hx1⟩; have HX1 := Lib.hid hx1; clear hx1))
    all_goals
      go_ret2
      exact ⟨rfl, ((Ext.refl [] w).alloc _).trans HX1.out⟩

theorem rorder_bad (k m x p n : Int) (h : ¬ OkI k m x p n) (w : World) : Calls Try.prog 35 #[polV k m, .int .i64 x, .int .i64 p, .int .i64 n] w (RetBad w) := by
  have CK := Lib.hid (fun w => rcheck_c k m n w)
  have CB := Lib.hid (fun w => isPage_c p w)
  unfold OkI at h
  unfold polV at *
  by_cases h1 : checkS k m n = 0
  · rw [h1] at CK
    by_cases h2 : 0 ≤ x
    · by_cases h3 : n ≤ x
      · clear h h1
        go_enter Try.func35, Try.ntmps35
        go_wp2_with (first
          | (go_at_call 38; refine (CK.out _).mono ?_; rintro e w1 ⟨rfl, hx1⟩; have HX1 := Lib.hid hx1; clear hx1))
        go_ret2
        exact ⟨rfl, ((Ext.refl [] w).alloc _).trans HX1.out⟩
      · rw [show isPageB p = false by unfold isPageB; simp only [Bool.and_eq_false_iff, decide_eq_false_iff_not]; omega] at CB
        have h4 : x < n := by omega
        clear h h1 h3
        go_enter Try.func35, Try.ntmps35
        go_wp2_with (first
          | (go_at_call 42; refine (CB.out _).mono ?_; rintro e w' ⟨rfl, rfl⟩)
          | (go_at_call 38; refine (CK.out _).mono ?_; rintro e w1 ⟨rfl, hx1⟩; have HX1 := Lib.hid hx1; clear hx1))
        go_ret2
        exact ⟨rfl, ((Ext.refl [] w).alloc _).trans HX1.out⟩
    · have h3 : x < 0 := by omega
      clear h h1 h2
      go_enter Try.func35, Try.ntmps35
      go_wp2_with (first
        | (go_at_call 38; refine (CK.out _).mono ?_; rintro e w1 ⟨rfl, hx1⟩; have HX1 := Lib.hid hx1; clear hx1))
      go_ret2
      exact ⟨rfl, ((Ext.refl [] w).alloc _).trans HX1.out⟩
  · have hb : (checkS k m n != 0) = true := by simpa using h1
    generalize checkS k m n = c at *
    clear h h1
    go_enter Try.func35, Try.ntmps35
    go_wp2_with (first
      | (go_at_call 38; refine (CK.out _).mono ?_; rintro e w1 ⟨rfl, hx1⟩; have HX1 := Lib.hid hx1; clear hx1))
    go_ret2
    exact ⟨rfl, ((Ext.refl [] w).alloc _).trans HX1.out⟩

end Go.Proofs.Ytkcaheedhbgmnaa
