/-
  Walks over the reference of phys: bytes, zeros, copies.
-/
import Derived.Test.YtkpnmknkimlnaaaPhysF
namespace Go.Proofs.Ytkpnmknkimlnaaa
set_option linter.unusedVariables false
set_option linter.unusedSimpArgs false
open Go.RowKit
set_option maxHeartbeats 1000000
set_option maxRecDepth 10000
set_option linter.unusedSectionVars false

def okB (n : Nat) (f i : Int) : Bool := hasF n f && hasF 64 i
def getB (n : Nat) (wd : Nat → Int) (f i : Int) : Value := if okB n f i then .tuple #[.int .u8 (byteOf (wd (f.toNat * 8 + i.toNat / 8)) (i.toNat % 8)), .int .i64 0] else .tuple #[.int .u8 0, .int .i64 1]
def setB (n : Nat) (wd : Nat → Int) (f i v : Int) : Nat → Int := if okB n f i then upd wd (f.toNat * 8 + i.toNat / 8) (byteIn (wd (f.toNat * 8 + i.toNat / 8)) v (i.toNat % 8)) else wd

theorem okB_cases (n : Nat) (f i : Int) : (okB n f i = false ∧ hasF n f = false) ∨ (okB n f i = false ∧ hasF n f = true ∧ (i < 0 ∨ 64 ≤ i)) ∨ (okB n f i = true ∧ ∃ k q r : Nat, f = k ∧ k < n ∧ i = ((q * 8 + r : Nat) : Int) ∧ q < 8 ∧ r < 8) := by
  unfold okB
  cases h1 : hasF n f
  · exact .inl ⟨rfl, rfl⟩
  · cases h2 : hasF 64 i
    · refine .inr (.inl ⟨rfl, rfl, ?_⟩)
      simp [hasF] at h2
      omega
    · obtain ⟨k, rfl, hk⟩ := hasF_nat h1
      obtain ⟨j, rfl, hj⟩ := hasF_nat h2
      exact .inr (.inr ⟨rfl, k, j / 8, j % 8, rfl, hk, by congr 1; omega, by omega, by omega⟩)

section
variable {br bw bo N E : Nat} {wd kd nd : Nat → Int} {w : World} (h : RefIs w br bw bo N E wd kd nd)
include h

theorem RefIs.byte (f i : Int) : Calls Try.prog 16 #[.pointer (some ⟨br, 0, none⟩), .int .i64 f, .int .i64 i] w fun e w' => e = .returned (getB (N * E) wd f i) ∧ Ext [] w w' := by
  obtain ⟨hm, hw, hn⟩ := h.mul
  have C := Lib.hid (there_c br N E (N * E) f w (h.head.cell 0) (h.head.cell 1) hm hw)
  unfold getB
  rcases okB_cases (N * E) f i with ⟨e1, e2⟩ | ⟨e1, e2, e3⟩ | ⟨e1, k, q, r, rfl, hk, rfl, hq, hr⟩
  · rw [e1]
    rw [e2] at C
    clear hm hw hn e1 e2
    have hx := Lib.hid h
    clear h
    simp only [Bool.false_eq_true, if_false]
    go_enter Try.func16, Try.ntmps16
    go_wp2_with (go_at_call 52; refine (C.out).mono ?_; rintro e w' ⟨rfl, rfl⟩)
    go_ret2
    exact ⟨rfl, (Ext.refl _ _).drew⟩
  · rw [e1]
    rw [e2] at C
    clear hm hw hn e1 e2
    have hx := Lib.hid h
    clear h
    simp only [Bool.false_eq_true, if_false]
    rcases e3 with e3 | e3
    all_goals
      go_enter Try.func16, Try.ntmps16
      go_wp2_with (go_at_call 52; refine (C.out).mono ?_; rintro e w' ⟨rfl, rfl⟩)
      all_goals
        go_ret2
        exact ⟨rfl, (Ext.refl _ _).drew⟩
  · have e2 : hasF (N * E) (k : Int) = true := by unfold okB at e1; simp only [Bool.and_eq_true] at e1; exact e1.1
    rw [e1, if_pos rfl]
    rw [e2] at C
    have CW := Lib.hid ((h.ext (Ext.refl [] w).drew (by simp) (by simp) (by simp)).word k q)
    have ok : okW (N * E) (k : Int) (q : Int) = true := by unfold okW; rw [e2]; simp [hasF]; omega
    unfold getW at CW
    rw [ok, if_pos rfl] at CW
    have t1 : (((q * 8 + r : Nat) : Int)).toNat / 8 = q := by omega
    have t2 : (((q * 8 + r : Nat) : Int)).toNat % 8 = r := by omega
    have t3 : ixW (k : Int) (q : Int) = k * 8 + q := by simp [ixW]
    have t4 : (k : Int).toNat = k := by omega
    rw [t1, t2, t4]
    rw [t3] at CW
    have h0 : ¬ (((q * 8 + r : Nat) : Int) < 0) := by omega
    have h1 : ¬ (((q * 8 + r : Nat) : Int) ≥ 64) := by omega
    have h2 : ((q * 8 + r : Nat) : Int) / 8 = (q : Int) := by omega
    have h3 : ((q * 8 + r : Nat) : Int) % 8 = (r : Int) := by omega
    clear hm hw hn e1 e2 ok t1 t2 t3 t4
    have hx := Lib.hid h
    clear h
    generalize ((q * 8 + r : Nat) : Int) = i at *
    generalize wd (k * 8 + q) = v at *
    have hrr : r = 0 ∨ r = 1 ∨ r = 2 ∨ r = 3 ∨ r = 4 ∨ r = 5 ∨ r = 6 ∨ r = 7 := by omega
    rcases hrr with rfl | rfl | rfl | rfl | rfl | rfl | rfl | rfl
    all_goals
      go_enter Try.func16, Try.ntmps16
      go_wp2_with (first
        | (go_at_call 52; refine (C.out).mono ?_; rintro e w' ⟨rfl, rfl⟩)
        | (go_at_call 53; refine (CW.out).mono ?_; rintro e w' ⟨rfl, rfl⟩))
      go_ret2
      exact ⟨rfl, (Ext.refl _ _).drew.drew⟩

theorem RefIs.setByte (f i v : Int) (hv : 0 ≤ v ∧ v < 256) : Calls Try.prog 47 #[.pointer (some ⟨br, 0, none⟩), .int .i64 f, .int .i64 i, .int .u8 v] w fun e w' => e = .returned (.int .i64 (errB (okB (N * E) f i))) ∧ Ext [bw] w w' ∧ RefIs w' br bw bo N E (setB (N * E) wd f i v) kd nd := by
  obtain ⟨hm, hw, hn⟩ := h.mul
  have C := Lib.hid (there_c br N E (N * E) f w (h.head.cell 0) (h.head.cell 1) hm hw)
  unfold setB errB
  rcases okB_cases (N * E) f i with ⟨e1, e2⟩ | ⟨e1, e2, e3⟩ | ⟨e1, k, q, r, rfl, hk, rfl, hq, hr⟩
  · rw [e1]
    rw [e2] at C
    clear hm hw hn e1 e2
    have hx := Lib.hid h
    clear h
    simp only [Bool.false_eq_true, if_false]
    go_enter Try.func47, Try.ntmps47
    go_wp2_with (go_at_call 52; refine (C.out).mono ?_; rintro e w' ⟨rfl, rfl⟩)
    go_ret
    exact ⟨rfl, (Ext.refl _ _).drew, hx.out.ext (Ext.refl [] w).drew (by simp) (by simp) (by simp)⟩
  · rw [e1]
    rw [e2] at C
    clear hm hw hn e1 e2
    have hx := Lib.hid h
    clear h
    simp only [Bool.false_eq_true, if_false]
    rcases e3 with e3 | e3
    all_goals
      go_enter Try.func47, Try.ntmps47
      go_wp2_with (go_at_call 52; refine (C.out).mono ?_; rintro e w' ⟨rfl, rfl⟩)
      all_goals
        go_ret
        exact ⟨rfl, (Ext.refl _ _).drew, hx.out.ext (Ext.refl [] w).drew (by simp) (by simp) (by simp)⟩
  · have e2 : hasF (N * E) (k : Int) = true := by unfold okB at e1; simp only [Bool.and_eq_true] at e1; exact e1.1
    rw [e1, if_pos rfl, if_pos rfl]
    rw [e2] at C
    have h1' := h.ext (Ext.refl [] w).drew (by simp) (by simp) (by simp)
    have h2' := h1'.ext (Ext.refl [] w.drew).drew (by simp) (by simp) (by simp)
    have CW := Lib.hid (h1'.word k q)
    have CS := Lib.hid (fun v => h2'.setWord k q v)
    have ok : okW (N * E) (k : Int) (q : Int) = true := by unfold okW; rw [e2]; simp [hasF]; omega
    unfold getW at CW
    unfold setW errB at CS
    rw [ok, if_pos rfl] at CW CS
    have t1 : (((q * 8 + r : Nat) : Int)).toNat / 8 = q := by omega
    have t2 : (((q * 8 + r : Nat) : Int)).toNat % 8 = r := by omega
    have t3 : ixW (k : Int) (q : Int) = k * 8 + q := by simp [ixW]
    have t4 : (k : Int).toNat = k := by omega
    rw [t1, t2, t4]
    rw [t3] at CW CS
    have h0 : ¬ (((q * 8 + r : Nat) : Int) < 0) := by omega
    have h1 : ¬ (((q * 8 + r : Nat) : Int) ≥ 64) := by omega
    have h2 : ((q * 8 + r : Nat) : Int) / 8 = (q : Int) := by omega
    have h3 : ((q * 8 + r : Nat) : Int) % 8 = (r : Int) := by omega
    clear hm hw hn e1 e2 ok t1 t2 t3 t4 h1' h2'
    have hx := Lib.hid h
    clear h
    generalize ((q * 8 + r : Nat) : Int) = i at *
    generalize wd (k * 8 + q) = x at *
    have hrr : r = 0 ∨ r = 1 ∨ r = 2 ∨ r = 3 ∨ r = 4 ∨ r = 5 ∨ r = 6 ∨ r = 7 := by omega
    rcases hrr with rfl | rfl | rfl | rfl | rfl | rfl | rfl | rfl
    all_goals
      go_enter Try.func47, Try.ntmps47
      go_wp2_with (first
        | (go_at_call 52; refine (C.out).mono ?_; rintro e w' ⟨rfl, rfl⟩)
        | (go_at_call 53; refine (CW.out).mono ?_; rintro e w' ⟨rfl, rfl⟩)
        | (go_at_call 46; refine (CS.out _).mono ?_; rintro e w' ⟨rfl, hy, hz⟩))
      go_ret
      exact ⟨rfl, ((Ext.refl _ _).drew.drew).trans hy, hz⟩

def copyOk (n : Nat) (f t i : Int) : Bool := okW n f i && okW n t i
def copyW (n : Nat) (wd : Nat → Int) (f t i : Int) : Nat → Int := if okW n f i then setW n wd t i (wd (ixW f i)) else wd
theorem RefIs.copy (f t i : Int) : Calls Try.prog 49 #[.pointer (some ⟨br, 0, none⟩), .int .i64 f, .int .i64 t, .int .i64 i] w fun e w' => e = .returned (.int .i64 (errB (copyOk (N * E) f t i))) ∧ Ext [bw] w w' ∧ RefIs w' br bw bo N E (copyW (N * E) wd f t i) kd nd := by
  have CW := Lib.hid (h.word f i)
  have h1' := h.ext (Ext.refl [] w).drew (by simp) (by simp) (by simp)
  have CS := Lib.hid (fun v => h1'.setWord t i v)
  unfold getW at CW
  unfold copyW copyOk
  cases e1 : okW (N * E) f i
  · rw [e1] at CW
    have H1 := Lib.hid h1'
    clear h h1' e1
    simp only [Bool.false_eq_true, if_false, Bool.false_and] at CW ⊢
    unfold errB
    go_enter Try.func49, Try.ntmps49
    go_wp2_with (go_at_call 53; refine (CW.out).mono ?_; rintro e w' ⟨rfl, rfl⟩)
    go_ret
    exact ⟨rfl, (Ext.refl _ _).drew, H1.out⟩
  · rw [e1, if_pos rfl] at CW
    rw [if_pos rfl, Bool.true_and]
    have H1 := Lib.hid h1'
    clear h h1' e1
    generalize wd (ixW f i) = x at *
    generalize errB (okW (N * E) t i) = er at *
    go_enter Try.func49, Try.ntmps49
    go_wp2_with (first
      | (go_at_call 53; refine (CW.out).mono ?_; rintro e w' ⟨rfl, rfl⟩)
      | (go_at_call 46; refine (CS.out _).mono ?_; rintro e w' ⟨rfl, hy, hz⟩))
    go_ret
    exact ⟨rfl, ((Ext.refl _ _).drew).trans hy, hz⟩

def zeroW (n : Nat) (wd : Nat → Int) (f : Int) : Nat → Int := if hasF n f then fun q => if f.toNat * 8 ≤ q ∧ q < f.toNat * 8 + 8 then 0 else wd q else wd
theorem RefIs.zero (f : Int) : Calls Try.prog 48 #[.pointer (some ⟨br, 0, none⟩), .int .i64 f] w fun e w' => e = .returned (.int .i64 (errB (hasF (N * E) f))) ∧ Ext [bw] w w' ∧ RefIs w' br bw bo N E (zeroW (N * E) wd f) kd nd := by
  obtain ⟨hm, hw, hn⟩ := h.mul
  have C := Lib.hid (there_c br N E (N * E) f w (h.head.cell 0) (h.head.cell 1) hm hw)
  have h1' := h.ext (Ext.refl [] w).drew (by simp) (by simp) (by simp)
  unfold zeroW errB
  cases e1 : hasF (N * E) f
  · rw [e1] at C
    have H1 := Lib.hid h1'
    clear h h1' e1 hm hw hn
    simp only [Bool.false_eq_true, if_false]
    go_enter Try.func48, Try.ntmps48
    go_wp2_with (go_at_call 52; refine (C.out).mono ?_; rintro e w' ⟨rfl, rfl⟩)
    go_ret
    exact ⟨rfl, (Ext.refl _ _).drew, H1.out⟩
  · obtain ⟨k, rfl, hk⟩ := hasF_nat e1
    have t4 : (k : Int).toNat = k := by omega
    rw [e1] at C
    rw [if_pos rfl, if_pos rfl, t4]
    have H1 := Lib.hid h1'
    have E1 := Lib.hid e1
    clear h h1' e1 hm hw hn t4
    go_enter Try.func48, Try.ntmps48
    go_wp2_with (go_at_call 52; refine (C.out).mono ?_; rintro e w' ⟨rfl, rfl⟩)
    go_loopw [5] (fun i wr => ∃ j : Nat, j ≤ 8 ∧ i = .int .i64 j ∧ Ext [bw] w wr ∧ RefIs wr br bw bo N E (fun q => if k * 8 ≤ q ∧ q < k * 8 + j then 0 else wd q) kd nd) (fun i _ => 8 - (intOf i).toNat)
    case atStart =>
      refine ⟨0, by omega, rfl, (Ext.refl _ _).drew, ?_⟩
      have : (fun q => if k * 8 ≤ q ∧ q < k * 8 + 0 then 0 else wd q) = wd := by funext q; rw [if_neg (by omega)]
      rw [this]
      exact H1.out
    case round =>
      obtain ⟨j, hj, rfl, hx, hR⟩ := hrel
      by_cases hlt : j < 8
      · have hS := hR.setWord k j 0
        have ok : okW (N * E) (k : Int) (j : Int) = true := by unfold okW; rw [E1.out]; simp [hasF]; omega
        unfold setW errB at hS
        rw [ok, if_pos rfl, if_pos rfl] at hS
        have CS := Lib.hid hS
        have HX := Lib.hid hx
        clear hS hR hx ok
        have hj1 : (j : Int) < 8 := by omega
        go_wp2_with (go_at_call 46; refine (CS.out).mono ?_; rintro e w' ⟨rfl, hy, hz⟩)
        go_roundw
        case rel =>
          refine ⟨j + 1, by omega, by simp, HX.out.trans hy, ?_⟩
          have : (fun q => if k * 8 ≤ q ∧ q < k * 8 + (j + 1) then 0 else wd q) = upd (fun q => if k * 8 ≤ q ∧ q < k * 8 + j then 0 else wd q) (ixW (k : Int) (j : Int)) 0 := by
            funext q
            have e3 : ixW (k : Int) (j : Int) = k * 8 + j := by simp [ixW]
            rw [e3]
            unfold upd
            by_cases hq : q = k * 8 + j
            · rw [if_pos hq, if_pos (by omega)]
            · rw [if_neg hq]
              show _ = if k * 8 ≤ q ∧ q < k * 8 + j then 0 else wd q
              by_cases h2 : k * 8 ≤ q ∧ q < k * 8 + j
              · rw [if_pos h2, if_pos (by omega)]
              · rw [if_neg h2, if_neg (by omega)]
          rw [this]
          exact hz
        case measure => simp [intOf]; omega
      · obtain rfl : j = 8 := by omega
        have HX := Lib.hid hx
        have HR := Lib.hid hR
        clear hx hR
        go_wp2
        go_ret
        exact ⟨rfl, HX.out, HR.out⟩

end
end Go.Proofs.Ytkpnmknkimlnaaa
