/-
  Walks over the reference of phys: frames and words.
-/
import Derived.Test.YtkpnmknkimlnaaaPhysE
namespace Go.Proofs.Ytkpnmknkimlnaaa
set_option linter.unusedVariables false
set_option linter.unusedSimpArgs false
open Go.RowKit
set_option maxHeartbeats 1000000
set_option maxRecDepth 10000
set_option linter.unusedSectionVars false

def hasF (n : Nat) (f : Int) : Bool := decide (0 ≤ f) && decide (f < (n : Int))

section
variable (br N E n : Nat) (f : Int) (w : World) (c0 : w.cell? ⟨br, 0, none⟩ = some (.int .i64 N)) (c1 : w.cell? ⟨br, 1, none⟩ = some (.int .i64 E)) (hm : (N : Int) * (E : Int) = (n : Int)) (hw : wrap64 (n : Int) = (n : Int))
include c0 c1 hm hw

theorem there_c : Calls Try.prog 52 #[.pointer (some ⟨br, 0, none⟩), .int .i64 f] w fun e w' => e = .returned (.bool (hasF n f)) ∧ w' = w.drew := by
  by_cases h0 : 0 ≤ f
  · by_cases h1 : f < (n : Int)
    · have hr : hasF n f = true := by simp [hasF, h0, h1]
      rw [hr]
      clear hr
      go_enter Try.func52, Try.ntmps52
      go_wp2
      go_region
      all_goals (try go_wp2)
      all_goals (go_ret; exact ⟨rfl, rfl⟩)
    · have hr : hasF n f = false := by simp [hasF, h0, h1]
      rw [hr]
      clear hr
      go_enter Try.func52, Try.ntmps52
      go_wp2
      go_region
      all_goals (try go_wp2)
      all_goals (go_ret; exact ⟨ret_bool (by simp; omega), rfl⟩)
  · have hr : hasF n f = false := by simp [hasF, h0]
    have h2 : decide (0 ≤ f) = false := by simpa using h0
    have h3 : f < 0 := by omega
    rw [hr]
    clear hr
    go_enter Try.func52, Try.ntmps52
    go_wp2
    go_region
    all_goals (try go_wp2)
    all_goals (go_ret; exact ⟨rfl, rfl⟩)

theorem rword_c (i : Int) : Calls Try.prog 69 #[.pointer (some ⟨br, 0, none⟩), .int .i64 f, .int .i64 i] w fun e w' => e = .returned (.bool (hasF n f && hasF 8 i)) ∧ w' = w.drew := by
  have C := Lib.hid (there_c br N E n f w c0 c1 hm hw)
  clear hm hw
  have hr : (hasF n f && hasF 8 i) = (hasF n f && (decide (0 ≤ i) && decide (i < 8))) := rfl
  rw [hr]
  generalize hasF n f = b at *
  clear hr
  cases b
  · go_enter Try.func69, Try.ntmps69
    go_wp2_with (go_at_call 52; refine (C.out).mono ?_; rintro e w' ⟨rfl, rfl⟩)
    go_ret
    exact ⟨rfl, rfl⟩
  · by_cases h0 : 0 ≤ i
    · go_enter Try.func69, Try.ntmps69
      go_wp2_with (go_at_call 52; refine (C.out).mono ?_; rintro e w' ⟨rfl, rfl⟩)
      go_ret
      exact ⟨ret_bool (by simp [h0]), rfl⟩
    · have h3 : i < 0 := by omega
      have h2 : decide (0 ≤ i) = false := by simpa using h0
      go_enter Try.func69, Try.ntmps69
      go_wp2_with (go_at_call 52; refine (C.out).mono ?_; rintro e w' ⟨rfl, rfl⟩)
      go_ret
      exact ⟨ret_bool (by simp; intro; omega), rfl⟩

theorem rnode_no (h : hasF n f = false) : Calls Try.prog 55 #[.pointer (some ⟨br, 0, none⟩), .int .i64 f] w fun e w' => e = .returned (.tuple #[.int .i64 0, .int .i64 1]) ∧ w' = w.drew := by
  have C := Lib.hid (there_c br N E n f w c0 c1 hm hw)
  rw [h] at C
  clear hm hw h
  go_enter Try.func55, Try.ntmps55
  go_wp2_with (go_at_call 52; refine (C.out).mono ?_; rintro e w' ⟨rfl, rfl⟩)
  go_ret2
  exact ⟨rfl, rfl⟩
theorem rwrd_no (i : Int) (h : (hasF n f && hasF 8 i) = false) : Calls Try.prog 53 #[.pointer (some ⟨br, 0, none⟩), .int .i64 f, .int .i64 i] w fun e w' => e = .returned (.tuple #[.int .u64 0, .int .i64 1]) ∧ w' = w.drew := by
  have C := Lib.hid (rword_c br N E n f w c0 c1 hm hw i)
  rw [h] at C
  clear hm hw h
  go_enter Try.func53, Try.ntmps53
  go_wp2_with (go_at_call 69; refine (C.out).mono ?_; rintro e w' ⟨rfl, rfl⟩)
  go_ret2
  exact ⟨rfl, rfl⟩
theorem rsetWord_no (i v : Int) (h : (hasF n f && hasF 8 i) = false) : Calls Try.prog 46 #[.pointer (some ⟨br, 0, none⟩), .int .i64 f, .int .i64 i, .int .u64 v] w fun e w' => e = .returned (.int .i64 1) ∧ w' = w.drew := by
  have C := Lib.hid (rword_c br N E n f w c0 c1 hm hw i)
  rw [h] at C
  clear hm hw h
  go_enter Try.func46, Try.ntmps46
  go_wp2_with (go_at_call 69; refine (C.out).mono ?_; rintro e w' ⟨rfl, rfl⟩)
  go_ret
  exact ⟨rfl, rfl⟩
end

section
variable (br N E n k : Nat) (w : World) (c0 : w.cell? ⟨br, 0, none⟩ = some (.int .i64 N)) (c1 : w.cell? ⟨br, 1, none⟩ = some (.int .i64 E)) (hm : (N : Int) * (E : Int) = (n : Int)) (hw : wrap64 (n : Int) = (n : Int)) (hk : k < n) (hn : n ≤ 8192)
include c0 c1 hm hw hk hn

theorem rnode_is (hE : 0 < E) : Calls Try.prog 55 #[.pointer (some ⟨br, 0, none⟩), .int .i64 k] w fun e w' => e = .returned (.tuple #[.int .i64 (wrap64 ((k : Int) / (E : Int))), .int .i64 0]) ∧ w' = w.drew := by
  have C := Lib.hid (there_c br N E n k w c0 c1 hm hw)
  have h : hasF n (k : Int) = true := by simp [hasF]; omega
  have hz : ¬ ((E : Int) = 0) := by omega
  rw [h] at C
  clear hm hw h
  go_enter Try.func55, Try.ntmps55
  go_wp2_with (go_at_call 52; refine (C.out).mono ?_; rintro e w' ⟨rfl, rfl⟩)
  go_ret2
  exact ⟨rfl, rfl⟩
theorem rwrd_is (i : Nat) (hi : i < 8) (bw m : Nat) (c2 : w.cell? ⟨br, 2, none⟩ = some (.slice (some ⟨bw, 0, none⟩) m m)) (hmm : n * 8 ≤ m) (v : Int) (c : w.cell? ⟨bw, k * 8 + i, none⟩ = some (.int .u64 v)) :
    Calls Try.prog 53 #[.pointer (some ⟨br, 0, none⟩), .int .i64 k, .int .i64 i] w fun e w' => e = .returned (.tuple #[.int .u64 v, .int .i64 0]) ∧ w' = w.drew := by
  have C := Lib.hid (rword_c br N E n k w c0 c1 hm hw i)
  have h : (hasF n (k : Int) && hasF 8 (i : Int)) = true := by simp [hasF]; omega
  have hs : (k : Int) * 8 + (i : Int) = ((k * 8 + i : Nat) : Int) := by simp
  have hlt : k * 8 + i < m := by omega
  rw [h] at C
  clear hm hw h
  generalize k * 8 + i = q at *
  go_enter Try.func53, Try.ntmps53
  go_wp2_with (go_at_call 69; refine (C.out).mono ?_; rintro e w' ⟨rfl, rfl⟩)
  go_ret2
  exact ⟨rfl, rfl⟩
theorem rsetWord_is (i : Nat) (hi : i < 8) (bw m : Nat) (c2 : w.cell? ⟨br, 2, none⟩ = some (.slice (some ⟨bw, 0, none⟩) m m)) (hmm : n * 8 ≤ m) (v : Int) (x : Value) (c : w.cell? ⟨bw, k * 8 + i, none⟩ = some x) (fr : w.frozen? ⟨bw, k * 8 + i, none⟩ = false) :
    Calls Try.prog 46 #[.pointer (some ⟨br, 0, none⟩), .int .i64 k, .int .i64 i, .int .u64 v] w fun e w' => e = .returned (.int .i64 0) ∧ w' = w.drew.setCell ⟨bw, k * 8 + i, none⟩ (.int .u64 v) := by
  have C := Lib.hid (rword_c br N E n k w c0 c1 hm hw i)
  have h : (hasF n (k : Int) && hasF 8 (i : Int)) = true := by simp [hasF]; omega
  have hs : (k : Int) * 8 + (i : Int) = ((k * 8 + i : Nat) : Int) := by simp
  have hlt : k * 8 + i < m := by omega
  rw [h] at C
  clear hm hw h
  generalize k * 8 + i = q at *
  go_enter Try.func46, Try.ntmps46
  go_wp2_with (go_at_call 69; refine (C.out).mono ?_; rintro e w' ⟨rfl, rfl⟩)
  go_ret
  exact ⟨rfl, rfl⟩
end

/-! The reference's memory in whole. -/
def ownF (kd nd : Nat → Int) : Nat → Value := fun k => if k % 2 = 0 then .int .i64 (kd (k / 2)) else .int .i64 (nd (k / 2))

structure RefIs (w : World) (br bw bo N E : Nat) (wd kd nd : Nat → Int) : Prop where
  hN : 1 ≤ N ∧ N ≤ 8
  hE : 1 ≤ E ∧ E ≤ 1024
  d1 : br ≠ bw
  d2 : br ≠ bo
  d3 : bw ≠ bo
  head : Blk w br [.int .i64 N, .int .i64 E, .slice (some ⟨bw, 0, none⟩) (N * E * 8) (N * E * 8), .slice (some ⟨bo, 0, none⟩) (N * E) (N * E)] 50
  words : Cells w bw (N * E * 8) (fun k => .int .u64 (wd k))
  owns : Cells w bo (N * E * 2) (ownF kd nd)

theorem RefIs.ext {w w' : World} {br bw bo N E : Nat} {wd kd nd : Nat → Int} {M : List Nat} (h : RefIs w br bw bo N E wd kd nd) (e : Ext M w w') (h1 : br ∉ M) (h2 : bw ∉ M) (h3 : bo ∉ M) : RefIs w' br bw bo N E wd kd nd :=
  ⟨h.hN, h.hE, h.d1, h.d2, h.d3, h.head.ext e h1, h.words.ext e h2, h.owns.ext e h3⟩

def okW (n : Nat) (f i : Int) : Bool := hasF n f && hasF 8 i
def ixW (f i : Int) : Nat := f.toNat * 8 + i.toNat
def errB (b : Bool) : Int := if b then 0 else 1
def getW (n : Nat) (wd : Nat → Int) (f i : Int) : Value := if okW n f i then .tuple #[.int .u64 (wd (ixW f i)), .int .i64 0] else .tuple #[.int .u64 0, .int .i64 1]
def setW (n : Nat) (wd : Nat → Int) (f i v : Int) : Nat → Int := if okW n f i then upd wd (ixW f i) v else wd

theorem hasF_nat {n : Nat} {f : Int} (h : hasF n f = true) : ∃ k : Nat, f = k ∧ k < n := by
  simp [hasF] at h
  exact ⟨f.toNat, by omega, by omega⟩

section
variable {br bw bo N E : Nat} {wd kd nd : Nat → Int} {w : World} (h : RefIs w br bw bo N E wd kd nd)
include h
theorem RefIs.mul : (N : Int) * (E : Int) = ((N * E : Nat) : Int) ∧ wrap64 ((N * E : Nat) : Int) = ((N * E : Nat) : Int) ∧ N * E ≤ 8192 := by
  have hle : N * E ≤ 8 * 1024 := Nat.mul_le_mul h.hN.2 h.hE.2
  exact ⟨by simp, wrap64_of (by omega) (by omega), by omega⟩

theorem RefIs.word (f i : Int) : Calls Try.prog 53 #[.pointer (some ⟨br, 0, none⟩), .int .i64 f, .int .i64 i] w fun e w' => e = .returned (getW (N * E) wd f i) ∧ w' = w.drew := by
  obtain ⟨hm, hw, hn⟩ := h.mul
  unfold getW okW
  cases hh : hasF (N * E) f && hasF 8 i
  · exact rwrd_no br N E (N * E) f w (h.head.cell 0) (h.head.cell 1) hm hw i hh
  · simp only [Bool.and_eq_true] at hh
    obtain ⟨k, rfl, hk⟩ := hasF_nat hh.1
    obtain ⟨j, rfl, hj⟩ := hasF_nat hh.2
    exact rwrd_is br N E (N * E) k w (h.head.cell 0) (h.head.cell 1) hm hw hk hn j hj bw _ (h.head.cell 2) (Nat.le_refl _) _ (h.words.cell (by omega))

theorem RefIs.setWord (f i v : Int) : Calls Try.prog 46 #[.pointer (some ⟨br, 0, none⟩), .int .i64 f, .int .i64 i, .int .u64 v] w fun e w' => e = .returned (.int .i64 (errB (okW (N * E) f i))) ∧ Ext [bw] w w' ∧ RefIs w' br bw bo N E (setW (N * E) wd f i v) kd nd := by
  obtain ⟨hm, hw, hn⟩ := h.mul
  unfold errB setW okW
  cases hh : hasF (N * E) f && hasF 8 i
  · refine (rsetWord_no br N E (N * E) f w (h.head.cell 0) (h.head.cell 1) hm hw i v hh).mono ?_
    rintro e w' ⟨rfl, rfl⟩
    exact ⟨rfl, (Ext.refl _ _).drew, h.ext (Ext.refl [] w).drew (by simp) (by simp) (by simp)⟩
  · simp only [Bool.and_eq_true] at hh
    obtain ⟨k, rfl, hk⟩ := hasF_nat hh.1
    obtain ⟨j, rfl, hj⟩ := hasF_nat hh.2
    refine (rsetWord_is br N E (N * E) k w (h.head.cell 0) (h.head.cell 1) hm hw hk hn j hj bw _ (h.head.cell 2) (Nat.le_refl _) v _ (h.words.cell (by omega)) (h.words.fr (by omega))).mono ?_
    rintro e w' ⟨rfl, rfl⟩
    have hx : Ext [bw] w (w.drew.setCell ⟨bw, k * 8 + j, none⟩ (.int .u64 v)) := (Ext.refl _ _).drew.setCell _ _ (.inl (by simp))
    refine ⟨rfl, hx, ⟨h.hN, h.hE, h.d1, h.d2, h.d3, h.head.ext hx (by simp [h.d1]), (h.words.drew.set (j := k * 8 + j) (by omega) (.int .u64 v)).congr ?_, h.owns.ext hx (by simp [h.d3.symm])⟩⟩
    intro q hq
    show upd _ _ _ q = Value.int .u64 (upd wd (k * 8 + j) v q)
    unfold upd
    split <;> rfl
end

end Go.Proofs.Ytkpnmknkimlnaaa
