/-
  Walks over package addr and its reference: bases, huge pages, entries of each level; the laws AddrPages, AddrWhole.
-/
import Derived.Test.YtemmoabhlfbfcaaAddrB
namespace Go.Proofs.Ytemmoabhlfbfcaa
set_option linter.unusedVariables false
set_option linter.unusedSimpArgs false
open Go.RowKit
set_option maxHeartbeats 400000

def two (x e : Int) : Value := .tuple #[.int .i64 x, .int .i64 e]
def baseS (a : Int) : Value := if 0 ≤ a ∧ a < 4096 then two (a * 64) 0 else two 0 1
theorem base_c (a : Int) (w : World) : Calls Try.prog 33 #[.int .i64 a] w fun e w' => e = .returned (baseS a) ∧ w = w' := by
  unfold baseS two
  by_cases h0 : 0 ≤ a
  · by_cases h1 : a < 4096
    · rw [if_pos ⟨h0, h1⟩]
      go_enter Try.func33, Try.ntmps33
      go_wp2
      go_ret2; exact ⟨rfl, rfl⟩
    · rw [if_neg (by omega)]
      go_enter Try.func33, Try.ntmps33
      go_wp2
      go_ret2; exact ⟨rfl, rfl⟩
  · rw [if_neg (by omega)]
    go_enter Try.func33, Try.ntmps33
    go_wp2
    go_ret2; exact ⟨rfl, rfl⟩
theorem rbase_c (a : Int) (w : World) : Calls Try.prog 41 #[.int .i64 a] w fun e w' => e = .returned (baseS a) ∧ w = w' := by
  unfold baseS two
  by_cases h0 : 0 ≤ a
  · by_cases h1 : a < 4096
    · rw [if_pos ⟨h0, h1⟩]
      go_enter Try.func41, Try.ntmps41
      go_wp2
      go_ret2; exact ⟨rfl, rfl⟩
    · rw [if_neg (by omega)]
      go_enter Try.func41, Try.ntmps41
      go_wp2
      go_ret2; exact ⟨rfl, rfl⟩
  · rw [if_neg (by omega)]
    go_enter Try.func41, Try.ntmps41
    go_wp2
    go_ret2; exact ⟨rfl, rfl⟩
def hugeS (a : Int) : Value := if 0 ≤ a ∧ a < 4096 then two (a - a % 8) 0 else two 0 1
theorem huge_c (a : Int) (w : World) : Calls Try.prog 43 #[.int .i64 a] w fun e w' => e = .returned (hugeS a) ∧ w = w' := by
  unfold hugeS two
  by_cases h0 : 0 ≤ a
  · by_cases h1 : a < 4096
    · rw [if_pos ⟨h0, h1⟩]
      go_enter Try.func43, Try.ntmps43
      go_wp2
      go_ret2; exact ⟨rfl, rfl⟩
    · rw [if_neg (by omega)]
      go_enter Try.func43, Try.ntmps43
      go_wp2
      go_ret2; exact ⟨rfl, rfl⟩
  · rw [if_neg (by omega)]
    go_enter Try.func43, Try.ntmps43
    go_wp2
    go_ret2; exact ⟨rfl, rfl⟩
theorem rhuge_c (a : Int) (w : World) : Calls Try.prog 44 #[.int .i64 a] w fun e w' => e = .returned (hugeS a) ∧ w = w' := by
  unfold hugeS two
  by_cases h0 : 0 ≤ a
  · by_cases h1 : a < 4096
    · rw [if_pos ⟨h0, h1⟩]
      go_enter Try.func44, Try.ntmps44
      go_wp2
      go_ret2; exact ⟨rfl, rfl⟩
    · rw [if_neg (by omega)]
      go_enter Try.func44, Try.ntmps44
      go_wp2
      go_ret2; exact ⟨rfl, rfl⟩
  · rw [if_neg (by omega)]
    go_enter Try.func44, Try.ntmps44
    go_wp2
    go_ret2; exact ⟨rfl, rfl⟩
theorem rpage_c (a : Int) (w : World) : Calls Try.prog 40 #[.int .i64 a] w fun e w' => e = .returned (pageS a) ∧ w = w' := by
  unfold pageS
  by_cases h0 : 0 ≤ a
  · by_cases h1 : a < 262144
    · rw [if_pos ⟨h0, h1⟩]
      go_enter Try.func40, Try.ntmps40
      go_wp2
      go_ret3; exact ⟨rfl, rfl⟩
    · rw [if_neg (by omega)]
      go_enter Try.func40, Try.ntmps40
      go_wp2
      go_ret3; exact ⟨rfl, rfl⟩
  · rw [if_neg (by omega)]
    go_enter Try.func40, Try.ntmps40
    go_wp2
    go_ret3; exact ⟨rfl, rfl⟩

/-- page divided by 8 k times. -/
def down8 (page : Int) : Nat → Int
  | 0 => page
  | k + 1 => down8 page k / 8
theorem down8_bd (page : Int) (h0 : 0 ≤ page) (h1 : page < 4096) (k : Nat) : 0 ≤ down8 page k ∧ down8 page k < 4096 := by
  induction k with
  | zero => exact ⟨h0, h1⟩
  | succ k ih => show 0 ≤ down8 page k / 8 ∧ down8 page k / 8 < 4096; omega
def idx (page level : Int) : Int := down8 page (3 - level).toNat % 8
def indexS (page level : Int) : Value := if (0 ≤ page ∧ page < 4096) ∧ 0 ≤ level ∧ level < 4 then two (idx page level) 0 else two 0 1
theorem index_ok (page level : Int) (w : World) (h0 : 0 ≤ page) (h1 : page < 4096) (h2 : 0 ≤ level) (h3 : level < 4) :
    Calls Try.prog 34 #[.int .i64 page, .int .i64 level] w fun e w' => e = .returned (two (idx page level) 0) ∧ w = w' := by
  go_enter Try.func34, Try.ntmps34
  go_wp2
  go_loop [0, 19] (fun p i => ∃ k : Nat, (k : Int) ≤ 3 - level ∧ i = .int .i64 k ∧ p = .int .i64 (down8 page k)) (fun _ i => (3 - level).toNat - (intOf i).toNat)
  case atStart => exact ⟨0, by omega, rfl, rfl⟩
  case round =>
    obtain ⟨k, hk, rfl, rfl⟩ := hrel
    have hb := down8_bd page h0 h1 k
    by_cases hlt : (k : Int) < 3 - level
    · go_wp2
      go_round
      case rel => exact ⟨k + 1, by omega, by go_num, rfl⟩
      case measure => simp [intOf]; omega
    · have hk' : k = (3 - level).toNat := by omega
      have Hk := Lib.hid hk'
      clear hk'
      go_wp2
      go_ret2
      exact ⟨by show Ending.returned (two (down8 page k % 8) 0) = _; unfold idx; rw [← Hk.out], rfl⟩
theorem rindex_ok (page level : Int) (w : World) (h0 : 0 ≤ page) (h1 : page < 4096) (h2 : 0 ≤ level) (h3 : level < 4) :
    Calls Try.prog 42 #[.int .i64 page, .int .i64 level] w fun e w' => e = .returned (two (idx page level) 0) ∧ w = w' := by
  go_enter Try.func42, Try.ntmps42
  go_wp2
  go_loop [0, 6] (fun p i => ∃ k : Nat, (k : Int) ≤ 3 - level ∧ i = .int .i64 (level + 1 + k) ∧ p = .int .i64 (down8 page k)) (fun _ i => (4 - intOf i).toNat)
  case atStart => exact ⟨0, by omega, by simp, rfl⟩
  case round =>
    obtain ⟨k, hk, rfl, rfl⟩ := hrel
    have hb := down8_bd page h0 h1 k
    by_cases hlt : (k : Int) < 3 - level
    · go_wp2
      go_round
      case rel => exact ⟨k + 1, by omega, int_eq (by simp; omega), rfl⟩
      case measure => simp [intOf]; omega
    · have hk' : k = (3 - level).toNat := by omega
      have Hk := Lib.hid hk'
      clear hk'
      go_wp2
      go_ret2
      exact ⟨by show Ending.returned (two (down8 page k % 8) 0) = _; unfold idx; rw [← Hk.out], rfl⟩

theorem index_no (page level : Int) (w : World) (h : ¬((0 ≤ page ∧ page < 4096) ∧ 0 ≤ level ∧ level < 4)) :
    Calls Try.prog 34 #[.int .i64 page, .int .i64 level] w fun e w' => e = .returned (two 0 1) ∧ w = w' := by
  unfold two
  by_cases h0 : 0 ≤ page
  · by_cases h1 : page < 4096
    · by_cases h2 : 0 ≤ level
      · have h3 : 4 ≤ level := by omega
        go_enter Try.func34, Try.ntmps34
        go_wp2
        go_ret2; exact ⟨rfl, rfl⟩
      · go_enter Try.func34, Try.ntmps34
        go_wp2
        go_ret2; exact ⟨rfl, rfl⟩
    · go_enter Try.func34, Try.ntmps34
      go_wp2
      go_ret2; exact ⟨rfl, rfl⟩
  · go_enter Try.func34, Try.ntmps34
    go_wp2
    go_ret2; exact ⟨rfl, rfl⟩
theorem rindex_no (page level : Int) (w : World) (h : ¬((0 ≤ page ∧ page < 4096) ∧ 0 ≤ level ∧ level < 4)) :
    Calls Try.prog 42 #[.int .i64 page, .int .i64 level] w fun e w' => e = .returned (two 0 1) ∧ w = w' := by
  unfold two
  by_cases h0 : 0 ≤ page
  · by_cases h1 : page < 4096
    · by_cases h2 : 0 ≤ level
      · have h3 : 4 ≤ level := by omega
        go_enter Try.func42, Try.ntmps42
        go_wp2
        go_ret2; exact ⟨rfl, rfl⟩
      · go_enter Try.func42, Try.ntmps42
        go_wp2
        go_ret2; exact ⟨rfl, rfl⟩
    · go_enter Try.func42, Try.ntmps42
      go_wp2
      go_ret2; exact ⟨rfl, rfl⟩
  · go_enter Try.func42, Try.ntmps42
    go_wp2
    go_ret2; exact ⟨rfl, rfl⟩
theorem index_c (page level : Int) (w : World) : Calls Try.prog 34 #[.int .i64 page, .int .i64 level] w fun e w' => e = .returned (indexS page level) ∧ w = w' := by
  unfold indexS
  by_cases h : (0 ≤ page ∧ page < 4096) ∧ 0 ≤ level ∧ level < 4
  · rw [if_pos h]; exact index_ok _ _ _ h.1.1 h.1.2 h.2.1 h.2.2
  · rw [if_neg h]; exact index_no _ _ _ h
theorem rindex_c (page level : Int) (w : World) : Calls Try.prog 42 #[.int .i64 page, .int .i64 level] w fun e w' => e = .returned (indexS page level) ∧ w = w' := by
  unfold indexS
  by_cases h : (0 ≤ page ∧ page < 4096) ∧ 0 ≤ level ∧ level < 4
  · rw [if_pos h]; exact rindex_ok _ _ _ h.1.1 h.1.2 h.2.1 h.2.2
  · rw [if_neg h]; exact rindex_no _ _ _ h

/-- What these answer is a pair, or a triple, of numbers. -/
theorem pageS_form (a : Int) : ∃ x y z, pageS a = .tuple #[.int .i64 x, .int .i64 y, .int .i64 z] := by unfold pageS; split <;> exact ⟨_, _, _, rfl⟩
theorem baseS_form (a : Int) : ∃ x y, baseS a = two x y := by unfold baseS; split <;> exact ⟨_, _, rfl⟩
theorem hugeS_form (a : Int) : ∃ x y, hugeS a = two x y := by unfold hugeS; split <;> exact ⟨_, _, rfl⟩
theorem indexS_form (a b : Int) : ∃ x y, indexS a b = two x y := by unfold indexS; split <;> exact ⟨_, _, rfl⟩

theorem addrPages_c (a page level : Int) (w : World) : Calls Try.prog 11 #[.int .i64 a, .int .i64 page, .int .i64 level] w fun e w' => e = .returned (.bool true) ∧ Ext [] w w' := by
  have c1 := fun w => page_c a w
  have c2 := fun w => rpage_c a w
  have c3 := fun w => base_c page w
  have c4 := fun w => rbase_c page w
  have c5 := fun w => index_c page level w
  have c6 := fun w => rindex_c page level w
  have c7 := fun w => huge_c page w
  have c8 := fun w => rhuge_c page w
  obtain ⟨x1, y1, z1, e1⟩ := pageS_form a
  obtain ⟨x2, y2, e2⟩ := baseS_form page
  obtain ⟨x3, y3, e3⟩ := hugeS_form page
  obtain ⟨x4, y4, e4⟩ := indexS_form page level
  rw [e1] at c1 c2
  rw [e2] at c3 c4
  rw [e3] at c7 c8
  rw [e4] at c5 c6
  clear e1 e2 e3 e4
  unfold two at *
  have C1 := Lib.hid c1
  have C2 := Lib.hid c2
  have C3 := Lib.hid c3
  have C4 := Lib.hid c4
  have C5 := Lib.hid c5
  have C6 := Lib.hid c6
  have C7 := Lib.hid c7
  have C8 := Lib.hid c8
  clear c1 c2 c3 c4 c5 c6 c7 c8
  go_enter Try.func11, Try.ntmps11
  go_wp2_with (first
    | (go_at_call 32; refine (C1.out _).mono ?_; rintro e w' ⟨rfl, rfl⟩)
    | (go_at_call 40; refine (C2.out _).mono ?_; rintro e w' ⟨rfl, rfl⟩)
    | (go_at_call 33; refine (C3.out _).mono ?_; rintro e w' ⟨rfl, rfl⟩)
    | (go_at_call 41; refine (C4.out _).mono ?_; rintro e w' ⟨rfl, rfl⟩)
    | (go_at_call 34; refine (C5.out _).mono ?_; rintro e w' ⟨rfl, rfl⟩)
    | (go_at_call 42; refine (C6.out _).mono ?_; rintro e w' ⟨rfl, rfl⟩)
    | (go_at_call 43; refine (C7.out _).mono ?_; rintro e w' ⟨rfl, rfl⟩)
    | (go_at_call 44; refine (C8.out _).mono ?_; rintro e w' ⟨rfl, rfl⟩)
    | (go_at_call 20; refine (awake_c _).mono ?_; rintro e w' ⟨rfl, hx⟩))
  go_ret
  exact ⟨rfl, hx⟩

end Go.Proofs.Ytemmoabhlfbfcaa
