/-
  Walks over package addr and its reference: pages, bases, entries, ranges.
-/
import Derived.Test.YtemmoabhlfbfcaaAddrA
namespace Go.Proofs.Ytemmoabhlfbfcaa
set_option linter.unusedVariables false
set_option linter.unusedSimpArgs false
open Go.RowKit
set_option maxHeartbeats 400000

def isPg (a : Int) : Prop := 0 ≤ a ∧ a < 4096
instance (a : Int) : Decidable (isPg a) := inferInstanceAs (Decidable (_ ∧ _))

theorem page_ok (a : Int) (w : World) (h0 : 0 ≤ a) (h1 : a < 262144) : Calls Try.prog 32 #[.int .i64 a] w fun e w' => e = .returned (.tuple #[.int .i64 (a / 64), .int .i64 (a % 64), .int .i64 0]) ∧ w = w' := by
  go_enter Try.func32, Try.ntmps32
  go_wp2
  go_ret3
  exact ⟨rfl, rfl⟩
theorem page_no (a : Int) (w : World) (h : a < 0 ∨ 262144 ≤ a) : Calls Try.prog 32 #[.int .i64 a] w fun e w' => e = .returned (.tuple #[.int .i64 0, .int .i64 0, .int .i64 1]) ∧ w = w' := by
  go_enter Try.func32, Try.ntmps32
  rcases h with h | h
  · go_wp2
    go_ret3
    exact ⟨rfl, rfl⟩
  · have h0 : 0 ≤ a := by omega
    go_wp2
    go_ret3
    exact ⟨rfl, rfl⟩
def pageS (a : Int) : Value := if 0 ≤ a ∧ a < 262144 then .tuple #[.int .i64 (a / 64), .int .i64 (a % 64), .int .i64 0] else .tuple #[.int .i64 0, .int .i64 0, .int .i64 1]
theorem page_c (a : Int) (w : World) : Calls Try.prog 32 #[.int .i64 a] w fun e w' => e = .returned (pageS a) ∧ w = w' := by
  unfold pageS
  by_cases h : 0 ≤ a ∧ a < 262144
  · rw [if_pos h]; exact page_ok a w h.1 h.2
  · rw [if_neg h]; exact page_no a w (by omega)

/-- page, n: may the range be? -/
def rangeS (page n : Int) : Int := if isPg page ∧ 1 ≤ n ∧ n ≤ 4096 - page then 0 else 1
theorem range_c (page n : Int) (w : World) : Calls Try.prog 21 #[.int .i64 page, .int .i64 n] w fun e w' => e = .returned (.int .i64 (rangeS page n)) ∧ w = w' := by
  unfold rangeS
  by_cases h : isPg page
  · obtain ⟨h0, h1⟩ := h
    by_cases h2 : 1 ≤ n
    · by_cases h3 : n ≤ 4096 - page
      · rw [if_pos ⟨⟨h0, h1⟩, h2, h3⟩]
        go_enter Try.func21, Try.ntmps21
        go_wp2
        go_ret; exact ⟨rfl, rfl⟩
      · rw [if_neg (by omega)]
        go_enter Try.func21, Try.ntmps21
        go_wp2
        go_ret; exact ⟨rfl, rfl⟩
    · rw [if_neg (by omega)]
      go_enter Try.func21, Try.ntmps21
      go_wp2
      go_ret; exact ⟨rfl, rfl⟩
  · rw [if_neg (fun h' => h h'.1)]
    unfold isPg at h
    by_cases h0 : 0 ≤ page
    · have h1 : 4096 ≤ page := by omega
      go_enter Try.func21, Try.ntmps21
      go_wp2
      go_ret; exact ⟨rfl, rfl⟩
    · go_enter Try.func21, Try.ntmps21
      go_wp2
      go_ret; exact ⟨rfl, rfl⟩
theorem rrange_c (page n : Int) (w : World) : Calls Try.prog 22 #[.int .i64 page, .int .i64 n] w fun e w' => e = .returned (.int .i64 (rangeS page n)) ∧ w = w' := by
  unfold rangeS
  by_cases h : isPg page
  · obtain ⟨h0, h1⟩ := h
    by_cases h2 : 1 ≤ n
    · by_cases h3 : n ≤ 4096 - page
      · rw [if_pos ⟨⟨h0, h1⟩, h2, h3⟩]
        go_enter Try.func22, Try.ntmps22
        go_wp2
        go_ret; exact ⟨rfl, rfl⟩
      · rw [if_neg (by omega)]
        go_enter Try.func22, Try.ntmps22
        go_wp2
        go_ret; exact ⟨rfl, rfl⟩
    · rw [if_neg (by omega)]
      go_enter Try.func22, Try.ntmps22
      go_wp2
      go_ret; exact ⟨rfl, rfl⟩
  · rw [if_neg (fun h' => h h'.1)]
    unfold isPg at h
    by_cases h0 : 0 ≤ page
    · have h1 : 4096 ≤ page := by omega
      go_enter Try.func22, Try.ntmps22
      go_wp2
      go_ret; exact ⟨rfl, rfl⟩
    · go_enter Try.func22, Try.ntmps22
      go_wp2
      go_ret; exact ⟨rfl, rfl⟩

theorem awake_c (w : World) : Calls Try.prog 20 #[] w fun e w' => e = .returned (.bool true) ∧ Ext [] w w' := by
  have hn : (upto (bitB 5) 8).length = 2 := by decide +kernel
  have Hn := Lib.hid hn
  clear hn
  go_enter Try.func20, Try.ntmps20
  go_wp2_with (first
    | (go_at_call 32; refine (page_ok _ _ (by omega) (by omega)).mono ?_; rintro e w' ⟨rfl, rfl⟩)
    | (go_at_call 19; refine (count_c _ _).mono ?_; rintro e w' ⟨rfl, hx⟩; rw [Hn.out]))
  go_ret
  exact ⟨rfl, hx⟩

theorem addrRanges_c (page n : Int) (w : World) : Calls Try.prog 4 #[.int .i64 page, .int .i64 n] w fun e w' => e = .returned (.bool true) ∧ Ext [] w w' := by
  go_enter Try.func4, Try.ntmps4
  go_wp2_with (first
    | (go_at_call 21; refine (range_c _ _ _).mono ?_; rintro e w' ⟨rfl, rfl⟩)
    | (go_at_call 22; refine (rrange_c _ _ _).mono ?_; rintro e w' ⟨rfl, rfl⟩)
    | (go_at_call 20; refine (awake_c _).mono ?_; rintro e w' ⟨rfl, hx⟩))
  go_ret
  exact ⟨rfl, hx⟩

end Go.Proofs.Ytemmoabhlfbfcaa
