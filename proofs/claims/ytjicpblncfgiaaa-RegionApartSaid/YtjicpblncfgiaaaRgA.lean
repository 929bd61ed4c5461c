/-
  Region: ranges, masks, permissions and policies that may be, in the program and in the reference.
-/
import Derived.Test.YtjicpblncfgiaaaRgT
namespace Go.Proofs.Ytjicpblncfgiaaa
set_option linter.unusedVariables false
set_option linter.unusedSimpArgs false
open Go.RowKit
set_option maxHeartbeats 1000000
set_option maxRecDepth 10000
set_option linter.unusedVariables false
set_option linter.unusedSimpArgs false

def isPg (a : Int) : Prop := 0 ≤ a ∧ a < 4096
instance (a : Int) : Decidable (isPg a) := inferInstanceAs (Decidable (_ ∧ _))

/-- page, n: may the range be? -/
def rangeS (page n : Int) : Int := if isPg page ∧ 1 ≤ n ∧ n ≤ 4096 - page then 0 else 1
theorem range_c (page n : Int) (w : World) : Calls Try.prog 46 #[.int .i64 page, .int .i64 n] w fun e w' => e = .returned (.int .i64 (rangeS page n)) ∧ w = w' := by
  unfold rangeS
  by_cases h : isPg page
  · obtain ⟨h0, h1⟩ := h
    by_cases h2 : 1 ≤ n
    · by_cases h3 : n ≤ 4096 - page
      · rw [if_pos ⟨⟨h0, h1⟩, h2, h3⟩]
        go_enter Try.func46, Try.ntmps46
        go_wp2
        go_ret; exact ⟨rfl, rfl⟩
      · rw [if_neg (by omega)]
        go_enter Try.func46, Try.ntmps46
        go_wp2
        go_ret; exact ⟨rfl, rfl⟩
    · rw [if_neg (by omega)]
      go_enter Try.func46, Try.ntmps46
      go_wp2
      go_ret; exact ⟨rfl, rfl⟩
  · rw [if_neg (fun h' => h h'.1)]
    unfold isPg at h
    by_cases h0 : 0 ≤ page
    · have h1 : 4096 ≤ page := by omega
      go_enter Try.func46, Try.ntmps46
      go_wp2
      go_ret; exact ⟨rfl, rfl⟩
    · go_enter Try.func46, Try.ntmps46
      go_wp2
      go_ret; exact ⟨rfl, rfl⟩
theorem rrange_c (page n : Int) (w : World) : Calls Try.prog 54 #[.int .i64 page, .int .i64 n] w fun e w' => e = .returned (.int .i64 (rangeS page n)) ∧ w = w' := by
  unfold rangeS
  by_cases h : isPg page
  · obtain ⟨h0, h1⟩ := h
    by_cases h2 : 1 ≤ n
    · by_cases h3 : n ≤ 4096 - page
      · rw [if_pos ⟨⟨h0, h1⟩, h2, h3⟩]
        go_enter Try.func54, Try.ntmps54
        go_wp2
        go_ret; exact ⟨rfl, rfl⟩
      · rw [if_neg (by omega)]
        go_enter Try.func54, Try.ntmps54
        go_wp2
        go_ret; exact ⟨rfl, rfl⟩
    · rw [if_neg (by omega)]
      go_enter Try.func54, Try.ntmps54
      go_wp2
      go_ret; exact ⟨rfl, rfl⟩
  · rw [if_neg (fun h' => h h'.1)]
    unfold isPg at h
    by_cases h0 : 0 ≤ page
    · have h1 : 4096 ≤ page := by omega
      go_enter Try.func54, Try.ntmps54
      go_wp2
      go_ret; exact ⟨rfl, rfl⟩
    · go_enter Try.func54, Try.ntmps54
      go_wp2
      go_ret; exact ⟨rfl, rfl⟩

def maskS (mask nodes : Int) : Int := if 1 ≤ nodes ∧ nodes ≤ 8 ∧ 1 ≤ mask ∧ mask < 2 ^ nodes.toNat then 0 else 1

theorem maskS_yes {mask : Int} {n : Nat} (h1 : 1 ≤ n) (h2 : n ≤ 8) (h3 : 1 ≤ mask) (h4 : mask < 2 ^ n) : maskS mask n = 0 := by unfold maskS; rw [if_pos ⟨by omega, by omega, h3, by simpa using h4⟩]
theorem maskS_no {mask : Int} {n : Nat} (h4 : ¬ mask < 2 ^ n) : maskS mask n = 1 := by unfold maskS; rw [if_neg (fun h => h4 (by simpa using h.2.2.2))]

theorem mask_c (mask nodes : Int) (w : World) : Calls Try.prog 69 #[.int .i64 mask, .int .i64 nodes] w fun e w' => e = .returned (.int .i64 (maskS mask nodes)) ∧ w = w' := by
  by_cases h1 : 1 ≤ nodes
  · obtain ⟨n, rfl⟩ := Int.eq_ofNat_of_zero_le (a := nodes) (by omega)
    by_cases h2 : (n : Int) ≤ 8
    · by_cases h3 : 1 ≤ mask
      · by_cases h4 : mask < 2 ^ n
        · rw [maskS_yes (by omega) (by omega) h3 h4]
          have hq : (mask / 2 ^ n != 0) = false := by rw [Int.ediv_eq_zero_of_lt (by omega) h4]; rfl
          clear h4
          go_enter Try.func69, Try.ntmps69
          go_wp2
          go_ret; exact ⟨rfl, rfl⟩
        · rw [maskS_no h4]
          have hq : (mask / 2 ^ n != 0) = true := by
            rw [bne_iff_ne]; intro h
            have hp : (0 : Int) < 2 ^ n := Int.pow_pos (by decide)
            have h5 := Int.lt_ediv_add_one_mul_self mask hp
            rw [h] at h5; omega
          clear h4
          go_enter Try.func69, Try.ntmps69
          go_wp2
          go_ret; exact ⟨rfl, rfl⟩
      · rw [show maskS mask n = 1 by unfold maskS; rw [if_neg (by omega)]]
        go_enter Try.func69, Try.ntmps69
        go_wp2
        go_ret; exact ⟨rfl, rfl⟩
    · rw [show maskS mask n = 1 by unfold maskS; rw [if_neg (by omega)]]
      go_enter Try.func69, Try.ntmps69
      go_wp2
      go_ret; exact ⟨rfl, rfl⟩
  · rw [show maskS mask nodes = 1 by unfold maskS; rw [if_neg (by omega)]]
    go_enter Try.func69, Try.ntmps69
    go_wp2
    go_ret; exact ⟨rfl, rfl⟩

theorem rmask_c (mask nodes : Int) (w : World) : Calls Try.prog 72 #[.int .i64 mask, .int .i64 nodes] w fun e w' => e = .returned (.int .i64 (maskS mask nodes)) ∧ w = w' := by
  by_cases h1 : 1 ≤ nodes
  · by_cases h2 : nodes ≤ 8
    · by_cases h3 : 1 ≤ mask
      · obtain ⟨n, rfl⟩ := Int.eq_ofNat_of_zero_le (a := nodes) (by omega)
        have hn : n = 1 ∨ n = 2 ∨ n = 3 ∨ n = 4 ∨ n = 5 ∨ n = 6 ∨ n = 7 ∨ n = 8 := by omega
        by_cases h4 : mask < 2 ^ n
        · rw [maskS_yes (by omega) (by omega) h3 h4]
          clear h1 h2
          rcases hn with rfl | rfl | rfl | rfl | rfl | rfl | rfl | rfl <;>
          · simp at h4
            go_enter Try.func72, Try.ntmps72
            go_wp2
            go_ret; exact ⟨rfl, rfl⟩
        · rw [maskS_no h4]
          clear h1 h2
          rcases hn with rfl | rfl | rfl | rfl | rfl | rfl | rfl | rfl <;>
          · simp at h4
            go_enter Try.func72, Try.ntmps72
            go_wp2
            go_ret; exact ⟨rfl, rfl⟩
      · rw [show maskS mask nodes = 1 by unfold maskS; rw [if_neg (by omega)]]
        go_enter Try.func72, Try.ntmps72
        go_wp2
        go_ret; exact ⟨rfl, rfl⟩
    · rw [show maskS mask nodes = 1 by unfold maskS; rw [if_neg (by omega)]]
      go_enter Try.func72, Try.ntmps72
      go_wp2
      go_ret; exact ⟨rfl, rfl⟩
  · rw [show maskS mask nodes = 1 by unfold maskS; rw [if_neg (by omega)]]
    go_enter Try.func72, Try.ntmps72
    go_wp2
    go_ret; exact ⟨rfl, rfl⟩


/-- May a policy be? -/
def polB (pk pn nodes : Int) : Bool := if pk = 0 then pn == 0 else if 1 ≤ pk ∧ pk ≤ 3 then maskS pn nodes == 0 else false
theorem policy_c (pk pn nodes : Int) (w : World) : Calls Try.prog 47 #[.agg #[.int .i64 pk, .int .i64 pn], .int .i64 nodes] w fun e w' => e = .returned (.bool (polB pk pn nodes)) ∧ Ext [] w w' := by
  have b := Blk.new w [.int .i64 pk, .int .i64 pn] 35
  have b0 := b.cell 0
  have b1 := b.cell 1
  have C := Lib.hid (fun w => mask_c pn nodes w)
  have hx : Ext [] w (w.alloc (.cells #[.int .i64 pk, .int .i64 pn] 35)) := (Ext.refl _ _).alloc _
  have HX := Lib.hid hx
  clear b hx
  unfold polB
  by_cases h0 : pk = 0
  · subst h0
    rw [if_pos rfl]
    go_enter Try.func47, Try.ntmps47
    go_wp2
    go_ret
    exact ⟨rfl, HX.out⟩
  · rw [if_neg h0]
    have e0 : (pk == 0) = false := by simpa using h0
    by_cases h1 : 1 ≤ pk
    · by_cases h3 : pk ≤ 3
      · rw [if_pos ⟨h1, h3⟩]
        generalize maskS pn nodes = m at *
        clear h0
        go_enter Try.func47, Try.ntmps47
        go_wp2_with (go_at_call 69; refine (C.out _).mono ?_; rintro e w' ⟨rfl, rfl⟩)
        go_ret
        exact ⟨rfl, HX.out⟩
      · rw [if_neg (by omega)]
        clear h0
        go_enter Try.func47, Try.ntmps47
        go_wp2
        go_ret
        exact ⟨rfl, HX.out⟩
    · rw [if_neg (by omega)]
      clear h0
      go_enter Try.func47, Try.ntmps47
      go_wp2
      go_ret
      exact ⟨rfl, HX.out⟩
theorem rpolicy_c (pk pn nodes : Int) (w : World) : Calls Try.prog 56 #[.agg #[.int .i64 pk, .int .i64 pn], .int .i64 nodes] w fun e w' => e = .returned (.bool (polB pk pn nodes)) ∧ Ext [] w w' := by
  have b := Blk.new w [.int .i64 pk, .int .i64 pn] 35
  have b0 := b.cell 0
  have b1 := b.cell 1
  have C := Lib.hid (fun w => rmask_c pn nodes w)
  have hx : Ext [] w (w.alloc (.cells #[.int .i64 pk, .int .i64 pn] 35)) := (Ext.refl _ _).alloc _
  have HX := Lib.hid hx
  clear b hx
  unfold polB
  by_cases h0 : pk = 0
  · subst h0
    rw [if_pos rfl]
    go_enter Try.func56, Try.ntmps56
    go_wp2
    go_ret
    exact ⟨rfl, HX.out⟩
  · rw [if_neg h0]
    have e0 : (pk == 0) = false := by simpa using h0
    by_cases h1 : 1 ≤ pk
    · by_cases h3 : pk ≤ 3
      · rw [if_pos ⟨h1, h3⟩]
        generalize maskS pn nodes = m at *
        clear h0
        go_enter Try.func56, Try.ntmps56
        go_wp2_with (go_at_call 72; refine (C.out _).mono ?_; rintro e w' ⟨rfl, rfl⟩)
        go_ret
        exact ⟨rfl, HX.out⟩
      · rw [if_neg (by omega)]
        clear h0
        go_enter Try.func56, Try.ntmps56
        go_wp2
        go_ret
        exact ⟨rfl, HX.out⟩
    · rw [if_neg (by omega)]
      clear h0
      go_enter Try.func56, Try.ntmps56
      go_wp2
      go_ret
      exact ⟨rfl, HX.out⟩
/-- May a permission be? -/
def permB (p : Int) : Bool := p == 0 || (p == 1 || p == 3)
theorem permB_cases (p : Int) : (p = 0 ∨ p = 1 ∨ p = 3) ∧ permB p = true ∨ ((p == 0) = false ∧ (p == 1) = false ∧ (p == 3) = false) ∧ permB p = false := by
  by_cases h0 : p = 0
  · exact .inl ⟨.inl h0, by subst h0; rfl⟩
  · by_cases h1 : p = 1
    · exact .inl ⟨.inr (.inl h1), by subst h1; rfl⟩
    · by_cases h3 : p = 3
      · exact .inl ⟨.inr (.inr h3), by subst h3; rfl⟩
      · exact .inr ⟨⟨by simpa using h0, by simpa using h1, by simpa using h3⟩, by simp [permB, h0, h1, h3]⟩
theorem rperm_c (p : Int) (w : World) : Calls Try.prog 55 #[.int .i64 p] w fun e w' => e = .returned (.bool (permB p)) ∧ w = w' := by
  rcases permB_cases p with ⟨h, e⟩ | ⟨⟨h0, h1, h3⟩, e⟩
  · rw [e]
    rcases h with rfl | rfl | rfl
    all_goals
      go_enter Try.func55, Try.ntmps55
      go_wp2
      go_ret
      exact ⟨rfl, rfl⟩
  · rw [e]
    go_enter Try.func55, Try.ntmps55
    go_wp2
    go_ret
    exact ⟨rfl, rfl⟩

end Go.Proofs.Ytjicpblncfgiaaa
