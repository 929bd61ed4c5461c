/-
  Walks: masks; the law AddrMasks.
-/
import Derived.Test.YtemmoabhlfbfcaaAddrH
namespace Go.Proofs.Ytemmoabhlfbfcaa
set_option linter.unusedVariables false
set_option linter.unusedSimpArgs false
open Go.RowKit
set_option maxHeartbeats 400000
set_option maxRecDepth 10000

def maskS (mask nodes : Int) : Int := if 1 ≤ nodes ∧ nodes ≤ 8 ∧ 1 ≤ mask ∧ mask < 2 ^ nodes.toNat then 0 else 1

theorem maskS_yes {mask : Int} {n : Nat} (h1 : 1 ≤ n) (h2 : n ≤ 8) (h3 : 1 ≤ mask) (h4 : mask < 2 ^ n) : maskS mask n = 0 := by unfold maskS; rw [if_pos ⟨by omega, by omega, h3, by simpa using h4⟩]
theorem maskS_no {mask : Int} {n : Nat} (h4 : ¬ mask < 2 ^ n) : maskS mask n = 1 := by unfold maskS; rw [if_neg (fun h => h4 (by simpa using h.2.2.2))]

theorem mask_c (mask nodes : Int) (w : World) : Calls Try.prog 14 #[.int .i64 mask, .int .i64 nodes] w fun e w' => e = .returned (.int .i64 (maskS mask nodes)) ∧ w = w' := by
  by_cases h1 : 1 ≤ nodes
  · obtain ⟨n, rfl⟩ := Int.eq_ofNat_of_zero_le (a := nodes) (by omega)
    by_cases h2 : (n : Int) ≤ 8
    · by_cases h3 : 1 ≤ mask
      · by_cases h4 : mask < 2 ^ n
        · rw [maskS_yes (by omega) (by omega) h3 h4]
          have hq : (mask / 2 ^ n != 0) = false := by rw [Int.ediv_eq_zero_of_lt (by omega) h4]; rfl
          clear h4
          go_enter Try.func14, Try.ntmps14
          go_wp2
          go_ret; exact ⟨rfl, rfl⟩
        · rw [maskS_no h4]
          have hq : (mask / 2 ^ n != 0) = true := by
            rw [bne_iff_ne]; intro h
            have hp : (0 : Int) < 2 ^ n := Int.pow_pos (by decide)
            have h5 := Int.lt_ediv_add_one_mul_self mask hp
            rw [h] at h5; omega
          clear h4
          go_enter Try.func14, Try.ntmps14
          go_wp2
          go_ret; exact ⟨rfl, rfl⟩
      · rw [show maskS mask n = 1 by unfold maskS; rw [if_neg (by omega)]]
        go_enter Try.func14, Try.ntmps14
        go_wp2
        go_ret; exact ⟨rfl, rfl⟩
    · rw [show maskS mask n = 1 by unfold maskS; rw [if_neg (by omega)]]
      go_enter Try.func14, Try.ntmps14
      go_wp2
      go_ret; exact ⟨rfl, rfl⟩
  · rw [show maskS mask nodes = 1 by unfold maskS; rw [if_neg (by omega)]]
    go_enter Try.func14, Try.ntmps14
    go_wp2
    go_ret; exact ⟨rfl, rfl⟩

theorem rmask_c (mask nodes : Int) (w : World) : Calls Try.prog 15 #[.int .i64 mask, .int .i64 nodes] w fun e w' => e = .returned (.int .i64 (maskS mask nodes)) ∧ w = w' := by
  by_cases h1 : 1 ≤ nodes
  · by_cases h2 : nodes ≤ 8
    · by_cases h3 : 1 ≤ mask
      · obtain ⟨n, rfl⟩ := Int.eq_ofNat_of_zero_le (a := nodes) (by omega)
        have hn : n = 1 ∨ n = 2 ∨ n = 3 ∨ n = 4 ∨ n = 5 ∨ n = 6 ∨ n = 7 ∨ n = 8 := by omega
        by_cases h4 : mask < 2 ^ n
        · rw [maskS_yes (by omega) (by omega) h3 h4]
          clear h1 h2
          rcases hn with rfl | rfl | rfl | rfl | rfl | rfl | rfl | rfl <;>
          · simp at h4
            go_enter Try.func15, Try.ntmps15
            go_wp2
            go_ret; exact ⟨rfl, rfl⟩
        · rw [maskS_no h4]
          clear h1 h2
          rcases hn with rfl | rfl | rfl | rfl | rfl | rfl | rfl | rfl <;>
          · simp at h4
            go_enter Try.func15, Try.ntmps15
            go_wp2
            go_ret; exact ⟨rfl, rfl⟩
      · rw [show maskS mask nodes = 1 by unfold maskS; rw [if_neg (by omega)]]
        go_enter Try.func15, Try.ntmps15
        go_wp2
        go_ret; exact ⟨rfl, rfl⟩
    · rw [show maskS mask nodes = 1 by unfold maskS; rw [if_neg (by omega)]]
      go_enter Try.func15, Try.ntmps15
      go_wp2
      go_ret; exact ⟨rfl, rfl⟩
  · rw [show maskS mask nodes = 1 by unfold maskS; rw [if_neg (by omega)]]
    go_enter Try.func15, Try.ntmps15
    go_wp2
    go_ret; exact ⟨rfl, rfl⟩

theorem has_c (mask : Int) (k : Nat) (w : World) (hk : k < 8) : Calls Try.prog 46 #[.int .i64 mask, .int .i64 k] w fun e w' => e = .returned (.bool (bitB mask k)) ∧ w = w' := by
  have h0 : (0 : Int) ≤ k := by omega
  have h1 : (k : Int) < 8 := by omega
  go_enter Try.func46, Try.ntmps46
  go_wp2
  go_ret
  exact ⟨rfl, rfl⟩

theorem rnodes_c (mask : Int) (w : World) : Calls Try.prog 13 #[.int .i64 mask] w (RetN w.heap.size (upto (bitB mask) 8) w) := by
  go_enter Try.func13, Try.ntmps13
  go_wp2
  go_loopw [3, 4] (fun v p wr => ∃ k : Nat, k ≤ 8 ∧ p = .int .i64 k ∧ wr.ownsRow w.heap.size 3 1 v (upto (bitB mask) k).length (encN (upto (bitB mask) k)) ∧ Ext [] w wr) (fun _ p _ => 8 - (intOf p).toNat)
  case atStart => exact ⟨0, by omega, rfl, World.ownsRow_nil _ _ _ _, Ext.refl _ _⟩
  case round =>
    obtain ⟨k, hk, rfl, ho, hx⟩ := hrel
    have hsz := hx.size
    by_cases hlt : k < 8
    · have hl := upto_le (bitB mask) k
      by_cases hq : bitB mask k = true
      · obtain ⟨e1, e2⟩ := upto_snoc hq
        have E1 := Lib.hid e1
        have E2 := Lib.hid e2
        have C := Lib.hid (fun w => has_c mask k w hlt)
        rw [hq] at C
        clear e1 e2 hq
        generalize (upto (bitB mask) k).length = n at *
        go_wp2_with (first
          | (go_at_call 46; refine (C.out _).mono ?_; rintro e w' ⟨rfl, rfl⟩)
          | (at_builtin; refine wpList_app T_int (ownsRow_ext ho ((Ext.refl [] _).alloc _) (by simp)) (Sl.lit wr 1 1 [.int .i64 (k : Int)] 3 (by decide) rfl) rfl rfl rfl rfl rfl (by simp [Value.oneCell']) (by unfold maxLen; omega) (by omega) (by simp; omega) ?_; intro v' w' hown' hext' hnew'))
        go_roundw
        case rel => exact ⟨k + 1, by omega, by go_num, by rw [E1.out, E2.out]; exact hown', (hx.alloc _).step hext' (fun i hi => .inr (ho.lt i (of_mem_own hi)).1)⟩
        case measure => simp [intOf]; omega
      · have Hq := Lib.hid (show upto (bitB mask) (k + 1) = upto (bitB mask) k by rw [upto_succ, if_neg hq])
        have C := Lib.hid (fun w => has_c mask k w hlt)
        rw [Bool.eq_false_iff.2 hq] at C
        clear hq
        go_wp2_with (go_at_call 46; refine (C.out _).mono ?_; rintro e w' ⟨rfl, rfl⟩)
        go_roundw
        case rel => exact ⟨k + 1, by omega, by go_num, by rw [Hq.out]; exact ho, hx⟩
        case measure => simp [intOf]; omega
    · obtain rfl : k = 8 := by omega
      go_wp2
      go_ret
      exact ⟨_, rfl, ho, hx⟩

/-- A list of nodes, gone through, in whatever world. -/
theorem goneN_c (mask : Int) (most : Int) (w1 w : World) (h : Ext [] (w1.alloc (.cells #[.int .i64 mask] 3)) w) :
    Calls Try.prog 17 #[.func (.func 47) #[] #[.pointer (some ⟨w1.heap.size, 0, none⟩)], .int .i64 most] w (GoneP w.heap.size most (upto (bitB mask) 8) w) :=
  gone_c 47 _ _ _ _ (nodes_it mask w1) (Go.Proofs.enters_of Try.func47 (by kernel_rfl) rfl) (by have := upto_le (bitB mask) 8; omega) most w h.size
    (fun b hb => by have hb' : b = w1.heap.size := by simpa using hb
                    have hlt : b < (w1.alloc (.cells #[.int .i64 mask] 3)).heap.size := by simp; omega
                    exact ⟨hlt, h.block b hlt (by simp)⟩)

set_option maxHeartbeats 4000000 in
theorem addrMasks_c (mask nodes : Int) (w : World) :
    Calls Try.prog 3 #[.int .i64 mask, .int .i64 nodes] w fun e w' => e = .returned (.bool true) ∧ Ext [] w w' := by
  have hL := upto_le (bitB mask) 8
  have Hr := Lib.hid (fun w => rnodes_c mask w)
  have HC := Lib.hid (fun w => count_c mask w)
  have HG := Lib.hid (fun most w1 w h => goneN_c mask most w1 w h)
  have HM := Lib.hid (fun w => mask_c mask nodes w)
  have HR := Lib.hid (fun w => rmask_c mask nodes w)
  generalize maskS mask nodes = ms at *
  generalize upto (bitB mask) 8 = L at *
  have E1 := Lib.hid (show L.take ((99 : Int)).toNat = L from List.take_of_length_le (by omega))
  have E2 := Lib.hid (show L.take ((1 : Int)).toNat = L.take (min 1 L.length) by
    show L.take 1 = _
    cases L <;> simp)
  go_enter Try.func3, Try.ntmps3
  go_wp2_with (go_at_call 13; refine (Hr.out _).mono ?_; rintro e w2 ⟨v, rfl, hown, hx⟩; obtain ⟨va, vc, rfl, hvc, hvm⟩ := ownsRow_form hown)
  have HX := Lib.hid hx
  have HO := Lib.hid hown
  have hc : Ext [] w2 w2.drew := (Ext.refl _ _).drew
  have hmi : mnI 1 (L.length : Int) = ((min 1 L.length : Nat) : Int) := by unfold mnI; omega
  have HT := Lib.hid (Sl.take_own hown (k := min 1 L.length) (by omega))
  rw [← encN_take] at HT
  clear hx hown
  have hm0 : (0 : Int) ≤ ((min 1 L.length : Nat) : Int) := by omega
  have hm1 : ((min 1 L.length : Nat) : Int) ≤ (L.length : Int) := by omega
  have hm2 : min 1 L.length ≤ vc := by omega
  have hm3 : ((min 1 L.length : Nat) : Int) ≤ (vc : Int) := by omega
  generalize min 1 L.length = m at *
  go_region_with (first
      | (go_at_call 14; refine (HM.out _).mono ?_; rintro e w3 ⟨rfl, rfl⟩)
      | (go_at_call 15; refine (HR.out _).mono ?_; rintro e w3 ⟨rfl, rfl⟩)
      | (go_at_call 18; refine (nodes_c _ _).mono ?_; rintro e w3 ⟨rfl, rfl⟩; replace hc := hc.alloc (.cells #[.int .i64 mask] 3))
      | (go_at_call 17; (first | with_reducible refine (HG.out _ w2 _ (Ext.refl _ _).drew).mono ?_ | refine (HG.out _ _ _ (Ext.refl _ _)).mono ?_); rintro e w3 ⟨v3, rfl, hown3, hx3⟩; (first | rw [E1.out] at hown3 | rw [E2.out] at hown3); replace hc := hc.trans hx3; have HS := Lib.hid (Sl.of_own hown3); clear hown3 hx3)
      | (go_at_call 16; (first | with_reducible refine (ints_true _ _ (L.take m) _ HS.out (HT.out.ext hc (by simp))).mono ?_ | with_reducible refine (ints_true _ _ L _ HS.out ((Sl.of_own HO.out).ext hc (by simp))).mono ?_); rintro e w4 ⟨rfl, hx4⟩; replace hc := hc.trans hx4; clear HS hx4)
      | (go_at_call 19; refine (HC.out _).mono ?_; rintro e w5 ⟨rfl, hx5⟩; replace hc := hc.trans hx5)
      | (go_at_call 20; refine (awake_c _).mono ?_; rintro e w5 ⟨rfl, hx5⟩; replace hc := hc.trans hx5))
  all_goals
    go_wp2
    go_ret
    exact ⟨rfl, HX.out.trans hc⟩

end Go.Proofs.Ytemmoabhlfbfcaa
