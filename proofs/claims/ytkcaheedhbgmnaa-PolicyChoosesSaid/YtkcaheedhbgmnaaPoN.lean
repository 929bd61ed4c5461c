/-
  Policy's law: PolicyNodes, walked.
-/
import Derived.Test.YtkcaheedhbgmnaaPoM
namespace Go.Proofs.Ytkcaheedhbgmnaa
set_option linter.unusedVariables false
set_option linter.unusedSimpArgs false
open Go.RowKit
set_option maxHeartbeats 1000000
set_option maxRecDepth 100000
set_option linter.unusedVariables false
set_option linter.unusedSimpArgs false

theorem pow_wrap {z : Nat} (h : z ≤ 8) : wrap64 (2 ^ z) = 2 ^ z := by
  have := pow_le8 h
  have h2 : (1 : Int) ≤ 2 ^ z := by have : (0 : Int) < 2 ^ z := Int.pow_pos (by decide); omega
  generalize (2 : Int) ^ z = y at *
  exact wrap64_of (by omega) (by omega)

theorem policyNodes_c (k m x p n : Int) (w : World) : Calls Try.prog 8 #[polV k m, .agg #[.int .i64 x, .int .i64 p, .int .i64 n]] w fun e w' => e = .returned (.bool true) ∧ Ext [] w w' := by
  have CO := Lib.hid (fun w => orderA_c k m x p n w)
  have CW := Lib.hid (fun w => awake10_c w)
  have hb0 := (Blk.new w [.int .i64 k, .int .i64 m] 77).alloc (.cells #[.int .i64 x, .int .i64 p, .int .i64 n] 78)
  have hb1 := Blk.new (w.alloc (.cells #[.int .i64 k, .int .i64 m] 77)) [.int .i64 x, .int .i64 p, .int .i64 n] 78
  have hx0 : Ext [] w ((w.alloc (.cells #[.int .i64 k, .int .i64 m] 77)).alloc (.cells #[.int .i64 x, .int .i64 p, .int .i64 n] 78)) := ((Ext.refl _ _).alloc _).alloc _
  have HB0 := Lib.hid hb0
  have HB1 := Lib.hid (show Blk _ (w.heap.size + 1) [.int .i64 x, .int .i64 p, .int .i64 n] 78 by simpa using hb1)
  have HX0 := Lib.hid hx0
  clear hb0 hb1 hx0
  unfold RetA polV at *
  by_cases hok : OkI k m x p n
  · rw [show errA k m x p n = 0 by rw [errA, if_pos hok], show ordA k m x p n = ordL k m x.toNat p.toNat n.toNat by rw [ordA, if_pos hok]] at CO
    obtain ⟨x, p, n, rfl, rfl, rfl, hP⟩ := hok.ok
    simp only [Int.toNat_natCast] at CO
    have HL := Lib.hid (ord_len hP)
    have HLT := Lib.hid (fun y hy => ord_lt hP (y := y) hy)
    have HND := Lib.hid (ord_nodup hP)
    have HD := Lib.hid (fun M h => mask_done hP (M := M) h)
    have n8 := hP.n8.2
    have HP := Lib.hid hP
    have n0 : (0 : Int) ≤ (n : Int) := by omega
    clear hok hP
    obtain ⟨L, hL⟩ : ∃ L, L = ordL k m x p n := ⟨_, rfl⟩
    rw [← hL] at CO HL HLT HND HD
    clear hL
    go_enter Try.func8, Try.ntmps8
    go_wp2_with (first
      | (go_at_call 34; refine (CO.out _).mono ?_; rintro e w1 ⟨v1, rfl, hs, hx⟩; obtain ⟨va, vn, vc, rfl, _⟩ := hs.form; have hl := hs.len; have HS1 := Lib.hid hs; have HX1 := Lib.hid (HX0.out.trans hx); have HC0 := Lib.hid (HB0.out.ext hx (by simp)); have HC1 := Lib.hid (HB1.out.ext hx (by simp)); have HLn := Lib.hid hl; have hv8 : vn ≤ 8 := (by have := HL.out; omega); clear hs hx hl))
    go_loopw [7, 8] (fun mk i wr => ∃ (j : Nat) (M : Int), j ≤ vn ∧ i = .int .i64 j ∧ mk = .int .i64 M ∧ MaskOf M (L.take j) ∧ Ext [] w1 wr) (fun _ i _ => vn - (intOf i).toNat)
    case atStart => exact ⟨0, 0, by omega, rfl, rfl, by simpa using MaskOf.nil, Ext.refl _ _⟩
    case round =>
      obtain ⟨j, M, hj, rfl, rfl, hM, hx⟩ := hrel
      by_cases hlt : j < vn
      · obtain ⟨b, o, hkL, rfl, hb, hc⟩ := (HS1.out.ext hx (by simp)).at hlt
        have c2 := (HC1.out.ext hx (by simp)).cell 2
        have hz := HLT.out L[j] (List.getElem_mem hkL)
        have ht := take_one hkL
        have hz8 : L[j] < 8 := by omega
        have hnew : bitB M L[j] = false := by
          rw [hM.bit _ hz8]
          have := HND.out
          rw [decide_eq_false_iff_not]
          intro hm
          obtain ⟨i, hi, e⟩ := List.mem_take_iff_getElem.1 hm
          have := (List.getElem_inj HND.out).1 e
          omega
        have C := Lib.hid (fun w => has_c M L[j] w hz8)
        rw [hnew] at C
        have HS := Lib.hid (hM.snoc hz8)
        rw [← ht] at HS
        have hw := pow_wrap (show L[j] ≤ 8 by omega)
        have hx' := Lib.hid hx
        clear ht hnew hM hx
        generalize L[j] = z at *
        have j0 : (0 : Int) ≤ (j : Int) := by omega
        have j1 : (j : Int) < (vn : Int) := by omega
        have z0 : decide ((z : Int) < 0) = false := by simp
        have z1 : decide (n ≤ z) = false := by simp; omega
        have z2 : (0 : Int) ≤ (z : Int) := by omega
        go_wp2
        go_quiet ((go_at_call 40; exact Calls.quiet_of_same ((C.out _).mono fun _ _ h => ⟨h.1, h.2.symm⟩)))
        go_wp2
        go_roundw
        case rel => exact ⟨j + 1, _, by omega, by go_num, rfl, HS.out, hx'.out.drewN nq⟩
        case measure => simp [intOf]; omega
      · obtain rfl : j = vn := by omega
        rw [List.take_of_length_le (by rw [HLn.out]; omega)] at hM
        have hMd := HD.out M hM
        have c0 := (HC0.out.ext hx (by simp)).cell 0
        have c1 := (HC0.out.ext hx (by simp)).cell 1
        have c2 := (HC1.out.ext hx (by simp)).cell 2
        have hx' := Lib.hid hx
        have hw : wrap64 (wrap64 (2 ^ n) - 1) = 2 ^ n - 1 := wrap_pow n8
        clear hx hM
        unfold wantM at hMd
        rcases HP.out.kind with ⟨rfl, rfl⟩ | ⟨rfl | rfl | rfl, hm1, hm2⟩
        all_goals
          simp at hMd
          have hE : (M == M) = true := by simp
          subst hMd
          go_wp2_with (first
            | (go_at_call 39; refine (CW.out _).mono ?_; rintro e w3 ⟨rfl, hx⟩; have HX3 := Lib.hid hx; clear hx))
          go_ret
          exact ⟨rfl, (HX1.out.trans hx'.out).trans HX3.out⟩
  · rw [show errA k m x p n = 1 by rw [errA, if_neg hok], show ordA k m x p n = [] by rw [ordA, if_neg hok]] at CO
    clear hok
    go_enter Try.func8, Try.ntmps8
    go_wp2_with (first
      | (go_at_call 34; refine (CO.out _).mono ?_; rintro e w1 ⟨v1, rfl, hs, hx⟩; obtain ⟨va, vn, vc, rfl, hl, _⟩ := hs.form; obtain rfl : vn = 0 := (by simpa using hl.symm); have HX1 := Lib.hid (HX0.out.trans hx); clear hs hx hl)
      | (go_at_call 39; refine (CW.out _).mono ?_; rintro e w3 ⟨rfl, hx⟩; have HX3 := Lib.hid hx; clear hx))
    go_ret
    exact ⟨rfl, HX1.out.trans HX3.out⟩

end Go.Proofs.Ytkcaheedhbgmnaa
