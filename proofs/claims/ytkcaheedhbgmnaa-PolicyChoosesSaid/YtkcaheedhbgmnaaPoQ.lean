/-
  Policy's law: PolicyChooses, walked.
-/
import Derived.Test.YtkcaheedhbgmnaaPoP
namespace Go.Proofs.Ytkcaheedhbgmnaa
set_option linter.unusedVariables false
set_option linter.unusedSimpArgs false
open Go.RowKit
set_option maxHeartbeats 1000000
set_option maxRecDepth 100000
set_option linter.unusedVariables false
set_option linter.unusedSimpArgs false

theorem ordA_lt (k m x p n : Int) : (∀ y, y ∈ ordA k m x p n → y < 8) ∧ (ordA k m x p n).length ≤ 8 := by
  unfold ordA; split
  · rename_i h
    obtain ⟨x, p, n, rfl, rfl, rfl, hP⟩ := h.ok
    simp only [Int.toNat_natCast]
    exact ⟨fun y hy => by have := ord_lt hP hy; have := hP.n8; omega, ord_len hP⟩
  · simp
theorem Asked.sl {w wr : World} {ba : Nat} {A : List Nat} (h : Asked w ba A wr) : ∃ v, Blk wr ba [v] 67 ∧ Sl wr 1 v (encN A) := by
  obtain ⟨_, v, h2, h3⟩ := h
  exact ⟨v, h2, Sl.of_own h3⟩
theorem hit_form (fr : Int) (L : List Nat) : (hitAt fr L = none ∧ ∀ y, y ∈ L → bitB fr y = false) ∨ ∃ i, ∃ h : i < L.length, hitAt fr L = some i ∧ bitB fr L[i] = true ∧ ∀ y, y ∈ L.take i → bitB fr y = false := by
  cases h : hitAt fr L with
  | none => exact .inl ⟨rfl, List.findIdx?_eq_none_iff.1 h⟩
  | some i =>
    obtain ⟨h1, h2, h3⟩ := List.findIdx?_eq_some_iff_getElem.1 h
    refine .inr ⟨i, h1, rfl, h2, fun y hy => ?_⟩
    obtain ⟨j, hj, rfl⟩ := List.mem_take_iff_getElem.1 hy
    have := h3 j (by omega)
    simpa using this

theorem policyChooses_c (k m x p n fr : Int) (w : World) : Calls Try.prog 11 #[polV k m, .agg #[.int .i64 x, .int .i64 p, .int .i64 n], .int .i64 fr] w fun e w' => e = .returned (.bool true) ∧ Ext [] w w' := by
  obtain ⟨hA8, hAl⟩ := ordA_lt k m x p n
  have CC : Hid (∀ (w : World) ba bf, Blk w ba [.slice none 0 0] 67 → Blk w bf [.int .i64 fr] 3 → bf ≠ ba → Calls Try.prog 49 #[polV k m, .int .i64 x, .int .i64 p, .int .i64 n, askF ba bf] w (Chose w ba fr (ordA k m x p n))) := fun w ba bf h1 h2 h3 => choose_c k m x p n fr w ba bf h1 h2 h3 hA8 hAl
  have CN := Lib.hid (fun w => choose_nil k m x p n w)
  have CR := Lib.hid (fun w => rorderA_c k m x p n w)
  have CW := Lib.hid (fun w => awake10_c w)
  unfold RetA at CR
  obtain ⟨W0, hW0⟩ : ∃ W0, W0 = (((w.alloc (.cells #[.int .i64 k, .int .i64 m] 77)).alloc (.cells #[.int .i64 x, .int .i64 p, .int .i64 n] 78)).alloc (.cells #[.int .i64 fr] 3)).alloc (.cells #[.slice none 0 0] 67) := ⟨_, rfl⟩
  have hx0 : Ext [] w W0 := by rw [hW0]; exact (((Ext.refl _ _).alloc _).alloc _).alloc _ |>.alloc _
  have hB0 : Blk W0 w.heap.size [.int .i64 k, .int .i64 m] 77 := by rw [hW0]; exact (((Blk.new w [.int .i64 k, .int .i64 m] 77).alloc _).alloc _).alloc _
  have hB1 : Blk W0 (w.heap.size + 1) [.int .i64 x, .int .i64 p, .int .i64 n] 78 := by
    rw [hW0]
    have := ((Blk.new (w.alloc (.cells #[.int .i64 k, .int .i64 m] 77)) [.int .i64 x, .int .i64 p, .int .i64 n] 78).alloc (.cells #[.int .i64 fr] 3)).alloc (.cells #[.slice none 0 0] 67)
    simpa using this
  have hB2 : Blk W0 (w.heap.size + 1 + 1) [.int .i64 fr] 3 := by
    rw [hW0]
    have := (Blk.new ((w.alloc (.cells #[.int .i64 k, .int .i64 m] 77)).alloc (.cells #[.int .i64 x, .int .i64 p, .int .i64 n] 78)) [.int .i64 fr] 3).alloc (.cells #[.slice none 0 0] 67)
    simpa using this
  have hB3 : Blk W0 (w.heap.size + 1 + 1 + 1) [.slice none 0 0] 67 := by
    rw [hW0]
    have := Blk.new (((w.alloc (.cells #[.int .i64 k, .int .i64 m] 77)).alloc (.cells #[.int .i64 x, .int .i64 p, .int .i64 n] 78)).alloc (.cells #[.int .i64 fr] 3)) [.slice none 0 0] 67
    simpa using this
  have hCC := CC.out W0 (w.heap.size + 1 + 1 + 1) (w.heap.size + 1 + 1) hB3 hB2 (by omega)
  have HCC := Lib.hid hCC
  have HX0 := Lib.hid hx0
  have HB0 := Lib.hid hB0
  have HB1 := Lib.hid hB1
  have HB2 := Lib.hid hB2
  have HW0 := Lib.hid hW0
  have HL8 := Lib.hid hA8
  clear hCC hx0 hB0 hB1 hB2 hB3 CC hA8
  unfold polV askF at *
  generalize ordA k m x p n = L at *
  generalize errA k m x p n = er at *
  have c00 := HB0.out.cell 0
  have c01 := HB0.out.cell 1
  have c10 := HB1.out.cell 0
  have c11 := HB1.out.cell 1
  have c12 := HB1.out.cell 2
  rw [hW0] at HCC c00 c01 c10 c11 c12
  clear hW0
  have hhit := hit_form fr L
  go_enter Try.func11, Try.ntmps11
  go_wp2_with fail
  refine (HCC.out).mono ?_
  rintro e w1 ⟨rfl, hA⟩
  clear c00 c01 c10 c11 c12
  rw [← HW0.out] at hA
  have HA := Lib.hid hA
  have HC0 := Lib.hid (HB0.out.ext hA.1 (by simp; omega))
  have HC1 := Lib.hid (HB1.out.ext hA.1 (by simp))
  have HC2 := Lib.hid (HB2.out.ext hA.1 (by simp))
  have c00 := HC0.out.cell 0
  have c01 := HC0.out.cell 1
  have c10 := HC1.out.cell 0
  have c11 := HC1.out.cell 1
  have c12 := HC1.out.cell 2
  clear hA
  have HHIT := Lib.hid hhit
  clear hhit
  obtain ⟨q, tt, hpk⟩ : ∃ q tt, pick fr L = .tuple #[.int .i64 q, .bool tt] := by unfold pick; split <;> exact ⟨_, _, rfl⟩
  rw [hpk]
  have HPK := Lib.hid hpk
  clear hpk
  go_wp2_with (go_at_call 35; refine (CR.out _).mono ?_; rintro e w2 ⟨v2, rfl, hs, hx⟩; obtain ⟨va, vn, vc, rfl, _, hvc, hvm, _⟩ := hs.form; have hl := hs.len; have HS := Lib.hid hs; have HX := Lib.hid hx; have HLn := Lib.hid hl; have hv8 : vn ≤ 8 := (by omega); clear hs hx hl c00 c01 c10 c11 c12)
  have HA2 := Lib.hid (HA.out.ext HX.out)
  have HD0 := Lib.hid (HC0.out.ext HX.out (by simp))
  have HD1 := Lib.hid (HC1.out.ext HX.out (by simp))
  have HD2 := Lib.hid (HC2.out.ext HX.out (by simp))
  unfold maxLen at hvm
  rcases HHIT.out with ⟨hn, hno⟩ | ⟨i0, hi0, hs0, hb0, hno⟩
  · rw [show pick fr L = .tuple #[.int .i64 0, .bool false] by unfold pick; rw [hn]] at HPK
    obtain ⟨rfl, rfl⟩ : q = 0 ∧ tt = false := by have := HPK.out; simp at this; exact ⟨this.1.symm, this.2⟩
    rw [show askedL fr L = L by unfold askedL; rw [hn]] at HA2
    have HNO := Lib.hid hno
    clear hno hn
    go_loopw [12] (fun i wr => ∃ j : Nat, j ≤ vn ∧ i = .int .i64 j ∧ Ext [] w2 wr) (fun i _ => vn - (intOf i).toNat)
    case atStart => exact ⟨0, by omega, rfl, Ext.refl _ _⟩
    case round =>
      obtain ⟨j, hj, rfl, hxr⟩ := hrel
      have HXr := Lib.hid hxr
      by_cases hlt : j < vn
      · obtain ⟨b, o, hkL, rfl, hb, hc⟩ := (Sl.ext HS.out hxr (by simp)).at hlt
        have c2 := (HD2.out.ext hxr (by simp)).cell 0
        have hz := HNO.out L[j] (List.getElem_mem hkL)
        have C := Lib.hid (fun w => has_c fr L[j] w (HL8.out L[j] (List.getElem_mem hkL)))
        rw [hz] at C
        clear hz
        clear hxr
        generalize L[j] = z at *
        have j0 : (0 : Int) ≤ (j : Int) := by omega
        have j1 : (j : Int) < (vn : Int) := by omega
        go_wp2
        go_quiet ((go_at_call 40; exact Calls.quiet_of_same ((C.out _).mono fun _ _ h => ⟨h.1, h.2.symm⟩)))
        go_wp2
        go_roundw
        case rel => exact ⟨j + 1, by omega, by go_num, HXr.out.drewN nq⟩
        case measure => simp [intOf]; omega
      · obtain rfl : j = vn := by omega
        have HE0 := (HD0.out.ext hxr (by simp))
        have HE1 := (HD1.out.ext hxr (by simp))
        have c00 := HE0.cell 0
        have c01 := HE0.cell 1
        have c10 := HE1.cell 0
        have c11 := HE1.cell 1
        have c12 := HE1.cell 2
        have HA3 := Lib.hid (HA2.out.ext hxr)
        have HS3 := Lib.hid (Sl.ext HS.out hxr (by simp))
        clear HE0 HE1 hxr
        go_wp2_with (first
          | (go_at_call 49; refine (CN.out _).mono ?_; rintro e w4 ⟨rfl, hx⟩; clear c00 c01 c10 c11 c12; obtain ⟨va', hba', hsa'⟩ := (HA3.out.ext hx).sl; have ca := hba'.cell 0; have HSA := Lib.hid hsa'; have HSL := Lib.hid (Sl.ext HS3.out hx (by simp)); have HX4 := Lib.hid hx; clear hx hsa' hba')
          | (go_at_call 36; refine (intsN_c _ _ _ _ _ HSA.out HSL.out).mono ?_; rintro e w5 ⟨rfl, hx⟩; have HX5 := Lib.hid hx; clear hx)
          | (go_at_call 39; refine (CW.out _).mono ?_; rintro e w6 ⟨rfl, hx⟩; have HX6 := Lib.hid hx; clear hx))
        go_ret
        exact ⟨rfl, ((HX0.out.step (((HA3.out.1.mono (fun k hk => .inl hk)).trans (HX4.out.mono (by simp))).trans (HX5.out.mono (by simp))) (fun i hi => by simp at hi; subst hi; exact .inr (by omega))).trans HX6.out)⟩
  · rw [show pick fr L = .tuple #[.int .i64 ((L[i0] : Nat) : Int), .bool true] by unfold pick; rw [hs0]; simp [List.getD_eq_getElem?_getD, List.getElem?_eq_getElem hi0]] at HPK
    obtain ⟨rfl, rfl⟩ : q = ((L[i0] : Nat) : Int) ∧ tt = true := by have := HPK.out; simp at this; exact ⟨this.1.symm, this.2⟩
    rw [show askedL fr L = L.take (i0 + 1) by unfold askedL; rw [hs0]] at HA2
    have HNO := Lib.hid hno
    have HB := Lib.hid hb0
    have hi1 : i0 < vn := by rw [← HLn.out]; exact hi0
    obtain ⟨z0, hz0⟩ : ∃ z0, z0 = L[i0] := ⟨_, rfl⟩
    rw [← hz0]
    have HZ0 := Lib.hid hz0
    clear hno hb0 hs0 hz0
    go_loopw [12] (fun i wr => ∃ j : Nat, j ≤ i0 ∧ i = .int .i64 j ∧ Ext [] w2 wr) (fun i _ => vn - (intOf i).toNat)
    case atStart => exact ⟨0, by omega, rfl, Ext.refl _ _⟩
    case round =>
      obtain ⟨j, hj, rfl, hxr⟩ := hrel
      have HXr := Lib.hid hxr
      have hlt : j < vn := by omega
      obtain ⟨b, o, hkL, rfl, hb, hc⟩ := (Sl.ext HS.out hxr (by simp)).at hlt
      have c2 := (HD2.out.ext hxr (by simp)).cell 0
      have C := Lib.hid (fun w => has_c fr L[j] w (HL8.out L[j] (List.getElem_mem hkL)))
      have j0 : (0 : Int) ≤ (j : Int) := by omega
      have j1 : (j : Int) < (vn : Int) := by omega
      by_cases hji : j = i0
      · subst hji
        rw [HB.out] at C
        rw [← HZ0.out] at hc C
        have HA3 := Lib.hid (HA2.out.ext hxr)
        have HS3 := Lib.hid (Sl.ext HS.out hxr (by simp))
        have ht := (Sl.take HS3.out (k := j + 1) (by omega)).resolve_right (by simp)
        rw [← encN_take] at ht
        have HT := Lib.hid ht
        have i5 : (0 : Int) ≤ (j : Int) + 1 := by omega
        have i6 : ((j : Int) + 1).toNat = j + 1 := by omega
        have i7 : IntKind.i64.wrap ((j : Int) + 1) = (j : Int) + 1 := IntWalk.i64_in _ (by omega)
        have i8 : (j : Int) + 1 ≤ (vc : Int) := by omega
        have i9 : (j : Int) + 1 ≤ (vn : Int) := by omega
        obtain ⟨va', hba', hsa'⟩ := HA3.out.sl
        have ca := hba'.cell 0
        have HSA := Lib.hid hsa'
        have hzz : ((z0 : Int) == (z0 : Int)) = true := by simp
        have HBA := Lib.hid hba'
        clear ht hba' hsa' hxr
        go_wp2
        go_quiet ((go_at_call 40; exact Calls.quiet_of_same ((C.out _).mono fun _ _ h => ⟨h.1, h.2.symm⟩)))
        go_wp2
        have HXc := Lib.hid (((Ext.refl [] wr).drewN nq).drew)
        go_region_held3 (fun cur => cur.cell? ⟨w.heap.size + 1 + 1 + 1, 0, none⟩ = some va' ∧ cur.cell? ⟨b, o + j, none⟩ = some (.int .i64 (z0 : Int)))
          (exact ⟨(HBA.out.ext HXc.out (by simp)).cell 0, (HXc.out.cell (p := ⟨b, o + j, none⟩) hb (by simp)).trans hc⟩)
          (first
          | (go_at_call 36; refine (intsN_c _ _ _ _ _ (Sl.ext HSA.out HXc.out (by simp)) (Sl.ext HT.out HXc.out (by simp))).mono ?_; rintro e w3 ⟨rfl, hx⟩; have HXc := Lib.hid (HXc.out.trans hx); clear hx)
          | (go_at_call 39; refine (CW.out _).mono ?_; rintro e w3 ⟨rfl, hx⟩; have HXc := Lib.hid (HXc.out.trans hx); clear hx))
        all_goals
          go_wp2
          go_ret
          exact ⟨rfl, ((HX0.out.step (HA3.out.1.mono (fun k hk => .inl hk)) (fun i hi => by simp at hi; subst hi; exact .inr (by omega))).trans HXc.out)⟩
      · have hz := HNO.out L[j] (by rw [List.mem_take_iff_getElem]; exact ⟨j, by omega, rfl⟩)
        rw [hz] at C
        clear hz hxr
        generalize L[j] = z at *
        go_wp2
        go_quiet ((go_at_call 40; exact Calls.quiet_of_same ((C.out _).mono fun _ _ h => ⟨h.1, h.2.symm⟩)))
        go_wp2
        go_roundw
        case rel => exact ⟨j + 1, by omega, by go_num, HXr.out.drewN nq⟩
        case measure => simp [intOf]; omega

end Go.Proofs.Ytkcaheedhbgmnaa
