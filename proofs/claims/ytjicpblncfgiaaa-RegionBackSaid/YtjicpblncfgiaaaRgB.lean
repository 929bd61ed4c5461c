/-
  Region: Check, in the program.
-/
import Derived.Test.YtjicpblncfgiaaaRgB0
import Derived.Deep.RegionHeld3
namespace Go.Proofs.Ytjicpblncfgiaaa
set_option linter.unusedVariables false
set_option linter.unusedSimpArgs false
open Go.RowKit
set_option maxHeartbeats 4000000
set_option maxRecDepth 100000
set_option linter.unusedVariables false
set_option linter.unusedSimpArgs false

theorem sis_c (w : World) (sp mp : Nat) (nodes : Int) (h : Blk w sp [.int .i64 nodes, .pointer (some ⟨mp, 0, none⟩)] 53) : Calls Try.prog 40 #[.pointer (some ⟨sp, 0, none⟩)] w fun e w' => e = .returned (.bool true) ∧ w = w' := by
  have h1 := h.cell 1
  clear h
  go_enter Try.func40, Try.ntmps40
  go_wp2
  go_ret
  exact ⟨rfl, rfl⟩

theorem check_c (w : World) (sp mp : Nat) (nodes k pg n pm pk pn ad by_ : Int) (h : Blk w sp [.int .i64 nodes, .pointer (some ⟨mp, 0, none⟩)] 53) :
    Calls Try.prog 24 #[.pointer (some ⟨sp, 0, none⟩), .agg #[.int .i64 k, .int .i64 pg, .int .i64 n, .int .i64 pm, .int .i64 pk, .int .i64 pn, .int .i64 ad, .int .i64 by_]] w fun e w' => e = .returned (.int .i64 (chkS nodes k pg n pm pk pn)) ∧ Ext [] w w' := by
  have hx0 : Ext [] w (w.alloc (.cells #[.int .i64 k, .int .i64 pg, .int .i64 n, .int .i64 pm, .int .i64 pk, .int .i64 pn, .int .i64 ad, .int .i64 by_] 39)) := (Ext.refl _ _).alloc _
  have b := Blk.new w [.int .i64 k, .int .i64 pg, .int .i64 n, .int .i64 pm, .int .i64 pk, .int .i64 pn, .int .i64 ad, .int .i64 by_] 39
  have c0 := b.cell 0
  have c1 := b.cell 1
  have c2 := b.cell 2
  have c3 := b.cell 3
  have c4 := b.cell 4
  have c5 := b.cell 5
  have hS := h.ext hx0 (by simp)
  have s0 := hS.cell 0
  have hsl := h.lt
  have HX := Lib.hid hx0
  have HB := Lib.hid b
  have HS := Lib.hid hS
  have CR := Lib.hid (fun w => range_c pg n w)
  have CP := Lib.hid (fun w => policy_c pk pn nodes w)
  have CI := Lib.hid (sis_c _ sp mp nodes hS)
  clear h b hS hx0
  by_cases k1 : k < 1
  · rw [show chkS nodes k pg n pm pk pn = 1 from (by unfold chkS; rw [if_neg (by omega)])]
    go_enter Try.func24, Try.ntmps24
    go_wp2_with (first | (go_at_call 40; refine (CI.out).mono ?_; rintro e w1 ⟨rfl, rfl⟩) | (go_at_call 46; refine (CR.out _).mono ?_; rintro e w1 ⟨rfl, rfl⟩))
    go_ret
    exact ⟨rfl, HX.out⟩
  by_cases k4 : 4 < k
  · have k1 : 1 ≤ k := by omega
    rw [show chkS nodes k pg n pm pk pn = 1 from (by unfold chkS; rw [if_neg (by omega)])]
    go_enter Try.func24, Try.ntmps24
    go_wp2_with (first | (go_at_call 40; refine (CI.out).mono ?_; rintro e w1 ⟨rfl, rfl⟩) | (go_at_call 46; refine (CR.out _).mono ?_; rintro e w1 ⟨rfl, rfl⟩))
    go_ret
    exact ⟨rfl, HX.out⟩
  rcases rangeS_two pg n with hr | hr
  rotate_left
  · have k1 : 1 ≤ k := by omega
    have k4 : k ≤ 4 := by omega
    rw [hr] at CR
    rw [show chkS nodes k pg n pm pk pn = 1 from (by unfold chkS; rw [if_neg (fun h => by rw [hr] at h; simp at h)])]
    clear hr
    go_enter Try.func24, Try.ntmps24
    go_wp2_with (first | (go_at_call 40; refine (CI.out).mono ?_; rintro e w1 ⟨rfl, rfl⟩) | (go_at_call 46; refine (CR.out _).mono ?_; rintro e w1 ⟨rfl, rfl⟩))
    go_ret
    exact ⟨rfl, HX.out⟩
  rw [hr] at CR
  have hk : k = 1 ∨ k = 2 ∨ k = 3 ∨ k = 4 := by omega
  clear k1 k4
  rcases hk with rfl | rfl | rfl | rfl
  · rcases permB_cases pm with ⟨hp3, pe⟩ | ⟨⟨p0, p1, p3⟩, pe⟩
    · rcases hp3 with rfl | rfl | rfl
      · have HE : Hid (chkS nodes 1 pg n 0 pk pn = if polB pk pn nodes = true then 0 else 1) := by
          show _ = _
          unfold chkS
          by_cases hp : polB pk pn nodes = true
          · rw [if_pos hp, if_pos ⟨by omega, hr, (fun _ => pe), fun _ => hp⟩]
          · rw [if_neg hp, if_neg (fun h => hp (h.2.2.2 (by simp)))]
        rw [HE.out]
        clear hr HE pe
        generalize polB pk pn nodes = pb at *
        go_enter Try.func24, Try.ntmps24
        go_wp2_with (first | (go_at_call 40; refine (CI.out).mono ?_; rintro e w1 ⟨rfl, rfl⟩) | (go_at_call 46; refine (CR.out _).mono ?_; rintro e w1 ⟨rfl, rfl⟩))
        have HXc := Lib.hid (Ext.refl [] (w.alloc (.cells #[.int .i64 1, .int .i64 pg, .int .i64 n, .int .i64 0, .int .i64 pk, .int .i64 pn, .int .i64 ad, .int .i64 by_] 39)).drew)
        first | go_region_with (go_at_call 47; refine (CP.out _).mono ?_; rintro e w1 ⟨rfl, hx⟩; have HXc := Lib.hid (HXc.out.trans hx); clear hx) | fail
        all_goals cases pb
        all_goals
          go_wp2
          go_ret
          exact ⟨rfl, HX.out.drew.trans HXc.out⟩
      · have HE : Hid (chkS nodes 1 pg n 1 pk pn = if polB pk pn nodes = true then 0 else 1) := by
          show _ = _
          unfold chkS
          by_cases hp : polB pk pn nodes = true
          · rw [if_pos hp, if_pos ⟨by omega, hr, (fun _ => pe), fun _ => hp⟩]
          · rw [if_neg hp, if_neg (fun h => hp (h.2.2.2 (by simp)))]
        rw [HE.out]
        clear hr HE pe
        generalize polB pk pn nodes = pb at *
        go_enter Try.func24, Try.ntmps24
        go_wp2_with (first | (go_at_call 40; refine (CI.out).mono ?_; rintro e w1 ⟨rfl, rfl⟩) | (go_at_call 46; refine (CR.out _).mono ?_; rintro e w1 ⟨rfl, rfl⟩))
        have HXc := Lib.hid (Ext.refl [] (w.alloc (.cells #[.int .i64 1, .int .i64 pg, .int .i64 n, .int .i64 1, .int .i64 pk, .int .i64 pn, .int .i64 ad, .int .i64 by_] 39)).drew)
        first | go_region_with (go_at_call 47; refine (CP.out _).mono ?_; rintro e w1 ⟨rfl, hx⟩; have HXc := Lib.hid (HXc.out.trans hx); clear hx) | fail
        all_goals cases pb
        all_goals
          go_wp2
          go_ret
          exact ⟨rfl, HX.out.drew.trans HXc.out⟩
      · have HE : Hid (chkS nodes 1 pg n 3 pk pn = if polB pk pn nodes = true then 0 else 1) := by
          show _ = _
          unfold chkS
          by_cases hp : polB pk pn nodes = true
          · rw [if_pos hp, if_pos ⟨by omega, hr, (fun _ => pe), fun _ => hp⟩]
          · rw [if_neg hp, if_neg (fun h => hp (h.2.2.2 (by simp)))]
        rw [HE.out]
        clear hr HE pe
        generalize polB pk pn nodes = pb at *
        go_enter Try.func24, Try.ntmps24
        go_wp2_with (first | (go_at_call 40; refine (CI.out).mono ?_; rintro e w1 ⟨rfl, rfl⟩) | (go_at_call 46; refine (CR.out _).mono ?_; rintro e w1 ⟨rfl, rfl⟩))
        have HXc := Lib.hid (Ext.refl [] (w.alloc (.cells #[.int .i64 1, .int .i64 pg, .int .i64 n, .int .i64 3, .int .i64 pk, .int .i64 pn, .int .i64 ad, .int .i64 by_] 39)).drew)
        first | go_region_with (go_at_call 47; refine (CP.out _).mono ?_; rintro e w1 ⟨rfl, hx⟩; have HXc := Lib.hid (HXc.out.trans hx); clear hx) | fail
        all_goals cases pb
        all_goals
          go_wp2
          go_ret
          exact ⟨rfl, HX.out.drew.trans HXc.out⟩
    · rw [show chkS nodes 1 pg n pm pk pn = 1 from (by unfold chkS; rw [if_neg (fun h => by have := h.2.2.1 (by simp); rw [pe] at this; cases this)])]
      clear hr
      have q0 : (pm != 0) = true := by simpa using p0
      have q1 : (pm != 1) = true := by simpa using p1
      have q3 : (pm != 3) = true := by simpa using p3
      clear pe
      go_enter Try.func24, Try.ntmps24
      go_wp2_with (first | (go_at_call 40; refine (CI.out).mono ?_; rintro e w1 ⟨rfl, rfl⟩) | (go_at_call 46; refine (CR.out _).mono ?_; rintro e w1 ⟨rfl, rfl⟩))
      go_ret
      exact ⟨rfl, HX.out⟩
  · rw [show chkS nodes 2 pg n pm pk pn = 0 from (by unfold chkS; rw [if_pos ⟨by omega, hr, fun h => absurd h (by omega), fun h => absurd h (by omega)⟩])]
    clear hr
    go_enter Try.func24, Try.ntmps24
    go_wp2_with (first | (go_at_call 40; refine (CI.out).mono ?_; rintro e w1 ⟨rfl, rfl⟩) | (go_at_call 46; refine (CR.out _).mono ?_; rintro e w1 ⟨rfl, rfl⟩))
    go_quiet (fail)
    go_wp2
    go_ret
    exact ⟨rfl, HX.out.drewN _⟩
  · rcases permB_cases pm with ⟨hp3, pe⟩ | ⟨⟨p0, p1, p3⟩, pe⟩
    · rcases hp3 with rfl | rfl | rfl
      · rw [show chkS nodes 3 pg n 0 pk pn = 0 from (by unfold chkS; rw [if_pos ⟨by omega, hr, fun _ => pe, fun h => absurd h (by omega)⟩])]
        clear hr pe
        go_enter Try.func24, Try.ntmps24
        go_wp2_with (first | (go_at_call 40; refine (CI.out).mono ?_; rintro e w1 ⟨rfl, rfl⟩) | (go_at_call 46; refine (CR.out _).mono ?_; rintro e w1 ⟨rfl, rfl⟩))
        go_quiet (fail)
        go_wp2
        go_ret
        exact ⟨rfl, HX.out.drewN _⟩
      · rw [show chkS nodes 3 pg n 1 pk pn = 0 from (by unfold chkS; rw [if_pos ⟨by omega, hr, fun _ => pe, fun h => absurd h (by omega)⟩])]
        clear hr pe
        go_enter Try.func24, Try.ntmps24
        go_wp2_with (first | (go_at_call 40; refine (CI.out).mono ?_; rintro e w1 ⟨rfl, rfl⟩) | (go_at_call 46; refine (CR.out _).mono ?_; rintro e w1 ⟨rfl, rfl⟩))
        go_quiet (fail)
        go_wp2
        go_ret
        exact ⟨rfl, HX.out.drewN _⟩
      · rw [show chkS nodes 3 pg n 3 pk pn = 0 from (by unfold chkS; rw [if_pos ⟨by omega, hr, fun _ => pe, fun h => absurd h (by omega)⟩])]
        clear hr pe
        go_enter Try.func24, Try.ntmps24
        go_wp2_with (first | (go_at_call 40; refine (CI.out).mono ?_; rintro e w1 ⟨rfl, rfl⟩) | (go_at_call 46; refine (CR.out _).mono ?_; rintro e w1 ⟨rfl, rfl⟩))
        go_quiet (fail)
        go_wp2
        go_ret
        exact ⟨rfl, HX.out.drewN _⟩
    · rw [show chkS nodes 3 pg n pm pk pn = 1 from (by unfold chkS; rw [if_neg (fun h => by have := h.2.2.1 (by simp); rw [pe] at this; cases this)])]
      clear hr
      have q0 : (pm != 0) = true := by simpa using p0
      have q1 : (pm != 1) = true := by simpa using p1
      have q3 : (pm != 3) = true := by simpa using p3
      clear pe
      go_enter Try.func24, Try.ntmps24
      go_wp2_with (first | (go_at_call 40; refine (CI.out).mono ?_; rintro e w1 ⟨rfl, rfl⟩) | (go_at_call 46; refine (CR.out _).mono ?_; rintro e w1 ⟨rfl, rfl⟩))
      go_ret
      exact ⟨rfl, HX.out⟩
  · have HE : Hid (chkS nodes 4 pg n pm pk pn = if polB pk pn nodes = true then 0 else 1) := by
      show _ = _
      unfold chkS
      by_cases hp : polB pk pn nodes = true
      · rw [if_pos hp, if_pos ⟨by omega, hr, (fun h => absurd h (by omega)), fun _ => hp⟩]
      · rw [if_neg hp, if_neg (fun h => hp (h.2.2.2 (by simp)))]
    rw [HE.out]
    clear hr HE
    generalize polB pk pn nodes = pb at *
    go_enter Try.func24, Try.ntmps24
    go_wp2_with (first | (go_at_call 40; refine (CI.out).mono ?_; rintro e w1 ⟨rfl, rfl⟩) | (go_at_call 46; refine (CR.out _).mono ?_; rintro e w1 ⟨rfl, rfl⟩))
    have HXc := Lib.hid (Ext.refl [] (w.alloc (.cells #[.int .i64 4, .int .i64 pg, .int .i64 n, .int .i64 pm, .int .i64 pk, .int .i64 pn, .int .i64 ad, .int .i64 by_] 39)).drew)
    have HBd := Lib.hid (HB.out.ext (Ext.refl [] _).drew (by simp))
    have HSd := Lib.hid (HS.out.ext (Ext.refl [] _).drew (by simp))
    first | go_region_held3 (fun cur => cur.cell? ⟨w.heap.size, 0, none⟩ = some (.int .i64 4) ∧ cur.cell? ⟨w.heap.size, 4, none⟩ = some (.int .i64 pk) ∧ cur.cell? ⟨w.heap.size, 5, none⟩ = some (.int .i64 pn) ∧ cur.cell? ⟨sp, 0, none⟩ = some (.int .i64 nodes))
      (exact ⟨(HBd.out.ext HXc.out (by simp)).cell 0, (HBd.out.ext HXc.out (by simp)).cell 4, (HBd.out.ext HXc.out (by simp)).cell 5, (HSd.out.ext HXc.out (by simp)).cell 0⟩)
      ((go_at_call 47; refine (CP.out _).mono ?_; rintro e w1 ⟨rfl, hx⟩; have HXc := Lib.hid (HXc.out.trans hx); clear hx)) | fail
    all_goals cases pb
    all_goals
      go_wp2
      go_ret
      exact ⟨rfl, HX.out.drew.trans HXc.out⟩

end Go.Proofs.Ytjicpblncfgiaaa
