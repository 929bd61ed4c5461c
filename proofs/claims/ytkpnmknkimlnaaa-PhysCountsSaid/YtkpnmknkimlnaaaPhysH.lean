/-
  Walks over the reference of phys: owners, counts.
-/
import Derived.Test.YtkpnmknkimlnaaaPhysG
namespace Go.Proofs.Ytkpnmknkimlnaaa
set_option linter.unusedVariables false
set_option linter.unusedSimpArgs false
open Go.RowKit
set_option maxHeartbeats 1000000
set_option maxRecDepth 10000
set_option linter.unusedSectionVars false

theorem rmay_c (br : Nat) (N k n : Int) (w : World) (c0 : w.cell? ⟨br, 0, none⟩ = some (.int .i64 N)) (hb : br < w.heap.size) : Calls Try.prog 70 #[.pointer (some ⟨br, 0, none⟩), .agg #[.int .i64 k, .int .i64 n]] w fun e w' => e = .returned (.bool (mayOwn N k n)) ∧ Ext [] w w' := by
  by_cases hn : 0 ≤ n
  · go_enter Try.func70, Try.ntmps70
    go_wp2
    all_goals (try go_region)
    all_goals (try go_wp2)
    all_goals go_ret
    all_goals (refine ⟨ret_bool ?_, ?_⟩)
    all_goals first
      | exact ((Ext.refl _ _).alloc _).drew
      | exact (Ext.refl _ _).alloc _
      | (simp_all [mayOwn])
  · have hn1 : n < 0 := by omega
    have hn2 : decide (0 ≤ n) = false := by simpa using hn1
    go_enter Try.func70, Try.ntmps70
    go_wp2
    all_goals (try go_region)
    all_goals (try go_wp2)
    all_goals go_ret
    all_goals (refine ⟨ret_bool ?_, ?_⟩)
    all_goals first
      | exact ((Ext.refl _ _).alloc _).drew
      | exact (Ext.refl _ _).alloc _
      | (simp_all [mayOwn] <;> try omega)

def getO (n : Nat) (kd nd : Nat → Int) (f : Int) : Value := if hasF n f then .tuple #[.agg #[.int .i64 (kd f.toNat), .int .i64 (nd f.toNat)], .int .i64 0] else .tuple #[.agg #[.int .i64 0, .int .i64 0], .int .i64 1]
def okO (n : Nat) (N f k x : Int) : Bool := hasF n f && mayOwn N k x
def setO (n : Nat) (N f k x : Int) (g : Nat → Int) (v : Int) : Nat → Int := if okO n N f k x then upd g f.toNat v else g

theorem ownF_0 (kd nd : Nat → Int) (k : Nat) : ownF kd nd (k * 2) = .int .i64 (kd k) := by
  unfold ownF; rw [if_pos (by omega), show k * 2 / 2 = k by omega]
theorem ownF_1 (kd nd : Nat → Int) (k : Nat) : ownF kd nd (k * 2 + 1) = .int .i64 (nd k) := by
  unfold ownF; rw [if_neg (by omega), show (k * 2 + 1) / 2 = k by omega]

def cntR (kd : Nat → Int) (E x kind : Int) : Nat → Nat
  | 0 => 0
  | j + 1 => cntR kd E x kind j + if (wrap64 ((j : Int) / E) = x ∧ kd j = kind) then 1 else 0
theorem cntR_le (kd : Nat → Int) (E x kind : Int) (j : Nat) : cntR kd E x kind j ≤ j := by
  induction j with
  | zero => exact Nat.le_refl _
  | succ j ih => unfold cntR; split <;> omega

section
variable {br bw bo N E : Nat} {wd kd nd : Nat → Int} {w : World} (h : RefIs w br bw bo N E wd kd nd)
include h

theorem RefIs.owner (f : Int) : Calls Try.prog 54 #[.pointer (some ⟨br, 0, none⟩), .int .i64 f] w fun e w' => e = .returned (getO (N * E) kd nd f) ∧ Ext [] w w' := by
  obtain ⟨hm, hw, hn⟩ := h.mul
  have hz := h.ext ((Ext.refl [] w).alloc (.cells #[.int .i64 0, .int .i64 0] 35)) (by simp) (by simp) (by simp)
  have C := Lib.hid (there_c br N E (N * E) f (w.alloc (.cells #[.int .i64 0, .int .i64 0] 35)) (hz.head.cell 0) (hz.head.cell 1) hm hw)
  unfold getO
  cases e1 : hasF (N * E) f
  · rw [e1] at C
    clear h hm hw hn e1 hz
    simp only [Bool.false_eq_true, if_false]
    go_enter Try.func54, Try.ntmps54
    go_wp2_with (go_at_call 52; refine (C.out).mono ?_; rintro e w' ⟨rfl, rfl⟩)
    (try simp only [Exit.inBlock, Exit.then])
    refine bodyPost_ret (v := .tuple #[.agg #[.int .i64 0, .int .i64 0], .int .i64 1]) ?_ rfl ⟨rfl, ?_⟩
    · rw [results_cell_tmp rfl]
      go_simp
    · repeat' (first | exact Ext.refl _ _ | refine Ext.drew ?_ | refine Ext.alloc ?_ _ | refine Ext.setCell ?_ _ _ (.inr (Nat.le_refl _)))
  · obtain ⟨k, rfl, hk⟩ := hasF_nat e1
    rw [e1] at C
    have t4 : (k : Int).toNat = k := by omega
    rw [if_pos rfl, t4]
    have o0 := hz.owns.cell (k := k * 2) (by omega)
    have o1 := hz.owns.cell (k := k * 2 + 1) (by omega)
    rw [ownF_0] at o0
    rw [ownF_1] at o1
    have o2 := hz.head.cell 3
    have hlt : (k : Int) < ((N * E : Nat) : Int) := by omega
    have hb := h.owns.lt
    have hb' := h.head.lt
    simp only [List.getElem?_cons_succ, List.getElem?_cons_zero] at o2
    generalize N * E = M at *
    clear h hm hw hn e1 hz t4
    go_enter Try.func54, Try.ntmps54
    go_wp2_with (go_at_call 52; refine (C.out).mono ?_; rintro e w' ⟨rfl, rfl⟩)
    (try simp only [Exit.inBlock, Exit.then])
    refine bodyPost_ret (v := .tuple #[.agg #[.int .i64 (kd k), .int .i64 (nd k)], .int .i64 0]) ?_ rfl ⟨rfl, ?_⟩
    · rw [results_cell_tmp rfl]
      go_simp
    · repeat' (first | exact Ext.refl _ _ | refine Ext.drew ?_ | refine Ext.alloc ?_ _ | refine Ext.setCell ?_ _ _ (.inr (Nat.le_refl _)))

theorem RefIs.own2 {j : Nat} (hj : j < N * E) (k x : Int) : RefIs ((w.setCell ⟨bo, j * 2, none⟩ (.int .i64 k)).setCell ⟨bo, j * 2 + 1, none⟩ (.int .i64 x)) br bw bo N E wd (upd kd j k) (upd nd j x) := by
  have hx : Ext [bo] w ((w.setCell ⟨bo, j * 2, none⟩ (.int .i64 k)).setCell ⟨bo, j * 2 + 1, none⟩ (.int .i64 x)) := ((Ext.refl _ _).setCell _ _ (.inl (by simp))).setCell _ _ (.inl (by simp))
  refine ⟨h.hN, h.hE, h.d1, h.d2, h.d3, h.head.ext hx (by simp [h.d2]), h.words.ext hx (by simp [h.d3]), ((h.owns.set (j := j * 2) (by omega) (.int .i64 k)).set (j := j * 2 + 1) (by omega) (.int .i64 x)).congr ?_⟩
  intro q hq
  unfold ownF upd
  by_cases e1 : q = j * 2 + 1
  · subst e1; rw [if_pos rfl, if_neg (by omega), if_pos (by omega)]
  · rw [if_neg e1]
    by_cases e2 : q = j * 2
    · subst e2; rw [if_pos rfl, if_pos (by omega), if_pos (by omega)]
    · rw [if_neg e2]
      show (if q % 2 = 0 then Value.int .i64 (kd (q / 2)) else Value.int .i64 (nd (q / 2))) = _
      by_cases e3 : q % 2 = 0
      · rw [if_pos e3, if_pos e3, if_neg (by omega)]
      · rw [if_neg e3, if_neg e3, if_neg (by omega)]

theorem RefIs.setOwner (f k x : Int) : Calls Try.prog 50 #[.pointer (some ⟨br, 0, none⟩), .int .i64 f, .agg #[.int .i64 k, .int .i64 x]] w fun e w' =>
    e = .returned (.int .i64 (errB (okO (N * E) N f k x))) ∧ Ext [bo] w w' ∧ RefIs w' br bw bo N E wd (setO (N * E) N f k x kd k) (setO (N * E) N f k x nd x) := by
  obtain ⟨hm, hw, hn⟩ := h.mul
  have hz := h.ext ((Ext.refl [] w).alloc (.cells #[.int .i64 k, .int .i64 x] 35)) (by simp) (by simp) (by simp)
  have hz' := hz.ext (Ext.refl [] _).drew (by simp) (by simp) (by simp)
  have C := Lib.hid (there_c br N E (N * E) f (w.alloc (.cells #[.int .i64 k, .int .i64 x] 35)) (hz.head.cell 0) (hz.head.cell 1) hm hw)
  have CM := Lib.hid (rmay_c br N k x (w.alloc (.cells #[.int .i64 k, .int .i64 x] 35)).drew (hz'.head.cell 0) hz'.head.lt)
  have hB := (Blk.new w [.int .i64 k, .int .i64 x] 35).ext (Ext.refl [] _).drew (by simp)
  have hc0 : Ext [bo] w (w.alloc (.cells #[.int .i64 k, .int .i64 x] 35)).drew := ((Ext.refl _ _).alloc _).drew
  have b0 := hB.cell 0
  have b1 := hB.cell 1
  unfold setO okO errB
  cases e1 : hasF (N * E) f
  · rw [e1] at C
    have HZ := Lib.hid hz'
    have HC0 := Lib.hid hc0
    clear h hm hw hn e1 hz hz' hc0
    simp only [Bool.false_eq_true, if_false, Bool.false_and]
    go_enter Try.func50, Try.ntmps50
    go_wp2_with (go_at_call 52; refine (C.out).mono ?_; rintro e w' ⟨rfl, rfl⟩)
    go_ret
    exact ⟨rfl, HC0.out, HZ.out⟩
  · obtain ⟨j, rfl, hk⟩ := hasF_nat e1
    rw [e1] at C
    have t4 : (j : Int).toNat = j := by omega
    rw [t4, Bool.true_and]
    cases e2 : mayOwn N k x
    · rw [e2] at CM
      have HZ := Lib.hid hz'
      have HC0 := Lib.hid hc0
      clear h hm hw hn e1 hz hz' hc0 e2
      simp only [Bool.false_eq_true, if_false]
      go_enter Try.func50, Try.ntmps50
      go_wp2_with (first
        | (go_at_call 52; refine (C.out).mono ?_; rintro e w' ⟨rfl, rfl⟩)
        | (go_at_call 70; refine (CM.out).mono ?_; rintro e w' ⟨rfl, hx⟩))
      go_ret
      exact ⟨rfl, HC0.out.trans (hx.mono (by simp)), HZ.out.ext hx (by simp) (by simp) (by simp)⟩
    · rw [e2] at CM
      rw [if_pos rfl, if_pos rfl, if_pos rfl]
      have HZ := Lib.hid hz'
      have HC0 := Lib.hid hc0
      have hlt : (j : Int) < ((N * E : Nat) : Int) := by omega
      have HK := Lib.hid hk
      have HN := Lib.hid hn
      clear h hm hw hn e1 hz hz' hc0 e2 t4
      generalize hM : N * E = M at *
      have HM := Lib.hid hM
      clear hM
      go_enter Try.func50, Try.ntmps50
      go_wp2_with (first
        | (go_at_call 52; refine (C.out).mono ?_; rintro e w' ⟨rfl, rfl⟩)
        | (go_at_call 70; refine (CM.out).mono ?_; rintro e w' ⟨rfl, hx⟩; have hR := HZ.out.ext (hx.drew) (by simp) (by simp) (by simp); have b0 := (hB.ext hx.drew (by simp)).cell 0; have b1 := (hB.ext hx.drew (by simp)).cell 1; have o3 := hR.head.cell 3; have o0 := hR.owns.cell (k := j * 2) (by have := HK.out; have := HM.out; omega); have o1 := hR.owns.cell (k := j * 2 + 1) (by have := HK.out; have := HM.out; omega); have q0 := hR.owns.fr (k := j * 2) (by have := HK.out; have := HM.out; omega); have q1 := hR.owns.fr (k := j * 2 + 1) (by have := HK.out; have := HM.out; omega); simp only [List.getElem?_cons_succ, List.getElem?_cons_zero] at o3; rw [HM.out] at o3; have o0' := o0; have o1' := o1; have q0' := q0; have q1' := q1; rw [World.cell?_drew] at o0' o1'; rw [show ∀ a, w'.drew.frozen? a = w'.frozen? a from fun _ => rfl] at q0' q1'; have HR := Lib.hid hR; clear hR))
      go_region
      all_goals go_wp2
      go_ret
      exact ⟨rfl, ((HC0.out.trans (hx.drew.mono (by simp))).setCell _ _ (.inl (by simp))).setCell _ _ (.inl (by simp)), HR.out.own2 (by rw [HM.out]; exact HK.out) k x⟩

theorem RefIs.count (x kind : Int) : Calls Try.prog 19 #[.pointer (some ⟨br, 0, none⟩), .int .i64 x, .int .i64 kind] w fun e w' => e = .returned (.int .i64 (cntR kd E x kind (N * E))) ∧ Ext [] w w' := by
  obtain ⟨hm, hw, hn⟩ := h.mul
  have hE : 0 < E := h.hE.1
  have hE0 : ¬ ((E : Int) = 0) := by omega
  have H := Lib.hid h
  clear h
  generalize hM : N * E = M at *
  have HM := Lib.hid hM
  clear hM
  go_enter Try.func19, Try.ntmps19
  go_wp2
  go_loopw [7, 8] (fun u i wr => ∃ j : Nat, j ≤ M ∧ i = .int .i64 j ∧ u = .int .i64 (cntR kd E x kind j) ∧ Ext [] w wr) (fun u i _ => M - (intOf i).toNat)
  case atStart => exact ⟨0, by omega, rfl, rfl, Ext.refl _ _⟩
  case round =>
    obtain ⟨j, hj, rfl, rfl, hx⟩ := hrel
    have hR := H.out.ext hx (by simp) (by simp) (by simp)
    have d0 := hR.head.cell 0
    have d1 := hR.head.cell 1
    have d3 := hR.head.cell 3
    simp only [List.getElem?_cons_succ, List.getElem?_cons_zero] at d0 d1 d3
    have hle := cntR_le kd E x kind j
    have hk : cntR kd E x kind (j + 1) = cntR kd E x kind j + if (wrap64 ((j : Int) / (E : Int)) = x ∧ kd j = kind) then 1 else 0 := rfl
    rw [HM.out] at d3
    by_cases hlt : j < M
    · have o0 := hR.owns.cell (k := j * 2) (by have := HM.out; omega)
      rw [ownF_0] at o0
      have hj1 : (j : Int) < (M : Int) := by omega
      have Hk := Lib.hid hk
      have HX := Lib.hid hx
      clear hk hx hR
      generalize cntR kd E x kind j = c at *
      generalize kd j = q at *
      by_cases h1 : wrap64 ((j : Int) / (E : Int)) = x
      · by_cases h2 : q = kind
        · go_wp2
          go_region
          all_goals go_wp2
          go_roundw
          case rel => exact ⟨j + 1, by omega, by simp, by rw [Hk.out]; simp [h1, h2], HX.out.drew⟩
          case measure => simp [intOf]; omega
        · go_wp2
          go_region
          all_goals go_wp2
          go_roundw
          case rel => exact ⟨j + 1, by omega, by simp, by rw [Hk.out]; simp [h2], HX.out.drew⟩
          case measure => simp [intOf]; omega
      · have h1' : (wrap64 ((j : Int) / (E : Int)) == x) = false := by simpa using h1
        go_wp2
        go_region
        all_goals go_wp2
        go_roundw
        case rel => exact ⟨j + 1, by omega, by simp, by rw [Hk.out]; simp [h1], HX.out.drew⟩
        case measure => simp [intOf]; omega
    · obtain rfl : j = M := by omega
      have HX := Lib.hid hx
      clear hk hx hR
      go_wp2
      go_region
      all_goals go_wp2
      all_goals (go_ret; exact ⟨rfl, HX.out.drew⟩)

end
end Go.Proofs.Ytkpnmknkimlnaaa
