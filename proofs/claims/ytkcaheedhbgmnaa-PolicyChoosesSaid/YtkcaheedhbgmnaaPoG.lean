/-
  Policy: Check and around, as the program has them.
-/
import Derived.Test.YtkcaheedhbgmnaaPoF
import Derived.Deep.RegionHeld3
namespace Go.Proofs.Ytkcaheedhbgmnaa
set_option linter.unusedVariables false
set_option linter.unusedSimpArgs false
open Go.RowKit
set_option maxHeartbeats 1000000
set_option maxRecDepth 10000
set_option linter.unusedVariables false
set_option linter.unusedSimpArgs false

/-- Why a policy may not be. -/
def checkS (k m n : Int) : Int := if 1 ≤ n ∧ n ≤ 8 ∧ ((k = 0 ∧ m = 0) ∨ (1 ≤ k ∧ k ≤ 3)) then (if k = 0 then 0 else maskS m n) else 1
def polV (k m : Int) : Value := .agg #[.int .i64 k, .int .i64 m]

theorem check_c (k m n : Int) (w : World) : Calls Try.prog 37 #[polV k m, .int .i64 n] w fun e w' => e = .returned (.int .i64 (checkS k m n)) ∧ Ext [] w w' := by
  unfold polV
  have C := Lib.hid (fun w => mask_c m n w)
  by_cases h1 : 1 ≤ n
  · by_cases h2 : n ≤ 8
    · by_cases h3 : k = 0
      · subst h3
        by_cases h4 : m = 0
        · subst h4
          rw [show checkS 0 0 n = 0 by unfold checkS; simp [h1, h2]]
          go_enter Try.func37, Try.ntmps37
          go_wp2
          go_ret
          exact ⟨rfl, (Ext.refl _ _).alloc _⟩
        · rw [show checkS 0 m n = 1 by unfold checkS; simp [h4]]
          have e1 : (m == 0) = false := by simpa using h4
          go_enter Try.func37, Try.ntmps37
          go_wp2
          go_ret
          exact ⟨rfl, (Ext.refl _ _).alloc _⟩
      · have e1 : (k == 0) = false := by simpa using h3
        by_cases h4 : 0 < k
        · by_cases h5 : k ≤ 3
          · rw [show checkS k m n = maskS m n by unfold checkS; rw [if_pos ⟨h1, h2, .inr ⟨by omega, h5⟩⟩, if_neg h3]]
            clear h3
            go_enter Try.func37, Try.ntmps37
            go_wp2_with (go_at_call 74; refine (C.out _).mono ?_; rintro e w' ⟨rfl, rfl⟩)
            go_ret
            exact ⟨rfl, (Ext.refl _ _).alloc _⟩
          · rw [show checkS k m n = 1 by unfold checkS; rw [if_neg (by omega)]]
            clear h3
            go_enter Try.func37, Try.ntmps37
            go_wp2
            go_ret
            exact ⟨rfl, (Ext.refl _ _).alloc _⟩
        · rw [show checkS k m n = 1 by unfold checkS; rw [if_neg (by omega)]]
          clear h3
          go_enter Try.func37, Try.ntmps37
          go_wp2
          go_ret
          exact ⟨rfl, (Ext.refl _ _).alloc _⟩
    · rw [show checkS k m n = 1 by unfold checkS; rw [if_neg (by omega)]]
      go_enter Try.func37, Try.ntmps37
      go_wp2
      go_ret
      exact ⟨rfl, (Ext.refl _ _).alloc _⟩
  · rw [show checkS k m n = 1 by unfold checkS; rw [if_neg (by omega)]]
    go_enter Try.func37, Try.ntmps37
    go_wp2
    go_ret
    exact ⟨rfl, (Ext.refl _ _).alloc _⟩

theorem rcheck_c (k m n : Int) (w : World) : Calls Try.prog 38 #[polV k m, .int .i64 n] w fun e w' => e = .returned (.int .i64 (checkS k m n)) ∧ Ext [] w w' := by
  unfold polV
  have C := Lib.hid (fun w => rmask_c m n w)
  by_cases h1 : 1 ≤ n
  · by_cases h2 : n ≤ 8
    · by_cases h3 : k = 0
      · subst h3
        by_cases h4 : m = 0
        · subst h4
          rw [show checkS 0 0 n = 0 by unfold checkS; simp [h1, h2]]
          go_enter Try.func38, Try.ntmps38
          go_wp2
          go_ret
          exact ⟨rfl, (Ext.refl _ _).alloc _⟩
        · rw [show checkS 0 m n = 1 by unfold checkS; simp [h4]]
          have e1 : (m != 0) = true := by simpa using h4
          go_enter Try.func38, Try.ntmps38
          go_wp2
          go_ret
          exact ⟨rfl, (Ext.refl _ _).alloc _⟩
      · have e1 : (k == 0) = false := by simpa using h3
        by_cases h4 : 0 < k
        · by_cases h5 : k ≤ 3
          · rw [show checkS k m n = maskS m n by unfold checkS; rw [if_pos ⟨h1, h2, .inr ⟨by omega, h5⟩⟩, if_neg h3]]
            clear h3
            go_enter Try.func38, Try.ntmps38
            go_wp2_with (go_at_call 41; refine (C.out _).mono ?_; rintro e w' ⟨rfl, rfl⟩)
            go_ret
            exact ⟨rfl, (Ext.refl _ _).alloc _⟩
          · rw [show checkS k m n = 1 by unfold checkS; rw [if_neg (by omega)]]
            clear h3
            go_enter Try.func38, Try.ntmps38
            go_wp2
            go_ret
            exact ⟨rfl, (Ext.refl _ _).alloc _⟩
        · rw [show checkS k m n = 1 by unfold checkS; rw [if_neg (by omega)]]
          have h6 : k < 0 := by omega
          clear h3 h4
          go_enter Try.func38, Try.ntmps38
          go_wp2
          go_ret
          exact ⟨rfl, (Ext.refl _ _).alloc _⟩
    · rw [show checkS k m n = 1 by unfold checkS; rw [if_neg (by omega)]]
      go_enter Try.func38, Try.ntmps38
      go_wp2
      go_ret
      exact ⟨rfl, (Ext.refl _ _).alloc _⟩
  · rw [show checkS k m n = 1 by unfold checkS; rw [if_neg (by omega)]]
    go_enter Try.func38, Try.ntmps38
    go_wp2
    go_ret
    exact ⟨rfl, (Ext.refl _ _).alloc _⟩

/-- Nodes, one first, if it is one of them. -/
def arnd (L : List Nat) (x : Nat) : List Nat := if ixOf L (x : Int) < 0 then L else [x] ++ (L.take (ixOf L (x : Int)).toNat ++ L.drop ((ixOf L (x : Int)).toNat + 1))
theorem ixOf_form (L : List Nat) (x : Int) : ixOf L x = -1 ∨ ∃ k : Nat, k < L.length ∧ ixOf L x = k := by
  unfold ixOf
  cases h : L.findIdx? (fun (y : Nat) => decide ((y : Int) = x)) with
  | none => exact .inl rfl
  | some i => exact .inr ⟨i, (List.findIdx?_eq_some_iff_getElem.1 h).1, rfl⟩

/-- A slice's end. -/
theorem Sl.drop {w : World} {b o n c : Nat} {xs : List Value} (h : Sl w 1 (.slice (some ⟨b, o, none⟩) n c) xs) {k : Nat} (hk : k ≤ n) (hkc : k < c) : Sl w 1 (.slice (some ⟨b, o + k, none⟩) (n - k) (c - k)) (xs.drop k) := by
  rcases h with ⟨h, _⟩ | ⟨b', o', n', cap', h, h0, h00, h1, h2, h3⟩
  · cases h
  · cases h
    refine .inr ⟨b, o + k, n - k, c - k, rfl, by omega, by omega, h1, by simp at h2 ⊢; omega, fun j hj => ?_⟩
    rw [show o + k + j = o + (k + j) by omega, h3 (k + j) (by omega), List.getElem?_drop]
theorem Sl.drop_end {w : World} {a : Option Addr} {n : Nat} {xs : List Value} (h : Sl w 1 (.slice a n n) xs) : Sl w 1 (.slice a 0 0) (xs.drop n) := by
  rcases h with ⟨h, rfl⟩ | ⟨b', o', n', cap', h, h0, h00, h1, h2, h3⟩
  · cases h; exact .inl ⟨rfl, by simp⟩
  · cases h
    exact .inr ⟨b', o', 0, 0, rfl, by omega, by omega, h1, by simp at h2 ⊢; omega, fun j hj => by omega⟩

theorem Sl.drop_if {w : World} {b o n c : Nat} {xs : List Value} (h : Sl w 1 (.slice (some ⟨b, o, none⟩) n c) xs) {k : Nat} (hk : k ≤ n) : Sl w 1 (.slice (if c = k then some ⟨b, o, none⟩ else some ⟨b, o + k, none⟩) (n - k) (c - k)) (xs.drop k) := by
  have hnc : n ≤ c := by obtain ⟨_, _, _, e, _, h, _⟩ := h.form; cases e; exact h
  by_cases e : c = k
  · obtain rfl : n = k := by omega
    subst e
    rw [if_pos rfl, Nat.sub_self]; exact Sl.drop_end h
  · rw [if_neg e]; exact Sl.drop h hk (by omega)
/-- A slice of these numbers. -/
def RetS (L : List Nat) (w : World) (e : Ending) (w' : World) : Prop := ∃ v, e = .returned v ∧ Sl w' 1 v (encN L) ∧ Ext [] w w'

theorem around_c (w : World) (v : Value) (L : List Nat) (x : Nat) (hs : Sl w 1 v (encN L)) (hL : L.length ≤ 8) : Calls Try.prog 68 #[v, .int .i64 (x : Int)] w (RetS (arnd L x) w) := by
  have CI := Lib.hid (index_c w v L (x : Int) hs)
  rcases ixOf_form L (x : Int) with hi | ⟨i, hil, hi⟩
  · rw [show arnd L x = L by unfold arnd; rw [if_pos (by omega)]]
    rw [hi] at CI
    have HS := Lib.hid hs
    clear hs hi
    go_enter Try.func68, Try.ntmps68
    go_wp2_with (go_at_call 85; refine (CI.out).mono ?_; rintro e w' ⟨rfl, rfl⟩)
    go_ret
    exact ⟨_, rfl, HS.out, Ext.refl _ _⟩
  · have ha : arnd L x = [[x], L.take i, L.drop (i + 1)].flatten := by
      unfold arnd; rw [hi, if_neg (by omega)]; simp
    rw [ha]
    rw [hi] at CI
    obtain ⟨a, n, c, rfl, hl, hnc, hm, hc⟩ := hs.form
    simp [encN] at hl
    obtain ⟨b, o, rfl, hb, _⟩ := hc (by omega)
    have hil' : i < n := by omega
    unfold maxLen at hm
    have HS := Lib.hid hs
    have HL := Lib.hid hl
    have HCat := Lib.hid (fun w g vs h => concatI_c w g vs [[x], L.take i, L.drop (i + 1)] h)
    have hn8 : n ≤ 8 := by omega
    have i0 : (0 : Int) ≤ (i : Int) := by omega
    have i1 : (i : Int) ≤ (n : Int) := by omega
    have i2 : (i : Int) ≤ (c : Int) := by omega
    have i3 : (i : Int) + 1 ≤ (n : Int) := by omega
    have i4 : (n : Int) ≤ (c : Int) := by omega
    have i5 : (0 : Int) ≤ (i : Int) + 1 := by omega
    have i6 : ((i : Int) + 1).toNat = i + 1 := by omega
    have i7 : IntKind.i64.wrap ((i : Int) + 1) = (i : Int) + 1 := IntWalk.i64_in _ (by omega)
    have hlt0 : decide ((i : Int) < 0) = false := by simp
    have HIL := Lib.hid hil
    have hx1 : Ext [] w (((w.alloc (.cells #[.int .i64 (x : Int)] 3)).alloc (.cells #[.slice (some ⟨w.heap.size, 0, none⟩) 1 1, .slice (some ⟨b, o, none⟩) i c, .slice (if c = i + 1 then some ⟨b, o, none⟩ else some ⟨b, o + (i + 1), none⟩) (n - (i + 1)) (c - (i + 1))] 67)).drew) := ((Ext.refl _ _).alloc _).alloc _ |>.drew
    have HX1 := Lib.hid hx1
    have HR : Hid (Rows3 (((w.alloc (.cells #[.int .i64 (x : Int)] 3)).alloc (.cells #[.slice (some ⟨w.heap.size, 0, none⟩) 1 1, .slice (some ⟨b, o, none⟩) i c, .slice (if c = i + 1 then some ⟨b, o, none⟩ else some ⟨b, o + (i + 1), none⟩) (n - (i + 1)) (c - (i + 1))] 67)).drew) (w.heap.size + 1) [.slice (some ⟨w.heap.size, 0, none⟩) 1 1, .slice (some ⟨b, o, none⟩) i c, .slice (if c = i + 1 then some ⟨b, o, none⟩ else some ⟨b, o + (i + 1), none⟩) (n - (i + 1)) (c - (i + 1))] [[x], L.take i, L.drop (i + 1)]) := by
      have l1 : (L.take i).length = i := by simp; omega
      have l2 : (L.drop (i + 1)).length = n - (i + 1) := by simp; omega
      refine ⟨rfl, by simp, ?_, fun k hk => ?_, fun p hp => ?_⟩
      · have := Blk.new (w.alloc (.cells #[.int .i64 (x : Int)] 3)) [.slice (some ⟨w.heap.size, 0, none⟩) 1 1, .slice (some ⟨b, o, none⟩) i c, .slice (if c = i + 1 then some ⟨b, o, none⟩ else some ⟨b, o + (i + 1), none⟩) (n - (i + 1)) (c - (i + 1))] 67
        exact (by simpa using this : Blk _ (w.heap.size + 1) _ _)
      · have hk' : k < 3 := by simpa using hk
        match k, hk' with
        | 0, _ => exact ⟨_, _, rfl, Sl.ext (Sl.lit w 1 1 [.int .i64 (x : Int)] 3 (by decide) rfl) (((Ext.refl [] _).alloc _).drew) (by simp)⟩
        | 1, _ =>
          refine ⟨some ⟨b, o, none⟩, c, by simp; omega, ?_⟩
          have := (Sl.take (Sl.ext hs hx1 (by simp)) (k := i) (by omega)).resolve_right (by simp)
          rw [← encN_take] at this
          simpa [l1] using this
        | 2, _ =>
          refine ⟨(if c = i + 1 then some ⟨b, o, none⟩ else some ⟨b, o + (i + 1), none⟩), c - (i + 1), by simp; omega, ?_⟩
          have := Sl.drop_if (Sl.ext hs hx1 (by simp)) (k := i + 1) (by omega)
          rw [show (encN L).drop (i + 1) = encN (L.drop (i + 1)) by simp [encN]] at this
          simpa [l2] using this
      · simp at hp
        rcases hp with rfl | rfl | rfl
        · simp
        · omega
        · omega
    clear hx1
    clear hs hl ha hi hc hL hil
    by_cases hci : c = i + 1
    · simp only [if_pos hci] at HR HX1
      have hci' : (c = i + 1) = True := eq_true hci
      clear hci
      go_enter Try.func68, Try.ntmps68
      go_wp2_with (go_at_call 85; refine (CI.out).mono ?_; rintro e w' ⟨rfl, rfl⟩)
      go_region_held3 (fun cur => True) (trivial) (((go_at_call 72; refine (HCat.out _ _ _ HR.out).mono ?_; rintro e w' ⟨v', rfl, ho, hx⟩; have HO := Lib.hid ho; have HX := Lib.hid hx; clear ho hx)))
      go_wp2
      go_ret
      exact ⟨_, rfl, Sl.of_own HO.out, (HX1.out).trans HX.out⟩
    · simp only [if_neg hci] at HR HX1
      go_enter Try.func68, Try.ntmps68
      go_wp2_with (go_at_call 85; refine (CI.out).mono ?_; rintro e w' ⟨rfl, rfl⟩)
      go_region_held3 (fun cur => True) (trivial) (((go_at_call 72; refine (HCat.out _ _ _ HR.out).mono ?_; rintro e w' ⟨v', rfl, ho, hx⟩; have HO := Lib.hid ho; have HX := Lib.hid hx; clear ho hx)))
      go_wp2
      go_ret
      exact ⟨_, rfl, Sl.of_own HO.out, (HX1.out).trans HX.out⟩

end Go.Proofs.Ytkcaheedhbgmnaa
