/-
  Policy: the library's slices.IndexFunc and slices.DeleteFunc, by the closure of Order.
-/
import Derived.Test.YtkcaheedhbgmnaaPoD
namespace Go.Proofs.Ytkcaheedhbgmnaa
set_option linter.unusedVariables false
set_option linter.unusedSimpArgs false
open Go.RowKit
set_option maxHeartbeats 1000000
set_option maxRecDepth 10000
set_option linter.unusedVariables false
set_option linter.unusedSimpArgs false

theorem order1_c (w : World) (bo : Nat) (v : Value) (L : List Nat) (n : Int) (hb : Blk w bo [v] 67) (hs : Sl w 1 v (encN L)) :
    Calls Try.prog 70 #[.int .i64 n, .pointer (some ⟨bo, 0, none⟩)] w fun e w' => e = .returned (.bool (decide (0 ≤ ixOf L n))) ∧ w = w' := by
  have C := Lib.hid (contains_c w v L n hs)
  have k0 := hb.cell 0
  obtain ⟨a, m, c, rfl, _, _, _, _⟩ := hs.form
  clear hs hb
  go_enter Try.func70, Try.ntmps70
  go_wp2_with (go_at_call 71; refine (C.out).mono ?_; rintro e w' ⟨rfl, rfl⟩)
  go_ret
  exact ⟨rfl, rfl⟩

/-- Where the first number stands that is in L; -1: nowhere. -/
def inL (L : List Nat) (y : Nat) : Bool := decide (0 ≤ ixOf L (y : Int))
def fxOf (A L : List Nat) : Int := match A.findIdx? (inL L) with
  | some i => (i : Int)
  | none => -1
theorem fxOf_no {A L : List Nat} (h : ∀ y, y ∈ A → inL L y = false) : fxOf A L = -1 := by
  unfold fxOf
  rw [List.findIdx?_eq_none_iff.2 h]
theorem fxOf_at {A L : List Nat} {k : Nat} (hk : k < A.length) (h1 : ∀ y, y ∈ A.take k → inL L y = false) (h2 : inL L A[k] = true) : fxOf A L = k := by
  unfold fxOf
  rw [show A.findIdx? (inL L) = some k from ?_]
  rw [List.findIdx?_eq_some_iff_getElem]
  refine ⟨hk, h2, fun j hj => ?_⟩
  have := h1 (A[j]'(by omega)) (by rw [List.mem_take_iff_getElem]; exact ⟨j, by omega, rfl⟩)
  simpa using this

theorem indexFunc_c (w : World) (v : Value) (A : List Nat) (hs : Sl w 1 v (encN A)) (bo : Nat) (u : Value) (L : List Nat) (hb : Blk w bo [u] 67) (hu : Sl w 1 u (encN L)) :
    Calls Try.prog 86 #[v, .func (.func 70) #[] #[.pointer (some ⟨bo, 0, none⟩)]] w fun e w' => e = .returned (.int .i64 (fxOf A L)) ∧ w = w' := by
  obtain ⟨a, n, c, rfl, hl, _, hm, hc⟩ := hs.form
  simp [encN] at hl
  unfold maxLen at hm
  have Hl := Lib.hid hl
  have CO := Lib.hid (fun (y : Nat) => order1_c w bo u L (y : Int) hb hu)
  clear hl hs hb hu
  go_enter Try.func86, Try.ntmps86
  go_wp2
  go_loop [8] (fun i => ∃ k : Nat, k ≤ n ∧ i = .int .i64 k ∧ ∀ y, y ∈ A.take k → inL L y = false) (fun i => n - (intOf i).toNat)
  case atStart => exact ⟨0, by omega, rfl, by simp⟩
  case round =>
    obtain ⟨k, hk, rfl, ht⟩ := hrel
    by_cases hlt : k < n
    · obtain ⟨ba, oa, rfl, hba, hca⟩ := hc (by omega)
      have ca1 := hca k (by omega)
      have kA : k < A.length := by have := Hl.out; omega
      rw [encN_get, List.getElem?_eq_getElem kA] at ca1
      simp only [Option.map_some] at ca1
      have htA : A.take (k + 1) = A.take k ++ [A[k]] := List.take_succ_eq_append_getElem kA
      have HtA := Lib.hid htA
      have Ht := Lib.hid ht
      have Hat := Lib.hid (fun h => fxOf_at kA ht (L := L) h)
      generalize A[k] = z at *
      have i0 : (0 : Int) ≤ (k : Int) := by omega
      have i1 : (k : Int) < (n : Int) := by omega
      have C := Lib.hid (CO.out z)
      have hb2 : decide (0 ≤ ixOf L (z : Int)) = inL L z := rfl
      rw [hb2] at C
      clear hca htA ht hc hb2
      cases hxy : inL L z
      · rw [hxy] at C
        have HX := Lib.hid hxy
        clear hxy
        go_wp2_with (go_at_call 70; refine (C.out).mono ?_; rintro e w' ⟨rfl, rfl⟩)
        go_round
        case rel => exact ⟨k + 1, by omega, by go_num, fun y hy => by
          rw [HtA.out] at hy
          rcases List.mem_append.1 hy with hy | hy
          · exact Ht.out y hy
          · obtain rfl : y = z := by simpa using hy
            exact HX.out⟩
        case measure => simp [intOf]; omega
      · rw [hxy] at C
        have HE := Lib.hid (Hat.out hxy)
        clear hxy
        go_wp2_with (go_at_call 70; refine (C.out).mono ?_; rintro e w' ⟨rfl, rfl⟩)
        go_ret
        exact ⟨by rw [HE.out]; rfl, rfl⟩
    · have hno := fxOf_no (A := A) (L := L) (fun y hy => ht y (by rw [List.take_of_length_le (by have := Hl.out; omega)]; exact hy))
      have HE := Lib.hid hno
      clear ht hno hc
      obtain rfl : k = n := by omega
      go_wp2
      go_ret
      exact ⟨by rw [HE.out]; rfl, rfl⟩

end Go.Proofs.Ytkcaheedhbgmnaa
