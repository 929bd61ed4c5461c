/-
  Policy: the library's slices.Index and slices.Contains over numbers.
-/
import Derived.Test.YtkcaheedhbgmnaaPoC
namespace Go.Proofs.Ytkcaheedhbgmnaa
set_option linter.unusedVariables false
set_option linter.unusedSimpArgs false
open Go.RowKit
set_option maxHeartbeats 1000000
set_option maxRecDepth 10000
set_option linter.unusedVariables false
set_option linter.unusedSimpArgs false

/-- Where a number stands first; -1: nowhere. -/
def ixOf (L : List Nat) (x : Int) : Int := match L.findIdx? (fun (y : Nat) => decide ((y : Int) = x)) with
  | some i => (i : Int)
  | none => -1
theorem ixOf_no {L : List Nat} {x : Int} (h : ∀ y, y ∈ L → ¬ (y : Int) = x) : ixOf L x = -1 := by
  unfold ixOf
  rw [List.findIdx?_eq_none_iff.2 (fun y hy => by simpa using h y hy)]
theorem ixOf_at {L : List Nat} {x : Int} {k : Nat} (hk : k < L.length) (h1 : ∀ y, y ∈ L.take k → ¬ (y : Int) = x) (h2 : (L[k] : Int) = x) : ixOf L x = k := by
  unfold ixOf
  rw [show L.findIdx? (fun (y : Nat) => decide ((y : Int) = x)) = some k from ?_]
  rw [List.findIdx?_eq_some_iff_getElem]
  refine ⟨hk, by simpa using h2, fun j hj => ?_⟩
  have := h1 (L[j]'(by omega)) (by rw [List.mem_take_iff_getElem]; exact ⟨j, by omega, rfl⟩)
  simpa using this
theorem index_c (w : World) (v : Value) (L : List Nat) (x : Int) (hs : Sl w 1 v (encN L)) : Calls Try.prog 85 #[v, .int .i64 x] w fun e w' => e = .returned (.int .i64 (ixOf L x)) ∧ w = w' := by
  obtain ⟨a, n, c, rfl, hl, _, hm, hc⟩ := hs.form
  simp [encN] at hl
  unfold maxLen at hm
  have Hl := Lib.hid hl
  clear hl hs
  go_enter Try.func85, Try.ntmps85
  go_wp2
  go_loop [8] (fun i => ∃ k : Nat, k ≤ n ∧ i = .int .i64 k ∧ ∀ y, y ∈ L.take k → ¬ (y : Int) = x) (fun i => n - (intOf i).toNat)
  case atStart => exact ⟨0, by omega, rfl, by simp⟩
  case round =>
    obtain ⟨k, hk, rfl, ht⟩ := hrel
    by_cases hlt : k < n
    · obtain ⟨ba, oa, rfl, hba, hca⟩ := hc (by omega)
      have ca1 := hca k (by omega)
      have kA : k < L.length := by have := Hl.out; omega
      rw [encN_get, List.getElem?_eq_getElem kA] at ca1
      simp only [Option.map_some] at ca1
      have htA : L.take (k + 1) = L.take k ++ [L[k]] := List.take_succ_eq_append_getElem kA
      have HtA := Lib.hid htA
      have Ht := Lib.hid ht
      have Hat := Lib.hid (fun h => ixOf_at kA ht (x := x) h)
      generalize L[k] = z at *
      have i0 : (0 : Int) ≤ (k : Int) := by omega
      have i1 : (k : Int) < (n : Int) := by omega
      clear hca htA ht hc
      by_cases hxy : x = (z : Int)
      · have e1 : (x == (z : Int)) = true := by simpa using hxy
        have e2 := Hat.out hxy.symm
        have HE := Lib.hid e2
        clear e2 hxy
        go_wp2
        go_ret
        exact ⟨by rw [HE.out]; rfl, rfl⟩
      · have e1 : (x == (z : Int)) = false := by simpa using hxy
        go_wp2
        go_round
        case rel => exact ⟨k + 1, by omega, by go_num, fun y hy => by
          rw [HtA.out] at hy
          rcases List.mem_append.1 hy with hy | hy
          · exact Ht.out y hy
          · obtain rfl : y = z := by simpa using hy
            exact fun h => hxy h.symm⟩
        case measure => simp [intOf]; omega
    · have hno := ixOf_no (L := L) (x := x) (fun y hy => ht y (by rw [List.take_of_length_le (by have := Hl.out; omega)]; exact hy))
      have HE := Lib.hid hno
      clear ht hno hc
      obtain rfl : k = n := by omega
      go_wp2
      go_ret
      exact ⟨by rw [HE.out]; rfl, rfl⟩

theorem contains_c (w : World) (v : Value) (L : List Nat) (x : Int) (hs : Sl w 1 v (encN L)) : Calls Try.prog 71 #[v, .int .i64 x] w fun e w' => e = .returned (.bool (decide (0 ≤ ixOf L x))) ∧ w = w' := by
  have C := Lib.hid (index_c w v L x hs)
  clear hs
  go_enter Try.func71, Try.ntmps71
  go_wp2_with (go_at_call 85; refine (C.out).mono ?_; rintro e w' ⟨rfl, rfl⟩)
  go_ret
  exact ⟨rfl, rfl⟩

end Go.Proofs.Ytkcaheedhbgmnaa
