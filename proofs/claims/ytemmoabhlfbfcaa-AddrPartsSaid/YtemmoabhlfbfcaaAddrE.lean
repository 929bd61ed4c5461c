/-
  Walks: lists of numbers, compared; ranges and masks as lists (the reference's).
-/
import Derived.Test.YtemmoabhlfbfcaaAddrB
import Derived.Test.YtemmoabhlfbfcaaSl
namespace Go.Proofs.Ytemmoabhlfbfcaa
set_option linter.unusedVariables false
set_option linter.unusedSimpArgs false
open Go.RowKit
set_option maxHeartbeats 400000

theorem drewN_ext (M : List Nat) (w : World) (n : Nat) : Ext M w (w.drewN n) := (Ext.refl M w).drewN n

theorem ints_c (va vb : Value) (A B : List Int) (w : World) (ha : Sl w 1 va (encI A)) (hb : Sl w 1 vb (encI B)) :
    Calls Try.prog 16 #[va, vb] w fun e w' => e = .returned (.bool (decide (A = B))) ∧ Ext [] w w' := by
  obtain ⟨aa, na, ca, rfl, hla, _, hma, hca⟩ := ha.form
  obtain ⟨ab, nb, cb, rfl, hlb, _, hmb, hcb⟩ := hb.form
  simp at hla hlb
  unfold maxLen at hma hmb
  have Hla := Lib.hid hla
  have Hlb := Lib.hid hlb
  clear hla hlb ha hb
  by_cases hn : na = nb
  · subst hn
    go_enter Try.func16, Try.ntmps16
    go_wp2
    go_loopw [5] (fun i wr => ∃ k d : Nat, k ≤ na ∧ i = .int .i64 k ∧ A.take k = B.take k ∧ wr = w.drewN d) (fun i _ => na - (intOf i).toNat)
    case atStart => exact ⟨0, 0, by omega, rfl, by simp, rfl⟩
    case round =>
      obtain ⟨k, d, hk, rfl, ht, rfl⟩ := hrel
      have Ht := Lib.hid ht
      clear ht
      by_cases hlt : k < na
      · obtain ⟨ba, oa, rfl, hba, hca⟩ := hca (by omega)
        obtain ⟨bb, ob, rfl, hbb, hcb⟩ := hcb (by omega)
        have ca1 := hca k (by omega)
        have cb1 := hcb k (by omega)
        have kA : k < A.length := by have := Hla.out; omega
        have kB : k < B.length := by have := Hlb.out; omega
        rw [encI_get, List.getElem?_eq_getElem kA] at ca1
        rw [encI_get, List.getElem?_eq_getElem kB] at cb1
        simp only [Option.map_some] at ca1 cb1
        have htA : A.take (k + 1) = A.take k ++ [A[k]] := List.take_succ_eq_append_getElem kA
        have htB : B.take (k + 1) = B.take k ++ [B[k]] := List.take_succ_eq_append_getElem kB
        have HtA := Lib.hid htA
        have HtB := Lib.hid htB
        have hne : A[k] ≠ B[k] → A ≠ B := fun h e => h (by subst e; rfl)
        generalize A[k] = x at *
        generalize B[k] = y at *
        have Hne := Lib.hid hne
        clear hca hcb htA htB hne
        have hk0 : (0 : Int) ≤ k := by omega
        have hk1 : (k : Int) < na := by omega
        go_wp2
        go_quiet (fail)
        by_cases hxy : x = y
        · subst hxy
          go_wp2
          go_roundw
          case rel => exact ⟨k + 1, d + nq, by omega, by go_num, by rw [HtA.out, HtB.out, Ht.out], by simp [World.drewN_drewN]⟩
          case measure => simp [intOf]; omega
        · have hb : (x != y) = true := by simpa using hxy
          go_wp2
          go_ret
          exact ⟨ret_bool (by simpa using Hne.out hxy), by rw [World.drewN_drewN]; exact drewN_ext _ _ _⟩
      · have hkn : A = B := by
          have := Ht.out
          rwa [List.take_of_length_le (by have := Hla.out; omega), List.take_of_length_le (by have := Hlb.out; omega)] at this
        have Hkn := Lib.hid hkn
        clear hkn
        go_wp2
        go_ret
        exact ⟨ret_bool (by simpa using Hkn.out), drewN_ext _ _ _⟩
  · have hne : A ≠ B := fun e => hn (by have := Hla.out; have := Hlb.out; subst e; omega)
    have hb : ((na : Int) != (nb : Int)) = true := by simp; omega
    have Hne := Lib.hid hne
    clear hne
    go_enter Try.func16, Try.ntmps16
    go_wp2
    go_ret
    exact ⟨ret_bool (by simpa using Hne.out), Ext.refl _ _⟩

theorem ints_true (va vb : Value) (L : List Nat) (w : World) (ha : Sl w 1 va (encN L)) (hb : Sl w 1 vb (encN L)) :
    Calls Try.prog 16 #[va, vb] w fun e w' => e = .returned (.bool true) ∧ Ext [] w w' := by
  rw [encN_eq] at ha hb
  have := ints_c va vb _ _ w ha hb
  simpa using this

end Go.Proofs.Ytemmoabhlfbfcaa
