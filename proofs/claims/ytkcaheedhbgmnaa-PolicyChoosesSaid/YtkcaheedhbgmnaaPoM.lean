/-
  Policy: the plain law: what Order tells is some list of nodes, turned; masks of lists.
-/
import Derived.Test.YtkcaheedhbgmnaaPoL
namespace Go.Proofs.Ytkcaheedhbgmnaa
set_option linter.unusedVariables false
set_option linter.unusedSimpArgs false
open Go.RowKit
set_option maxHeartbeats 1000000
set_option maxRecDepth 100000
set_option linter.unusedVariables false
set_option linter.unusedSimpArgs false

theorem filt_perm (p : Nat → Bool) (l : List Nat) : List.Perm (l.filter p ++ l.filter fun y => !p y) l := List.filter_append_perm p l
theorem arnd_perm {L : List Nat} (h : L.Nodup) (x : Nat) : List.Perm (arnd L x) L := by rw [arnd_ref h]; exact filt_perm _ L
theorem bit_high {m : Int} {n j : Nat} (h1 : 0 ≤ m) (h2 : m < 2 ^ n) (hj : n ≤ j) : bitB m j = false := by
  have h3 : m < 2 ^ j := Int.lt_of_lt_of_le h2 (by
    have : (2 : Nat) ^ n ≤ 2 ^ j := Nat.pow_le_pow_right (by omega) hj
    exact_mod_cast this)
  unfold bitB
  rw [Int.ediv_eq_zero_of_lt h1 h3]; decide +kernel
theorem of_range {m : Int} {n : Nat} (h1 : 0 ≤ m) (h2 : m < 2 ^ n) (hn : n ≤ 8) : ofN m = (List.range n).filter (bitB m) := by
  unfold ofN upto
  have : ∀ d, (List.range (n + d)).filter (bitB m) = (List.range n).filter (bitB m) := by
    intro d
    induction d with
    | zero => rfl
    | succ d ih => rw [← Nat.add_assoc, List.range_succ, List.filter_append, ih]; simp [bit_high h1 h2 (show n ≤ n + d by omega)]
  have := this (8 - n)
  rwa [show n + (8 - n) = 8 by omega] at this
/-- The nodes that are told, rising. -/
def wantL (k m : Int) (n : Nat) : List Nat := if k = 0 ∨ k = 2 then List.range n else ofN m
def wantM (k m : Int) (n : Nat) : Int := if k = 0 ∨ k = 2 then 2 ^ n - 1 else m
theorem ord_perm {k m : Int} {x p n : Nat} (h : OkP k m x p n) : List.Perm (ordL k m x p n) (wantL k m n) := by
  rcases h.kind with ⟨rfl, rfl⟩ | ⟨rfl | rfl | rfl, hm1, hm2⟩
  · simp only [ordL, wantL, if_true, true_or]; exact arnd_perm List.nodup_range _
  · simp only [ordL, wantL]; simp; exact arnd_perm (upto_nodup _ _) _
  · simp only [ordL, wantL]; simp
    refine ((arnd_perm (upto_nodup _ _) x).append_right _).trans ?_
    have e : lft (ofN m) (List.range n) = (List.range n).filter fun y => !bitB m y := by
      unfold lft
      refine List.filter_congr fun y hy => ?_
      have : y < 8 := by have := h.n8; simp at hy; omega
      rw [inL_iff, Bool.eq_iff_iff]; simp [mem_of this]
    rw [e]
    have e2 := of_range (m := m) (by omega) hm2 h.n8.2
    unfold ofN at e2
    rw [e2]
    exact filt_perm _ _
  · simp only [ordL, wantL]; simp
    exact List.perm_append_comm.trans (by rw [List.take_append_drop])
theorem want_nodup (k m : Int) (n : Nat) : (wantL k m n).Nodup := by
  unfold wantL; split
  · exact List.nodup_range
  · exact upto_nodup _ _
theorem ord_nodup {k m : Int} {x p n : Nat} (h : OkP k m x p n) : (ordL k m x p n).Nodup := (ord_perm h).nodup_iff.2 (want_nodup k m n)
theorem ord_lt {k m : Int} {x p n : Nat} (h : OkP k m x p n) {y : Nat} (hy : y ∈ ordL k m x p n) : y < n := by
  have := (ord_perm h).mem_iff.1 hy
  unfold wantL at this
  split at this
  · simpa using this
  · rename_i hk
    rcases h.kind with ⟨rfl, rfl⟩ | ⟨_, hm1, hm2⟩
    · simp at hk
    · rw [of_range (by omega) hm2 h.n8.2] at this; simp at this; exact this.1
theorem ord_len {k m : Int} {x p n : Nat} (h : OkP k m x p n) : (ordL k m x p n).length ≤ 8 := by
  rw [(ord_perm h).length_eq]; unfold wantL; split
  · have := h.n8; simp; omega
  · exact of_le m
theorem want_bit {k m : Int} {x p n : Nat} (h : OkP k m x p n) {y : Nat} (hy : y < 8) : y ∈ wantL k m n ↔ bitB (wantM k m n) y = true := by
  unfold wantL wantM; split
  · rw [← all_of n h.n8.2]; exact mem_of hy
  · exact mem_of hy
theorem want_small {k m : Int} {x p n : Nat} (h : OkP k m x p n) : 0 ≤ wantM k m n ∧ wantM k m n < 256 := by
  have := pow_le8 h.n8.2
  have h2 : (0 : Int) < 2 ^ n := Int.pow_pos (by decide)
  unfold wantM; split
  · omega
  · rcases h.kind with ⟨rfl, rfl⟩ | ⟨_, hm1, hm2⟩ <;> omega

/-! ### Masks of lists -/
def orV (M : Int) (y : Nat) : Int := bits BinOp.or IntKind.i64 M (2 ^ y)
theorem orV_fin : ∀ M : Fin 256, ∀ y : Fin 8, 0 ≤ orV (M.val : Int) y.val ∧ orV (M.val : Int) y.val < 256 ∧ ∀ j : Fin 8, bitB (orV (M.val : Int) y.val) j.val = (bitB (M.val : Int) j.val || decide (j.val = y.val)) := by decide +kernel
theorem sum_fin : ∀ M : Fin 256, (M.val : Int) = (if bitB M.val 0 then 1 else 0) + (if bitB M.val 1 then 2 else 0) + (if bitB M.val 2 then 4 else 0) + (if bitB M.val 3 then 8 else 0) + (if bitB M.val 4 then 16 else 0) + (if bitB M.val 5 then 32 else 0) + (if bitB M.val 6 then 64 else 0) + (if bitB M.val 7 then 128 else 0) := by decide +kernel
/-- M is the mask of these. -/
structure MaskOf (M : Int) (L : List Nat) : Prop where
  lo : 0 ≤ M
  hi : M < 256
  bit : ∀ j, j < 8 → bitB M j = decide (j ∈ L)
theorem MaskOf.nil : MaskOf 0 [] := ⟨by decide, by decide, fun j hj => by
  have : ∀ j : Fin 8, bitB 0 j.val = false := by decide +kernel
  rw [this ⟨j, hj⟩]; simp⟩
theorem MaskOf.snoc {M : Int} {L : List Nat} (h : MaskOf M L) {y : Nat} (hy : y < 8) : MaskOf (orV M y) (L ++ [y]) := by
  have hM : ((M.toNat : Nat) : Int) = M := by have := h.lo; omega
  obtain ⟨h1, h2, h3⟩ := orV_fin ⟨M.toNat, by have := h.hi; have := h.lo; omega⟩ ⟨y, hy⟩
  simp only [hM] at h1 h2 h3
  refine ⟨h1, h2, fun j hj => ?_⟩
  rw [h3 ⟨j, hj⟩, h.bit j hj, Bool.eq_iff_iff]; simp
theorem MaskOf.eq {M N : Int} {L L' : List Nat} (h : MaskOf M L) (h' : MaskOf N L') (e : ∀ j, j < 8 → (j ∈ L ↔ j ∈ L')) : M = N := by
  have hM : ((M.toNat : Nat) : Int) = M := by have := h.lo; omega
  have hN : ((N.toNat : Nat) : Int) = N := by have := h'.lo; omega
  have h1 := sum_fin ⟨M.toNat, by have := h.hi; have := h.lo; omega⟩
  have h2 := sum_fin ⟨N.toNat, by have := h'.hi; have := h'.lo; omega⟩
  simp only [hM, hN] at h1 h2
  have hb : ∀ j, j < 8 → bitB M j = bitB N j := fun j hj => by
    rw [h.bit j hj, h'.bit j hj, Bool.eq_iff_iff]; simp [e j hj]
  rw [h1, h2, hb 0 (by decide), hb 1 (by decide), hb 2 (by decide), hb 3 (by decide), hb 4 (by decide), hb 5 (by decide), hb 6 (by decide), hb 7 (by decide)]
theorem want_mask {k m : Int} {x p n : Nat} (h : OkP k m x p n) : MaskOf (wantM k m n) (wantL k m n) := ⟨(want_small h).1, (want_small h).2, fun j hj => by
  rw [Bool.eq_iff_iff]; simp [want_bit h hj]⟩
theorem mask_done {k m : Int} {x p n : Nat} (h : OkP k m x p n) {M : Int} (hM : MaskOf M (ordL k m x p n)) : M = wantM k m n :=
  hM.eq (want_mask h) (fun j _ => (ord_perm h).mem_iff)

end Go.Proofs.Ytkcaheedhbgmnaa
