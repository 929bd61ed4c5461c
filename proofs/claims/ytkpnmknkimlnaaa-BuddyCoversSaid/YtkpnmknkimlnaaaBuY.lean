/-
  Buddy, plain law: blocks of both kinds cover all places, each once. It names no program.
-/
import Derived.Test.YtkpnmknkimlnaaaBuX
namespace Go.Proofs.Ytkpnmknkimlnaaa.BuT
open Go.RowKit
section
variable {kd od : Nat → Nat} {n c : Nat}
/-- The places and orders of a kind's blocks, below m. -/
def qs (kd od : Nat → Nat) (c : Nat) : Nat → List (Nat × Nat)
  | 0 => []
  | m + 1 => qs kd od c m ++ (if kd m = c then [(m, od m)] else [])
def bkQ (F : Int) (x : Nat × Nat) : Bk := ⟨F + (x.1 : Int), (x.2 : Int)⟩
theorem blks_qs (F : Int) : ∀ m, blks F kd od c m = (qs kd od c m).map (bkQ F)
  | 0 => rfl
  | m + 1 => by
    unfold blks qs one
    rw [blks_qs F m, List.map_append]
    split <;> rfl
theorem mem_qs {x : Nat × Nat} : ∀ {m : Nat}, x ∈ qs kd od c m ↔ x.1 < m ∧ kd x.1 = c ∧ x.2 = od x.1
  | 0 => by simp [qs]
  | m + 1 => by
    unfold qs
    rw [List.mem_append, mem_qs]
    constructor
    · rintro (⟨h1, h2, h3⟩ | h)
      · exact ⟨by omega, h2, h3⟩
      · by_cases e : kd m = c
        · rw [if_pos e] at h
          obtain rfl : x = (m, od m) := by simpa using h
          exact ⟨by simp, e, rfl⟩
        · rw [if_neg e] at h; cases h
    · rintro ⟨h1, h2, h3⟩
      by_cases e : x.1 = m
      · refine .inr ?_
        rw [← e, if_pos h2, ← h3]; simp
      · exact .inl ⟨by omega, h2, h3⟩
theorem qs_rise : ∀ m, (qs kd od c m).Pairwise (fun x y => x.1 < y.1)
  | 0 => List.Pairwise.nil
  | m + 1 => by
    unfold qs
    rw [List.pairwise_append]
    refine ⟨qs_rise m, by split <;> simp, fun x hx y hy => ?_⟩
    have h1 := (mem_qs.1 hx).1
    split at hy
    · obtain rfl : y = (m, od m) := by simpa using hy
      exact h1
    · cases hy

def sumQ : List (Nat × Nat) → Nat
  | [] => 0
  | x :: l => 2 ^ x.2 + sumQ l
theorem sumQ_app : ∀ (a b : List (Nat × Nat)), sumQ (a ++ b) = sumQ a + sumQ b
  | [], b => by simp [sumQ]
  | x :: a, b => by rw [List.cons_append, sumQ, sumQ, sumQ_app a b]; omega
def covd (l : List (Nat × Nat)) (j : Nat) : Bool := l.any fun x => decide (x.1 ≤ j) && decide (j < x.1 + 2 ^ x.2)
/-- Blocks that lie apart, and are as great as n together. -/
structure Fits (n : Nat) (l : List (Nat × Nat)) : Prop where
  each : ∀ x, x ∈ l → x.2 ≤ 9 ∧ x.1 % 2 ^ x.2 = 0 ∧ x.1 + 2 ^ x.2 ≤ n
  apart : l.Pairwise (fun x y => x.1 + 2 ^ x.2 ≤ y.1 ∨ y.1 + 2 ^ y.2 ≤ x.1)
  sum : sumQ l = n

def sumT (kd od : Nat → Nat) (m : Nat) : Nat := sumQ (qs kd od 2 m) + sumQ (qs kd od 1 m)
theorem sumT_succ (h : ∀ i, kd i ≤ 2) (m : Nat) : sumT kd od (m + 1) = sumT kd od m + if kd m = 0 then 0 else 2 ^ od m := by
  have h2 := h m
  have e : ∀ c, qs kd od c (m + 1) = qs kd od c m ++ (if kd m = c then [(m, od m)] else []) := fun c => rfl
  unfold sumT
  rw [e, e, sumQ_app, sumQ_app]
  by_cases e0 : kd m = 0
  · rw [if_neg (by omega), if_neg (by omega), if_pos e0]; simp [sumQ]
  · by_cases e1 : kd m = 1
    · rw [if_neg (by omega), if_pos e1, if_neg e0]; simp [sumQ]; omega
    · rw [if_pos (by omega), if_neg e1, if_neg e0]; simp [sumQ]; omega
theorem sumT_flat (h : ∀ i, kd i ≤ 2) (a : Nat) : ∀ d, (∀ j, a ≤ j → j < a + d → kd j = 0) → sumT kd od (a + d) = sumT kd od a
  | 0, _ => rfl
  | d + 1, h0 => by rw [← Nat.add_assoc, sumT_succ h, if_pos (h0 _ (by omega) (by omega)), sumT_flat h a d (fun j h1 h2 => h0 j h1 (by omega))]; omega
theorem Tiles.sumT (h : Tiles kd od n) : ∀ m, m ≤ n → (m = n ∨ kd m ≠ 0) → BuT.sumT kd od m = m := by
  intro m
  induction m using Nat.strongRecOn with
  | ind m ih =>
    intro hm hb
    rcases Nat.eq_zero_or_pos m with rfl | hpos
    · rfl
    · obtain ⟨i, h1, h2, h3⟩ := h.all (m - 1) (by omega)
      have hin : i < n := by omega
      have h4 := h.fits i hin h2
      have h5 : i + 2 ^ od i = m := by
        rcases Nat.lt_or_ge m (i + 2 ^ od i) with h' | h'
        · have := h.gap i hin h2 m (by omega) h'
          omega
        · omega
      have h6 := sumT_flat (od := od) h.kind (i + 1) (m - (i + 1)) (fun j ha hb => h.gap i hin h2 j (by omega) (by omega))
      rw [show i + 1 + (m - (i + 1)) = m by omega] at h6
      rw [h6, sumT_succ h.kind, if_neg h2, ih i (by omega) (by omega) (.inr h2)]
      exact h5
theorem Tiles.fitsQ (h : Tiles kd od n) : Fits n (qs kd od 2 n ++ qs kd od 1 n) := by
  refine ⟨fun x hx => ?_, ?_, ?_⟩
  · have hx' : x.1 < n ∧ kd x.1 ≠ 0 ∧ x.2 = od x.1 := by
      rcases List.mem_append.1 hx with hx | hx
      · have := mem_qs.1 hx; exact ⟨this.1, by omega, this.2.2⟩
      · have := mem_qs.1 hx; exact ⟨this.1, by omega, this.2.2⟩
    obtain ⟨h1, h2, h3⟩ := hx'
    rw [h3]
    exact ⟨h.ord _ h1 h2, h.al _ h1 h2, h.fits _ h1 h2⟩
  · have key : ∀ c, c ≠ 0 → (qs kd od c n).Pairwise (fun x y => x.1 + 2 ^ x.2 ≤ y.1 ∨ y.1 + 2 ^ y.2 ≤ x.1) := by
      intro c hc
      refine (qs_rise n).imp_of_mem ?_
      intro x y hx hy hlt
      obtain ⟨h1, h2, h3⟩ := mem_qs.1 hx
      obtain ⟨g1, g2, g3⟩ := mem_qs.1 hy
      rw [h3, g3]
      exact h.apart h1 g1 (by omega) (by omega) (by omega)
    rw [List.pairwise_append]
    refine ⟨key 2 (by omega), key 1 (by omega), fun x hx y hy => ?_⟩
    obtain ⟨h1, h2, h3⟩ := mem_qs.1 hx
    obtain ⟨g1, g2, g3⟩ := mem_qs.1 hy
    rw [h3, g3]
    exact h.apart h1 g1 (by omega) (by omega) (by intro e; rw [e] at h2; omega)
  · rw [sumQ_app]
    exact h.sumT n (Nat.le_refl _) (.inl rfl)

theorem take_at {l : List (Nat × Nat)} {i : Nat} (hi : i < l.length) : l = l.take i ++ l[i] :: l.drop (i + 1) := by
  rw [← List.drop_eq_getElem_cons hi, List.take_append_drop]
theorem sumQ_take {l : List (Nat × Nat)} {i : Nat} (hi : i < l.length) : sumQ (l.take (i + 1)) = sumQ (l.take i) + 2 ^ l[i].2 := by
  rw [List.take_succ_eq_append_getElem hi, sumQ_app]; simp [sumQ]
theorem covd_take {l : List (Nat × Nat)} {i : Nat} (hi : i < l.length) (j : Nat) : covd (l.take (i + 1)) j = (covd (l.take i) j || (decide (l[i].1 ≤ j) && decide (j < l[i].1 + 2 ^ l[i].2))) := by
  unfold covd; rw [List.take_succ_eq_append_getElem hi, List.any_append]; simp only [List.any_cons, List.any_nil, Bool.or_false]
theorem sumQ_le {l : List (Nat × Nat)} (i : Nat) : sumQ (l.take i) ≤ sumQ l := by
  have h := sumQ_app (l.take i) (l.drop i)
  rw [List.take_append_drop] at h
  omega
theorem Fits.sum_le {l : List (Nat × Nat)} (h : Fits n l) {i : Nat} (hi : i < l.length) : sumQ (l.take i) + 2 ^ l[i].2 ≤ n := by
  rw [← sumQ_take hi, ← h.sum]; exact sumQ_le _
theorem Fits.free {l : List (Nat × Nat)} (h : Fits n l) {i : Nat} (hi : i < l.length) {m : Nat} (hm : m < 2 ^ l[i].2) : covd (l.take i) (l[i].1 + m) = false := by
  unfold covd
  rw [List.any_eq_false]
  intro x hx hc
  have hp := h.apart
  rw [take_at hi, List.pairwise_append] at hp
  have := hp.2.2 x hx l[i] (List.mem_cons_self ..)
  simp at hc
  omega
end
end Go.Proofs.Ytkpnmknkimlnaaa.BuT
