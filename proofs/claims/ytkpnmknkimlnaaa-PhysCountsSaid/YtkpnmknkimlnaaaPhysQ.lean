/-
  Phys: counts of all kinds are all frames of a node: the plain law.
-/
import Derived.Test.YtkpnmknkimlnaaaPhysN
namespace Go.Proofs.Ytkpnmknkimlnaaa
set_option linter.unusedVariables false
set_option linter.unusedSimpArgs false
open Go.RowKit

/-- Below frame j, of node x: up to where in it. -/
theorem cntR_at {kd : Nat → Int} {E x : Nat} {kind : Int} (hE : 1 ≤ E) : ∀ (j : Nat), j ≤ 8192 → cntR kd E x kind j = kinds kd kind (x * E) (min (j - x * E) E)
  | 0, _ => by simp [cntR, kinds]
  | j + 1, hj => by
    have ih := cntR_at (kd := kd) (kind := kind) (x := x) hE j (by omega)
    unfold cntR
    rw [ih]
    have hdiv : wrap64 ((j : Int) / (E : Int)) = ((j / E : Nat) : Int) := by
      rw [← Int.natCast_ediv]
      have : j / E ≤ j := Nat.div_le_self _ _
      generalize j / E = q at this
      exact wrap64_of (by omega) (by omega)
    rw [hdiv]
    have hin : (j / E = x) ↔ (x * E ≤ j ∧ j < x * E + E) := by
      rw [Nat.div_eq_iff (by omega)]
      constructor <;> intro h <;> omega
    by_cases h : x * E ≤ j ∧ j < x * E + E
    · have e1 : min (j - x * E) E = j - x * E := by omega
      have e2 : min (j + 1 - x * E) E = j - x * E + 1 := by omega
      rw [e1, e2]
      show _ = kinds kd kind (x * E) (j - x * E) + if kd (x * E + (j - x * E)) = kind then 1 else 0
      have e3 : x * E + (j - x * E) = j := by omega
      have e4 : ((j / E : Nat) : Int) = (x : Int) := by rw [hin.2 h]
      rw [e3, e4]
      simp
    · have e4 : ¬ ((j / E : Nat) : Int) = (x : Int) := fun e => h (hin.1 (by omega))
      have e5 : min (j + 1 - x * E) E = min (j - x * E) E := by omega
      rw [e5]
      rw [if_neg (fun h => e4 h.1)]
      simp
theorem cntR_out {kd : Nat → Int} {E : Nat} {x kind : Int} (hE : 1 ≤ E) : ∀ (j N : Nat), j ≤ N * E → j ≤ 8192 → (x < 0 ∨ (N : Int) ≤ x) → cntR kd E x kind j = 0
  | 0, _, _, _, _ => rfl
  | j + 1, N, h1, h2, h3 => by
    unfold cntR
    rw [cntR_out hE j N (by omega) (by omega) h3]
    have hdiv : wrap64 ((j : Int) / (E : Int)) = ((j / E : Nat) : Int) := by
      rw [← Int.natCast_ediv]
      have : j / E ≤ j := Nat.div_le_self _ _
      generalize j / E = q at this
      exact wrap64_of (by omega) (by omega)
    have hlt : j / E < N := (Nat.div_lt_iff_lt_mul (by omega)).2 (by omega)
    rw [hdiv]
    generalize j / E = q at hlt
    rw [if_neg (fun h => by have := h.1; omega)]
/-- The program's count, and the reference's. -/
theorem cnt_same {kd : Nat → Int} {N E : Nat} {x kind : Int} (hE : 1 ≤ E) (hNE : N * E ≤ 8192) : (cntR kd E x kind (N * E) : Int) = if 0 ≤ x ∧ x < N then (kinds kd kind (x.toNat * E) E : Int) else 0 := by
  by_cases h : 0 ≤ x ∧ x < N
  · rw [if_pos h]
    obtain ⟨j, rfl⟩ := Int.eq_ofNat_of_zero_le h.1
    have t : (j : Int).toNat = j := by omega
    rw [t, cntR_at hE _ hNE]
    have hj : j < N := by omega
    have : j * E + E ≤ N * E := by
      have := Nat.mul_le_mul_right E (show j + 1 ≤ N from hj)
      rw [Nat.add_mul, Nat.one_mul] at this; exact this
    rw [show min (N * E - j * E) E = E by omega]
  · rw [if_neg h, cntR_out hE (N * E) N (Nat.le_refl _) hNE (by omega)]; rfl

/-- Of the first m kinds, from -1 on. -/
def upK (c : Int → Nat) : Nat → Nat
  | 0 => 0
  | m + 1 => upK c m + c ((m : Int) - 1)
theorem kinds_all {kd : Nat → Int} (hk : KOk kd) (o : Nat) : ∀ E, kinds kd (-1) o E + kinds kd 0 o E + kinds kd 1 o E + kinds kd 2 o E + kinds kd 3 o E + kinds kd 4 o E = E
  | 0 => rfl
  | E + 1 => by
    have ih := kinds_all hk o E
    have h := hk (o + E)
    unfold kinds
    have : kd (o + E) = 0 ∨ kd (o + E) = 1 ∨ kd (o + E) = 2 ∨ kd (o + E) = 3 := by omega
    rcases this with e | e | e | e <;> rw [e] <;> simp <;> omega
/-- What the law counts of a node, of one kind. -/
def cntN (kd : Nat → Int) (N E : Nat) (x : Int) (kind : Int) : Nat := if 0 ≤ x ∧ x < N then kinds kd kind (x.toNat * E) E else 0
theorem cntN_cast (kd : Nat → Int) (N E : Nat) (x kind : Int) : (if 0 ≤ x ∧ x < N then (kinds kd kind (x.toNat * E) E : Int) else 0) = (cntN kd N E x kind : Int) := by
  unfold cntN; split <;> rfl
theorem cntN_le (kd : Nat → Int) (N E : Nat) (x kind : Int) : cntN kd N E x kind ≤ E := by
  unfold cntN; split
  · exact kinds_le _ _ _ _
  · omega
theorem upK_le (kd : Nat → Int) (N E : Nat) (x : Int) : ∀ m, upK (cntN kd N E x) m ≤ m * E
  | 0 => by simp [upK]
  | m + 1 => by
    have := upK_le kd N E x m
    have := cntN_le kd N E x ((m : Int) - 1)
    unfold upK; rw [Nat.add_mul]; omega
theorem upK_all {kd : Nat → Int} (hk : KOk kd) (N E : Nat) (x : Int) : upK (cntN kd N E x) 6 = if 0 ≤ x ∧ x < N then E else 0 := by
  by_cases h : 0 ≤ x ∧ x < N
  · rw [if_pos h]
    have := kinds_all hk (x.toNat * E) E
    simp only [upK, cntN, if_pos h]
    simp
    omega
  · rw [if_neg h]
    simp only [upK, cntN, if_neg h]

end Go.Proofs.Ytkpnmknkimlnaaa
