/-
  Buddy: the plain law of tables: they tile; blocks are split, joined, taken. It names no program.
-/
import Derived.Test.YtkpnmknkimlnaaaBuT
namespace Go.Proofs.Ytkpnmknkimlnaaa.BuT
open Go.Proofs.Ytkpnmknkimlnaaa

theorem pow_succ2 (k : Nat) : 2 ^ (k + 1) = 2 ^ k + 2 ^ k := by rw [Nat.pow_succ]; omega
theorem al_down {p k : Nat} (h : p % 2 ^ (k + 1) = 0) : p % 2 ^ k = 0 := by
  have : 2 ^ k ∣ 2 ^ (k + 1) := ⟨2, by rw [Nat.pow_succ]⟩
  exact Nat.mod_eq_zero_of_dvd (Nat.dvd_trans this (Nat.dvd_of_mod_eq_zero h))
theorem al_le {p j k : Nat} (hjk : j ≤ k) (h : p % 2 ^ k = 0) : p % 2 ^ j = 0 :=
  Nat.mod_eq_zero_of_dvd (Nat.dvd_trans (Nat.pow_dvd_pow 2 hjk) (Nat.dvd_of_mod_eq_zero h))
theorem al_add {p k : Nat} (h : p % 2 ^ k = 0) : (p + 2 ^ k) % 2 ^ k = 0 := by rw [Nat.add_mod_right, h]
theorem al_not {p k : Nat} (h : p % 2 ^ (k + 1) = 0) : (p + 2 ^ k) % 2 ^ (k + 1) ≠ 0 := by
  have hp := Nat.two_pow_pos k
  have : (p + 2 ^ k) % 2 ^ (k + 1) = 2 ^ k := by
    rw [Nat.add_mod, h, Nat.zero_add, Nat.mod_mod, Nat.mod_eq_of_lt (by rw [pow_succ2]; omega)]
  omega
/-- The other one of a pair. -/
theorem al_half {p k : Nat} (h : p % 2 ^ k = 0) (h2 : p % 2 ^ (k + 1) ≠ 0) : 2 ^ k ≤ p ∧ (p - 2 ^ k) % 2 ^ (k + 1) = 0 := by
  obtain ⟨q, rfl⟩ := Nat.dvd_of_mod_eq_zero h
  have hp := Nat.two_pow_pos k
  have hq : q % 2 = 1 := by
    rcases Nat.mod_two_eq_zero_or_one q with h | h
    · obtain ⟨r, rfl⟩ := Nat.dvd_of_mod_eq_zero h
      exact absurd (by rw [show 2 ^ k * (2 * r) = 2 ^ (k + 1) * r by rw [Nat.pow_succ, Nat.mul_assoc]]; exact Nat.mul_mod_right _ _) h2
    · exact h
  obtain ⟨r, hr⟩ : ∃ r, q = 2 * r + 1 := ⟨q / 2, by omega⟩
  subst hr
  have e : 2 ^ k * (2 * r + 1) = 2 ^ (k + 1) * r + 2 ^ k := by rw [Nat.mul_add, Nat.mul_one, Nat.pow_succ, Nat.mul_assoc]
  exact ⟨by rw [e]; omega, by rw [e, Nat.add_sub_cancel]; exact Nat.mul_mod_right _ _⟩

/-- A table of n places, tiled by blocks (1: free, 2: taken). -/
structure Tiles (kd od : Nat → Nat) (n : Nat) : Prop where
  kind : ∀ i, kd i ≤ 2
  ord : ∀ i, i < n → kd i ≠ 0 → od i ≤ 9
  fits : ∀ i, i < n → kd i ≠ 0 → i + 2 ^ od i ≤ n
  al : ∀ i, i < n → kd i ≠ 0 → i % 2 ^ od i = 0
  gap : ∀ i, i < n → kd i ≠ 0 → ∀ j, i < j → j < i + 2 ^ od i → kd j = 0
  all : ∀ j, j < n → ∃ i, i ≤ j ∧ kd i ≠ 0 ∧ j < i + 2 ^ od i
/-- No two free ones are each other's buddies. -/
def NoBud (kd od : Nat → Nat) (n : Nat) : Prop := ∀ i, kd i = 1 → od i < 9 → i % 2 ^ (od i + 1) = 0 → i + 2 ^ od i < n → ¬ (kd (i + 2 ^ od i) = 1 ∧ od (i + 2 ^ od i) = od i)

section
variable {kd od : Nat → Nat} {n : Nat}
theorem Tiles.apart (h : Tiles kd od n) {i p : Nat} (hi : i < n) (hp : p < n) (h1 : kd i ≠ 0) (h2 : kd p ≠ 0) (hne : i ≠ p) : i + 2 ^ od i ≤ p ∨ p + 2 ^ od p ≤ i := by
  rcases Nat.lt_or_ge i p with h' | h'
  · refine .inl (Nat.le_of_not_lt fun hc => h2 (h.gap i hi h1 p h' hc))
  · refine .inr (Nat.le_of_not_lt fun hc => h1 (h.gap p hp h2 i (by omega) hc))
/-- A block's kind turns. -/
theorem Tiles.relabel (h : Tiles kd od n) {p c : Nat} (hp : kd p ≠ 0) (hc : c = 1 ∨ c = 2) : Tiles (upd kd p c) od n := by
  have e : ∀ i, upd kd p c i ≠ 0 ↔ kd i ≠ 0 := fun i => by
    by_cases h : i = p
    · subst h; simp [upd]; omega
    · simp [upd, h]
  exact ⟨fun i => by unfold upd; split; omega; exact h.kind i, fun i hi h1 => h.ord i hi ((e i).1 h1), fun i hi h1 => h.fits i hi ((e i).1 h1), fun i hi h1 => h.al i hi ((e i).1 h1),
    fun i hi h1 j h2 h3 => by
      have := h.gap i hi ((e i).1 h1) j h2 h3
      exact Classical.byContradiction fun hc => (e j).1 hc this,
    fun j hj => by obtain ⟨i, h1, h2, h3⟩ := h.all j hj; exact ⟨i, h1, (e i).2 h2, h3⟩⟩
/-- A block is split in two. -/
theorem Tiles.split (h : Tiles kd od n) {p k c : Nat} (hpn : p < n) (hp : kd p ≠ 0) (ho : od p = k + 1) (hc : c = 1 ∨ c = 2) : Tiles (upd kd (p + 2 ^ k) c) (upd (upd od (p + 2 ^ k) k) p k) n := by
  have hk := Nat.two_pow_pos k
  have hf := h.fits p hpn hp
  have ha := h.al p hpn hp
  have hg := h.gap p hpn hp
  have h9 := h.ord p hpn hp
  rw [ho] at hf ha hg h9
  rw [pow_succ2] at hf hg
  have hr0 : kd (p + 2 ^ k) = 0 := hg _ (by omega) (by omega)
  have hkd : ∀ i, upd kd (p + 2 ^ k) c i ≠ 0 ↔ (i = p + 2 ^ k ∨ kd i ≠ 0) := fun i => by
    by_cases e : i = p + 2 ^ k
    · subst e; simp [upd]; omega
    · simp [upd, e]
  have hod : ∀ i, upd (upd od (p + 2 ^ k) k) p k i = if i = p ∨ i = p + 2 ^ k then k else od i := fun i => by
    unfold upd
    by_cases e1 : i = p
    · simp [e1]
    · by_cases e2 : i = p + 2 ^ k <;> simp [e1, e2]
  refine ⟨fun i => ?_, fun i hi h1 => ?_, fun i hi h1 => ?_, fun i hi h1 => ?_, fun i hi h1 j hj hj2 => ?_, fun j hj => ?_⟩
  · unfold upd; split; omega; exact h.kind i
  · rw [hod]; split
    · omega
    · rename_i hne; exact h.ord i hi (((hkd i).1 h1).resolve_left (fun e => hne (.inr e)))
  · rw [hod]; split
    · omega
    · rename_i hne; exact h.fits i hi (((hkd i).1 h1).resolve_left (fun e => hne (.inr e)))
  · rw [hod]; split
    · rename_i e
      rcases e with rfl | rfl
      · exact al_down ha
      · exact al_add (al_down ha)
    · rename_i hne; exact h.al i hi (((hkd i).1 h1).resolve_left (fun e => hne (.inr e)))
  · rw [hod] at hj2
    have hz : ∀ j, j ≠ p + 2 ^ k → kd j = 0 → upd kd (p + 2 ^ k) c j = 0 := fun j e1 e2 => by simp [upd, e1, e2]
    split at hj2
    · rename_i e
      rcases e with rfl | rfl
      · exact hz j (by omega) (hg j (by omega) (by omega))
      · exact hz j (by omega) (hg j (by omega) (by omega))
    · rename_i hne
      have hi0 := ((hkd i).1 h1).resolve_left (fun e => hne (.inr e))
      have hap := h.apart hi hpn hi0 hp (fun e => hne (.inl e))
      rw [ho, pow_succ2] at hap
      exact hz j (by omega) (h.gap i hi hi0 j hj hj2)
  · obtain ⟨i, h1, h2, h3⟩ := h.all j hj
    by_cases e : i = p
    · subst e
      rw [ho, pow_succ2] at h3
      by_cases hjp : j < i + 2 ^ k
      · exact ⟨i, h1, (hkd i).2 (.inr h2), by rw [hod, if_pos (.inl rfl)]; omega⟩
      · exact ⟨i + 2 ^ k, by omega, (hkd _).2 (.inl rfl), by rw [hod, if_pos (.inr rfl)]; omega⟩
    · have e2 : i ≠ p + 2 ^ k := fun e2 => h2 (e2 ▸ hr0)
      exact ⟨i, h1, (hkd i).2 (.inr h2), by rw [hod, if_neg (by simp [e, e2])]; exact h3⟩
/-- Two blocks are joined; what is behind is of kind 2. -/
theorem Tiles.join (h : Tiles kd od n) {p k x : Nat} (hpn : p + 2 ^ k < n) (hp : kd p ≠ 0) (ho : od p = k) (hq : kd (p + 2 ^ k) ≠ 0) (ho2 : od (p + 2 ^ k) = k) (hk9 : k < 9) (ha : p % 2 ^ (k + 1) = 0) :
    Tiles (upd (upd kd (p + 2 ^ k) 0) p 2) (upd (upd od (p + 2 ^ k) x) p (k + 1)) n := by
  have hk := Nat.two_pow_pos k
  have hf2 := h.fits _ hpn hq
  have hg := h.gap p (by omega) hp
  have hg2 := h.gap _ hpn hq
  rw [ho] at hg
  rw [ho2] at hf2 hg2
  have hkd : ∀ i, upd (upd kd (p + 2 ^ k) 0) p 2 i ≠ 0 ↔ (i = p ∨ (i ≠ p + 2 ^ k ∧ kd i ≠ 0)) := fun i => by
    unfold upd
    by_cases e1 : i = p
    · simp [e1]
    · by_cases e2 : i = p + 2 ^ k <;> simp [e1, e2]
  have hod : ∀ i, i ≠ p + 2 ^ k → upd (upd od (p + 2 ^ k) x) p (k + 1) i = if i = p then k + 1 else od i := fun i hi => by
    unfold upd
    by_cases e1 : i = p
    · simp [e1]
    · simp [e1, hi]
  have hnq : ∀ i, upd (upd kd (p + 2 ^ k) 0) p 2 i ≠ 0 → i ≠ p + 2 ^ k := fun i h1 => by
    rcases (hkd i).1 h1 with e | e
    · omega
    · exact e.1
  refine ⟨fun i => ?_, fun i hi h1 => ?_, fun i hi h1 => ?_, fun i hi h1 => ?_, fun i hi h1 j hj hj2 => ?_, fun j hj => ?_⟩
  · unfold upd; split; omega; split; omega; exact h.kind i
  · rw [hod i (hnq i h1)]; split
    · omega
    · rename_i hne; exact h.ord i hi (((hkd i).1 h1).resolve_left hne).2
  · rw [hod i (hnq i h1)]; split
    · rename_i e; subst e; rw [pow_succ2]; omega
    · rename_i hne; exact h.fits i hi (((hkd i).1 h1).resolve_left hne).2
  · rw [hod i (hnq i h1)]; split
    · rename_i e; subst e; exact ha
    · rename_i hne; exact h.al i hi (((hkd i).1 h1).resolve_left hne).2
  · rw [hod i (hnq i h1)] at hj2
    have hz : ∀ j, j ≠ p → (j = p + 2 ^ k ∨ kd j = 0) → upd (upd kd (p + 2 ^ k) 0) p 2 j = 0 := fun j e1 e2 => by
      unfold upd; rw [if_neg e1]; split
      · rfl
      · exact e2.resolve_left (by assumption)
    split at hj2
    · rename_i e; subst e
      rw [pow_succ2] at hj2
      by_cases e1 : j < i + 2 ^ k
      · exact hz j (by omega) (.inr (hg j hj e1))
      · by_cases e2 : j = i + 2 ^ k
        · exact hz j (by omega) (.inl e2)
        · exact hz j (by omega) (.inr (hg2 j (by omega) (by omega)))
    · rename_i hne
      have hi0 := (((hkd i).1 h1).resolve_left hne)
      have hap := h.apart hi (show p < n by omega) hi0.2 hp hne
      rw [ho] at hap
      exact hz j (by omega) (.inr (h.gap i hi hi0.2 j hj hj2))
  · obtain ⟨i, h1, h2, h3⟩ := h.all j hj
    by_cases e : i = p
    · subst e
      exact ⟨i, h1, (hkd i).2 (.inl rfl), by rw [hod i (by omega), if_pos rfl, pow_succ2]; rw [ho] at h3; omega⟩
    · by_cases e2 : i = p + 2 ^ k
      · subst e2
        exact ⟨p, by omega, (hkd p).2 (.inl rfl), by rw [hod p (by omega), if_pos rfl, pow_succ2]; rw [ho2] at h3; omega⟩
      · exact ⟨i, h1, (hkd i).2 (.inr ⟨e2, h2⟩), by rw [hod i e2, if_neg e]; exact h3⟩
end

end Go.Proofs.Ytkpnmknkimlnaaa.BuT
