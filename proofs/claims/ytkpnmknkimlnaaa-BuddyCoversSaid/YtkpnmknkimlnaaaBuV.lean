/-
  Buddy: the plain law of Alloc: table and lists do alike. It names no program.
-/
import Derived.Test.YtkpnmknkimlnaaaBuU
namespace Go.Proofs.Ytkpnmknkimlnaaa.BuT
open Go.Proofs.Ytkpnmknkimlnaaa
set_option linter.unusedVariables false
set_option linter.unusedSimpArgs false

/-- The place that Alloc chooses. -/
def bestI (kd od : Nat → Nat) (o : Nat) : Nat → Option Nat
  | 0 => none
  | i + 1 => if kd i = 1 ∧ o ≤ od i ∧ (∀ b, bestI kd od o i = some b → od i < od b) then some i else bestI kd od o i
theorem bestI_some {kd od : Nat → Nat} {o : Nat} : ∀ {i p : Nat}, bestI kd od o i = some p → p < i ∧ kd p = 1 ∧ o ≤ od p
  | 0, _, h => by cases h
  | i + 1, p, h => by
    unfold bestI at h; split at h
    · rename_i h1; cases h; exact ⟨by omega, h1.1, h1.2.1⟩
    · have := bestI_some h; exact ⟨by omega, this.2⟩
def bk0 : Bk := ⟨0, 0⟩
/-- The index that the reference chooses. -/
def bestR (l : List Bk) (o : Int) : Nat → Option Nat
  | 0 => none
  | i + 1 => if o ≤ (l.getD i bk0).o ∧ (∀ b, bestR l o i = some b → (l.getD i bk0).o < (l.getD b bk0).o) then some i else bestR l o i
theorem bestR_lt {l : List Bk} {o : Int} : ∀ {i p : Nat}, bestR l o i = some p → p < i ∧ o ≤ (l.getD p bk0).o
  | 0, _, h => by cases h
  | i + 1, p, h => by
    unfold bestR at h; split at h
    · rename_i h1; cases h; exact ⟨by omega, h1.1⟩
    · have := bestR_lt h; exact ⟨by omega, this.2⟩

section
variable {F : Int} {kd od : Nat → Nat} {n : Nat}
theorem blks_get {c i : Nat} (hi : i < n) (h : kd i = c) : (blks F kd od c n).getD (blks F kd od c i).length bk0 = ⟨F + i, od i⟩ := by
  rw [blks_at hi]
  have e : one F kd od c i = [⟨F + i, od i⟩] := by unfold one; rw [if_pos h]
  rw [e, List.getD_eq_getElem?_getD, List.getElem?_append_right (Nat.le_refl _)]
  simp
theorem best_same (o : Nat) : ∀ i, i ≤ n → (bestI kd od o i = none → bestR (blks F kd od 1 n) o (blks F kd od 1 i).length = none) ∧
    (∀ p, bestI kd od o i = some p → bestR (blks F kd od 1 n) o (blks F kd od 1 i).length = some (blks F kd od 1 p).length)
  | 0, _ => ⟨(fun _ => rfl), (fun p h => by cases h)⟩
  | i + 1, hi => by
    obtain ⟨ih1, ih2⟩ := best_same o i (by omega)
    by_cases h : kd i = 1
    · have e : (blks F kd od 1 (i + 1)).length = (blks F kd od 1 i).length + 1 := by
        rw [blks, List.length_append]; unfold one; rw [if_pos h]; rfl
      have hg := blks_get (F := F) (od := od) (show i < n by omega) h
      rw [e]
      have hc : (o ≤ od i ∧ (∀ b, bestI kd od o i = some b → od i < od b)) ↔ ((o : Int) ≤ ((blks F kd od 1 n).getD (blks F kd od 1 i).length bk0).o ∧ (∀ b, bestR (blks F kd od 1 n) o (blks F kd od 1 i).length = some b → ((blks F kd od 1 n).getD (blks F kd od 1 i).length bk0).o < ((blks F kd od 1 n).getD b bk0).o)) := by
        rw [hg]
        constructor
        · rintro ⟨h1, h2⟩
          refine ⟨by simpa using h1, fun b hb => ?_⟩
          cases hp : bestI kd od o i with
          | none => rw [ih1 hp] at hb; cases hb
          | some p =>
            rw [ih2 p hp] at hb; cases hb
            have hp' := bestI_some hp
            rw [blks_get (show p < n by omega) hp'.2.1]
            have := h2 p hp
            simpa using this
        · rintro ⟨h1, h2⟩
          refine ⟨by simpa using h1, fun p hp => ?_⟩
          have hp' := bestI_some hp
          have := h2 _ (ih2 p hp)
          rw [blks_get (show p < n by omega) hp'.2.1] at this
          simpa using this
      by_cases hq : o ≤ od i ∧ (∀ b, bestI kd od o i = some b → od i < od b)
      · have hI : bestI kd od o (i + 1) = some i := by unfold bestI; rw [if_pos ⟨h, hq⟩]
        have hR : bestR (blks F kd od 1 n) o ((blks F kd od 1 i).length + 1) = some (blks F kd od 1 i).length := by unfold bestR; rw [if_pos (hc.1 hq)]
        rw [hI, hR]
        exact ⟨(fun h => by cases h), (fun p hp => by cases hp; rfl)⟩
      · have hI : bestI kd od o (i + 1) = bestI kd od o i := by rw [bestI, if_neg (fun hh => hq hh.2)]
        have hR : bestR (blks F kd od 1 n) o ((blks F kd od 1 i).length + 1) = bestR (blks F kd od 1 n) o (blks F kd od 1 i).length := by rw [bestR, if_neg (fun hh => hq (hc.2 hh))]
        rw [hI, hR]
        exact ⟨ih1, ih2⟩
    · have e : (blks F kd od 1 (i + 1)).length = (blks F kd od 1 i).length := by
        rw [blks, List.length_append]; unfold one; rw [if_neg h]; rfl
      have hI : bestI kd od o (i + 1) = bestI kd od o i := by rw [bestI, if_neg (fun hh => h hh.1)]
      rw [e, hI]
      exact ⟨ih1, ih2⟩

/-- The table behind the splits of a block at p, down to order o. -/
def splK (kd : Nat → Nat) (p o : Nat) : Nat → (Nat → Nat)
  | 0 => kd
  | m + 1 => if o ≤ m then splK (upd kd (p + 2 ^ m) 1) p o m else kd
def splO (od : Nat → Nat) (p o : Nat) : Nat → (Nat → Nat)
  | 0 => od
  | m + 1 => if o ≤ m then splO (upd od (p + 2 ^ m) m) p o m else od
def rspl (f : Int) (o : Nat) : Nat → List Bk → List Bk
  | 0, l => l
  | m + 1, l => if o ≤ m then rspl f o m (withB ⟨f + 2 ^ m, m⟩ l) else l
theorem pow_ne {p j k : Nat} (h : j ≠ k) : p + 2 ^ j ≠ p + 2 ^ k := fun e => by
  rcases Nat.lt_or_gt_of_ne h with h | h
  · have := Nat.pow_lt_pow_right (a := 2) (by omega) h; omega
  · have := Nat.pow_lt_pow_right (a := 2) (by omega) h; omega
theorem blks_spl (p o : Nat) : ∀ (m : Nat) (kd od : Nat → Nat), (∀ k, k < m → p + 2 ^ k < n ∧ kd (p + 2 ^ k) ≠ 1) → blks F (splK kd p o m) (splO od p o m) 1 n = rspl (F + p) o m (blks F kd od 1 n)
  | 0, _, _, _ => rfl
  | m + 1, kd, od, h => by
    unfold splK splO rspl
    split
    · rw [blks_spl p o m _ _ (fun k hk => ⟨(h k (by omega)).1, by rw [upd_ne _ _ (pow_ne (by omega))]; exact (h k (by omega)).2⟩),
        blks_put (h m (by omega)).1 (h m (by omega)).2]
      congr 2
      simp; omega
    · rfl
theorem blks_spl2 (p o : Nat) : ∀ (m : Nat) (kd od : Nat → Nat), (∀ k, k < m → kd (p + 2 ^ k) ≠ 2) → blks F (splK kd p o m) (splO od p o m) 2 n = blks F kd od 2 n
  | 0, _, _, _ => rfl
  | m + 1, kd, od, h => by
    unfold splK splO
    split
    · rw [blks_spl2 p o m _ _ (fun k hk => by rw [upd_ne _ _ (pow_ne (by omega))]; exact h k (by omega)), blks_same (h m (by omega)) (by omega)]
    · rfl
theorem splK_at (p o : Nat) : ∀ (m : Nat) (kd : Nat → Nat), splK kd p o m p = kd p
  | 0, _ => rfl
  | m + 1, kd => by
    have := Nat.two_pow_pos m
    unfold splK; split
    · rw [splK_at p o m, upd_ne _ _ (by omega)]
    · rfl
theorem splO_at (p o : Nat) : ∀ (m : Nat) (od : Nat → Nat), splO od p o m p = od p
  | 0, _ => rfl
  | m + 1, od => by
    have := Nat.two_pow_pos m
    unfold splO; split
    · rw [splO_at p o m, upd_ne _ _ (by omega)]
    · rfl
theorem splK_congr (p o : Nat) : ∀ (m : Nat) (kd kd' : Nat → Nat), (∀ j, j ≠ p → kd j = kd' j) → ∀ j, j ≠ p → splK kd p o m j = splK kd' p o m j
  | 0, _, _, h => h
  | m + 1, kd, kd', h => by
    unfold splK; split
    · exact splK_congr p o m _ _ (fun j hj => by unfold upd; split; rfl; exact h j hj)
    · exact h

/-- What Alloc leaves of a table. -/
def alK (kd od : Nat → Nat) (p o : Nat) : Nat → Nat := upd (splK kd p o (od p)) p 2
def alO (od : Nat → Nat) (p o : Nat) : Nat → Nat := upd (splO od p o (od p)) p o

theorem Tiles.inner (h : Tiles kd od n) {p : Nat} (hp : p < n) (h1 : kd p ≠ 0) {k : Nat} (hk : k < od p) : p + 2 ^ k < n ∧ kd (p + 2 ^ k) = 0 := by
  have h2 := h.fits p hp h1
  have h3 : 2 ^ k < 2 ^ od p := Nat.pow_lt_pow_right (by omega) hk
  have h4 := Nat.two_pow_pos k
  exact ⟨by omega, h.gap p hp h1 _ (by omega) (by omega)⟩
theorem alloc_free (h : Tiles kd od n) {p o : Nat} (hp : p < n) (h1 : kd p = 1) :
    blks F (alK kd od p o) (alO od p o) 1 n = rspl (F + p) o (od p) (withoutB (blks F kd od 1 n) (blks F kd od 1 p).length) := by
  have hin := fun k hk => h.inner hp (by omega) (k := k) hk
  have hpos : ∀ k, p + 2 ^ k ≠ p := fun k => by have := Nat.two_pow_pos k; omega
  have e1 : blks F (alK kd od p o) (alO od p o) 1 n = blks F (splK (upd kd p 0) p o (od p)) (splO (upd od p o) p o (od p)) 1 n := by
    refine blks_congr fun i hi => ?_
    by_cases e : i = p
    · subst e
      rw [splK_at, alK, upd_at, upd_at]; simp
    · rw [alK, upd_ne _ _ e, ← splK_congr p o (od p) kd (upd kd p 0) (fun j hj => by rw [upd_ne _ _ hj]) i e, alO, upd_ne _ _ e]
      refine ⟨Iff.rfl, fun _ => ?_⟩
      have : ∀ (m : Nat) (od od' : Nat → Nat), (∀ j, j ≠ p → od j = od' j) → ∀ j, j ≠ p → splO od p o m j = splO od' p o m j := by
        intro m
        induction m with
        | zero => exact fun _ _ h => h
        | succ m ih =>
          intro od od' h
          unfold splO; split
          · exact ih _ _ (fun j hj => by unfold upd; split; rfl; exact h j hj)
          · exact h
      exact this (od p) od (upd od p o) (fun j hj => by rw [upd_ne _ _ hj]) i e
  rw [e1, blks_spl p o (od p) _ _ (fun k hk => ⟨(hin k hk).1, by rw [upd_ne _ _ (hpos k)]; have := (hin k hk).2; omega⟩)]
  obtain ⟨A, B, e2, e3, e4⟩ := blks_del (F := F) (kd := kd) (od := od) hp h1
  congr 1
  rw [e4 0 o (by omega)]
  have hA : (blks F kd od 1 p).length = A.length := by
    have h5 := blks_at (F := F) (od := od) (c := 1) hp (kd := kd)
    have e : one F kd od 1 p = [⟨F + p, od p⟩] := by unfold one; rw [if_pos h1]
    rw [e, e2] at h5
    have h6 : (⟨F + p, od p⟩ : Bk) ∉ blks F kd od 1 p := fun hm => by have := blks_lt hm; simp at this
    -- both beginnings are free of the block itself
    have : placeB (A ++ ⟨F + p, od p⟩ :: B) ⟨F + p, od p⟩ = (blks F kd od 1 p).length := by rw [h5]; exact placeB_mid h6
    rw [placeB_mid e3] at this
    omega
  rw [hA, e2, withoutB_mid]
theorem alloc_taken (h : Tiles kd od n) {p o : Nat} (hp : p < n) (h1 : kd p = 1) :
    blks F (alK kd od p o) (alO od p o) 2 n = withB ⟨F + p, o⟩ (blks F kd od 2 n) := by
  have hin := fun k hk => h.inner hp (by omega) (k := k) hk
  rw [alK, alO, blks_put hp (by rw [splK_at]; omega), blks_spl2 p o (od p) _ _ (fun k hk => by have := (hin k hk).2; omega)]
/-- The tables along the splits. -/
theorem spl_tiles (p o : Nat) : ∀ (m : Nat) (kd od : Nat → Nat), Tiles kd od n → NoBud kd od n → p < n → kd p = 2 → od p = m → o ≤ m → Tiles (splK kd p o m) (upd (splO od p o m) p o) n ∧ NoBud (splK kd p o m) (upd (splO od p o m) p o) n
  | 0, kd, od, h, hb, hp, h1, h2, h3 => by
    obtain rfl : o = 0 := by omega
    have e : upd (splO od p 0 0) p 0 = od := by funext j; unfold upd splO; split; (subst_vars; exact h2.symm); rfl
    rw [e]; exact ⟨h, hb⟩
  | m + 1, kd, od, h, hb, hp, h1, h2, h3 => by
    unfold splK splO
    by_cases hm : o ≤ m
    · rw [if_pos hm, if_pos hm]
      have hk := Nat.two_pow_pos m
      have ha := h.al p hp (by omega)
      rw [h2] at ha
      have h4 := h.inner hp (by omega) (k := m) (by omega)
      have hs := h.split hp (by omega) h2 (c := 1) (.inl rfl)
      have hnb : NoBud (upd kd (p + 2 ^ m) 1) (upd (upd od (p + 2 ^ m) m) p m) n := by
        intro i hi ho hai hin ⟨hc1, hc2⟩
        have hki : kd i = 1 ∨ i = p + 2 ^ m := by
          by_cases e : i = p + 2 ^ m
          · exact .inr e
          · rw [upd_ne _ _ e] at hi; exact .inl hi
        rcases hki with hki | rfl
        · have hip : i ≠ p := fun e => by subst e; omega
          have hir : i ≠ p + 2 ^ m := fun e => by subst e; omega
          rw [upd_ne _ _ hip, upd_ne _ _ hir] at ho hai hin hc1 hc2
          by_cases e : i + 2 ^ od i = p + 2 ^ m
          · rw [e, upd_ne _ _ (show p + 2 ^ m ≠ p by omega), upd_at] at hc2
            rw [← hc2] at e
            exact hip (by omega)
          · rw [upd_ne _ _ e] at hc1
            by_cases e2 : i + 2 ^ od i = p
            · rw [e2] at hc1; omega
            · rw [upd_ne _ _ e2, upd_ne _ _ e] at hc2
              exact hb i hki ho hai hin ⟨hc1, hc2⟩
        · have e1 : upd (upd od (p + 2 ^ m) m) p m (p + 2 ^ m) = m := by rw [upd_ne _ _ (by omega), upd_at]
          rw [e1] at hai
          exact al_not ha hai
      have := spl_tiles p o m (upd kd (p + 2 ^ m) 1) (upd (upd od (p + 2 ^ m) m) p m) hs hnb hp (by rw [upd_ne _ _ (by omega)]; exact h1) (upd_at _ _ _) hm
      have e : upd (splO (upd (upd od (p + 2 ^ m) m) p m) p o m) p o = upd (splO (upd od (p + 2 ^ m) m) p o m) p o := by
        funext j
        unfold upd
        split
        · rfl
        · rename_i hj
          have gen : ∀ (k : Nat) (od od' : Nat → Nat), (∀ j, j ≠ p → od j = od' j) → ∀ j, j ≠ p → splO od p o k j = splO od' p o k j := by
            intro k
            induction k with
            | zero => exact fun _ _ h => h
            | succ k ih =>
              intro od od' h
              unfold splO; split
              · exact ih _ _ (fun j hj => by unfold upd; split; rfl; exact h j hj)
              · exact h
          exact gen m _ _ (fun j hj => by simp [hj]) j hj
      rw [e] at this
      exact this
    · obtain rfl : o = m + 1 := by omega
      rw [if_neg hm, if_neg hm]
      have e : upd od p (m + 1) = od := by funext j; unfold upd; split; (subst_vars; exact h2.symm); rfl
      rw [e]; exact ⟨h, hb⟩
theorem alloc_tiles (h : Tiles kd od n) (hb : NoBud kd od n) {p o : Nat} (hp : p < n) (h1 : kd p = 1) (ho : o ≤ od p) : Tiles (alK kd od p o) (alO od p o) n ∧ NoBud (alK kd od p o) (alO od p o) n := by
  have hb2 : NoBud (upd kd p 2) od n := fun i hi ho ha hin ⟨hc1, hc2⟩ => by
    have e1 : i ≠ p := fun e => by subst e; rw [upd_at] at hi; omega
    have e2 : i + 2 ^ od i ≠ p := fun e => by rw [e, upd_at] at hc1; omega
    rw [upd_ne _ _ e1] at hi
    rw [upd_ne _ _ e2] at hc1
    exact hb i hi ho ha hin ⟨hc1, hc2⟩
  have := spl_tiles p o (od p) (upd kd p 2) od (h.relabel (by omega) (.inr rfl)) hb2 hp (upd_at _ _ _) rfl ho
  have e : splK (upd kd p 2) p o (od p) = alK kd od p o := by
    funext j
    unfold alK
    by_cases e : j = p
    · subst e; rw [splK_at, upd_at, upd_at]
    · rw [upd_ne _ _ e]; exact splK_congr p o (od p) _ _ (fun j hj => upd_ne _ _ hj) j e
  rw [e] at this
  exact this
end

end Go.Proofs.Ytkpnmknkimlnaaa.BuT
