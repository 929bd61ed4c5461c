/-
  Buddy: the plain law of New, and that all that is free looks just so. It names no program.
-/
import Derived.Test.YtkpnmknkimlnaaaBuW
namespace Go.Proofs.Ytkpnmknkimlnaaa.BuT
open Go.Proofs.Ytkpnmknkimlnaaa
set_option linter.unusedVariables false
set_option linter.unusedSimpArgs false

/-- The greatest order, up to k, of a block that may begin at p. -/
def gr (n p : Nat) : Nat → Nat
  | 0 => 0
  | k + 1 => if p % 2 ^ (k + 1) = 0 ∧ p + 2 ^ (k + 1) ≤ n then k + 1 else gr n p k
theorem gr_le (n p : Nat) : ∀ k, gr n p k ≤ k
  | 0 => Nat.le_refl _
  | k + 1 => by unfold gr; split; omega; have := gr_le n p k; omega
theorem gr_ok {n p : Nat} (hp : p < n) : ∀ k, p % 2 ^ gr n p k = 0 ∧ p + 2 ^ gr n p k ≤ n
  | 0 => by simp [gr, Nat.mod_one]; omega
  | k + 1 => by unfold gr; split; assumption; exact gr_ok hp k
theorem gr_max {n p j : Nat} (h : p % 2 ^ j = 0 ∧ p + 2 ^ j ≤ n) : ∀ k, j ≤ k → j ≤ gr n p k
  | 0, hk => by unfold gr; omega
  | k + 1, hk => by
    unfold gr; split
    · exact hk
    · rename_i hn
      have : j ≠ k + 1 := fun e => hn (e ▸ h)
      exact gr_max h k (by omega)
/-- The order of the block that begins at p, when all is free. -/
def go (n p : Nat) : Nat := gr n p 9

/-- Behind s blocks: the place that is reached, and the table. -/
def newS (n : Nat) : Nat → Nat × (Nat → Nat) × (Nat → Nat)
  | 0 => (0, fun _ => 0, fun _ => 0)
  | s + 1 => if (newS n s).1 < n then ((newS n s).1 + 2 ^ go n (newS n s).1, upd (newS n s).2.1 (newS n s).1 1, upd (newS n s).2.2 (newS n s).1 (go n (newS n s).1)) else newS n s
/-- What holds of a table that was filled up to p. -/
structure Part (n p : Nat) (kd od : Nat → Nat) : Prop where
  le : p ≤ n
  tiles : Tiles kd od p
  behind : ∀ j, p ≤ j → kd j = 0
  one : ∀ j, kd j ≤ 1
  go : ∀ j, kd j = 1 → od j = go n j
theorem Part.zero (n : Nat) : Part n 0 (fun _ => 0) (fun _ => 0) :=
  ⟨Nat.zero_le _, ⟨fun _ => by omega, fun i hi => by omega, fun i hi => by omega, fun i hi => by omega, fun i hi => by omega, fun j hj => by omega⟩, fun _ _ => rfl, fun _ => by omega, fun _ h => by omega⟩
theorem Part.more {n p : Nat} {kd od : Nat → Nat} (h : Part n p kd od) (hp : p < n) : Part n (p + 2 ^ BuT.go n p) (upd kd p 1) (upd od p (BuT.go n p)) := by
  obtain ⟨h1, h2⟩ := gr_ok hp 9
  have h9 := gr_le n p 9
  change p % 2 ^ BuT.go n p = 0 at h1
  change p + 2 ^ BuT.go n p ≤ n at h2
  change BuT.go n p ≤ 9 at h9
  have hg : ∀ j, j = p → od j = od p := fun j e => by rw [e]
  generalize hq : BuT.go n p = q at *
  have hpos := Nat.two_pow_pos q
  have hk : ∀ j, upd kd p 1 j = if j = p then 1 else kd j := fun _ => rfl
  have ho : ∀ j, upd od p q j = if j = p then q else od j := fun _ => rfl
  have hlt : ∀ i, i ≠ p → kd i ≠ 0 → i < p := fun i e h1 => Nat.lt_of_not_le fun h2 => h1 (h.behind i h2)
  refine ⟨h2, ⟨fun i => ?_, fun i hi h1 => ?_, fun i hi h1 => ?_, fun i hi h1 => ?_, fun i hi h1 j hj hj2 => ?_, fun j hj => ?_⟩, fun j hj => ?_, fun j => ?_, fun j hj => ?_⟩
  · rw [hk]; split; omega; exact h.tiles.kind i
  · rw [ho]; rw [hk] at h1; split
    · exact h9
    · rename_i e; rw [if_neg e] at h1; exact h.tiles.ord i (hlt i e h1) h1
  · rw [ho]; rw [hk] at h1; split
    · rename_i e; omega
    · rename_i e; rw [if_neg e] at h1; have := h.tiles.fits i (hlt i e h1) h1; omega
  · rw [ho]; rw [hk] at h1; split
    · rename_i e; rw [e]; assumption
    · rename_i e; rw [if_neg e] at h1; exact h.tiles.al i (hlt i e h1) h1
  · rw [ho] at hj2; rw [hk] at h1
    split at hj2
    · rw [hk, if_neg (by omega)]; exact h.behind j (by omega)
    · rename_i e; rw [if_neg e] at h1
      have := h.tiles.fits i (hlt i e h1) h1
      rw [hk, if_neg (by omega)]; exact h.tiles.gap i (hlt i e h1) h1 j hj hj2
  · by_cases e : j < p
    · obtain ⟨i, h3, h4, h5⟩ := h.tiles.all j e
      exact ⟨i, h3, by rw [hk, if_neg (by omega)]; exact h4, by rw [ho, if_neg (by omega)]; exact h5⟩
    · exact ⟨p, by omega, by rw [hk, if_pos rfl]; omega, by rw [ho, if_pos rfl]; exact hj⟩
  · rw [hk, if_neg (by omega)]; exact h.behind j (by omega)
  · rw [hk]; split; omega; exact h.one j
  · rw [hk] at hj; rw [ho]
    split
    · rename_i e; rw [e, hq]
    · rename_i e; rw [if_neg e] at hj; exact h.go j hj
theorem newS_part (n : Nat) : ∀ s, Part n (newS n s).1 (newS n s).2.1 (newS n s).2.2
  | 0 => Part.zero n
  | s + 1 => by
    unfold newS; split
    · exact (newS_part n s).more (by assumption)
    · exact newS_part n s
theorem newS_ge (n : Nat) : ∀ s, s ≤ n → s ≤ (newS n s).1
  | 0, _ => Nat.zero_le _
  | s + 1, h => by
    have := newS_ge n s (by omega)
    have hpos := Nat.two_pow_pos (go n (newS n s).1)
    unfold newS; split
    · simp only []; omega
    · omega
theorem newS_end (n : Nat) : (newS n n).1 = n := Nat.le_antisymm (newS_part n n).le (newS_ge n n (Nat.le_refl _))
theorem newS_stay (n s : Nat) (h : n ≤ (newS n s).1) : ∀ d, newS n (s + d) = newS n s
  | 0 => rfl
  | d + 1 => by rw [← Nat.add_assoc, newS, newS_stay n s h d, if_neg (by omega)]
/-- The new table. -/
def newK (n : Nat) : Nat → Nat := (newS n n).2.1
def newO (n : Nat) : Nat → Nat := (newS n n).2.2
theorem newS_done {n s : Nat} (hs : s ≤ n) (h : n ≤ (newS n s).1) : newS n s = (n, newK n, newO n) := by
  have := newS_stay n s h (n - s)
  rw [show s + (n - s) = n by omega] at this
  rw [← this]
  have := newS_end n
  unfold newK newO
  exact Prod.ext this rfl
theorem new_tiles (n : Nat) : Tiles (newK n) (newO n) n := by have := (newS_part n n).tiles; rw [newS_end] at this; exact this
theorem new_one (n j : Nat) : newK n j ≤ 1 := (newS_part n n).one j
theorem new_go (n : Nat) {j : Nat} (h : newK n j = 1) : newO n j = go n j := (newS_part n n).go j h
/-- Blocks that are as great as may be have no buddies. -/
theorem nobud_go {kd od : Nat → Nat} {n : Nat} (h : Tiles kd od n) (hg : ∀ j, kd j = 1 → od j = go n j) (hb : ∀ j, n ≤ j → kd j = 0) : NoBud kd od n := by
  intro i hi ho ha hin ⟨h1, h2⟩
  have hf := h.fits _ hin (by omega)
  rw [h2] at hf
  have := gr_max (n := n) (p := i) (j := od i + 1) ⟨ha, by rw [pow_succ2]; omega⟩ 9 (by omega)
  have e := hg i hi
  unfold go at e
  omega
theorem new_nobud (n : Nat) : NoBud (newK n) (newO n) n := nobud_go (new_tiles n) (fun j h => new_go n h) (fun j hj => (newS_part n n).behind j (by rw [newS_end]; exact hj))
/-- The list of a table that grows at its end. -/
theorem blks_grow {F : Int} {kd od : Nat → Nat} {p n q : Nat} (hp : p < n) (hb : ∀ j, p ≤ j → kd j ≠ 1) : blks F (upd kd p 1) (upd od p q) 1 n = blks F kd od 1 n ++ [⟨F + p, q⟩] := by
  have h0 : ∀ (kd od : Nat → Nat) m, (∀ j, p < j → kd j ≠ 1) → blkR F kd od 1 (p + 1) m = [] := by
    intro kd od m h
    induction m with
    | zero => rfl
    | succ m ih => rw [blkR, ih]; unfold one; rw [if_neg (h _ (by omega))]; rfl
  rw [blks_at hp, blks_at (kd := kd) hp, blks_upd_low, h0 _ _ _ (fun j hj => by rw [upd_ne _ _ (by omega)]; exact hb j (by omega)), h0 _ _ _ (fun j hj => hb j (by omega))]
  have e1 : one F (upd kd p 1) (upd od p q) 1 p = [⟨F + p, q⟩] := by unfold one; simp [upd]
  have e2 : one F kd od 1 p = [] := by unfold one; rw [if_neg (hb p (Nat.le_refl _))]
  rw [e1, e2]; simp

/-! ### All free: just so -/
/-- No block could be greater. -/
theorem max_block {kd od : Nat → Nat} {n : Nat} (h : Tiles kd od n) (hb : NoBud kd od n) (h1 : ∀ j, j < n → kd j ≤ 1) : ∀ (k q : Nat), q < n → kd q = 1 → od q = k → k < 9 → q % 2 ^ (k + 1) = 0 → q + 2 ^ (k + 1) ≤ n → False := by
  intro k
  induction k using Nat.strongRecOn with
  | ind k ih =>
    intro q hq hkq hoq hk9 ha hf
    have hpos := Nat.two_pow_pos k
    rw [pow_succ2] at hf
    -- what begins behind it
    obtain ⟨i, hi1, hi2, hi3⟩ := h.all (q + 2 ^ k) (by omega)
    have hin : i < n := by omega
    have hiq : i = q + 2 ^ k := by
      by_cases e : i = q
      · subst e; rw [hoq] at hi3; omega
      · rcases h.apart hin hq hi2 (by omega) e with h3 | h3
        · omega
        · rw [hoq] at h3; omega
    subst hiq
    have hk1 : kd (q + 2 ^ k) = 1 := by have := h1 _ hin; omega
    have hal := h.al _ hin hi2
    generalize hj : od (q + 2 ^ k) = j at *
    rcases Nat.lt_trichotomy j k with hjk | rfl | hjk
    · refine ih j hjk (q + 2 ^ k) hin hk1 hj (by omega) ?_ ?_
      · have e1 : q % 2 ^ (j + 1) = 0 := al_le (by omega) ha
        have e2 : 2 ^ k % 2 ^ (j + 1) = 0 := Nat.mod_eq_zero_of_dvd (Nat.pow_dvd_pow 2 (by omega))
        rw [Nat.add_mod, e1, e2]; simp
      · have : 2 ^ (j + 1) ≤ 2 ^ k := Nat.pow_le_pow_right (by omega) (by omega)
        omega
    · exact hb q hkq (by omega) (by rw [hoq]; exact ha) (by rw [hoq]; exact hin) ⟨by rw [hoq]; exact hk1, by rw [hoq]; exact hj⟩
    · exact al_not ha (al_le (by omega) hal)
theorem free_go {kd od : Nat → Nat} {n : Nat} (h : Tiles kd od n) (hb : NoBud kd od n) (h1 : ∀ j, j < n → kd j ≤ 1) {q : Nat} (hq : q < n) (hk : kd q = 1) : od q = go n q := by
  have ho := h.ord q hq (by omega)
  have hge := gr_max (n := n) (p := q) (j := od q) ⟨h.al q hq (by omega), h.fits q hq (by omega)⟩ 9 ho
  obtain ⟨g1, g2⟩ := gr_ok hq 9
  have h9 := gr_le n q 9
  unfold go
  rcases Nat.lt_or_ge (od q) (gr n q 9) with hlt | hge2
  · exfalso
    refine max_block h hb h1 (od q) q hq hk rfl (by omega) (al_le (by omega) g1) ?_
    have : 2 ^ (od q + 1) ≤ 2 ^ gr n q 9 := Nat.pow_le_pow_right (by omega) (by omega)
    omega
  · omega
/-- Two tables whose blocks have the same orders where they begin are one. -/
theorem tiles_same {kd od kd' od' : Nat → Nat} {n : Nat} (h : Tiles kd od n) (h' : Tiles kd' od' n) (g : Nat → Nat) (hg : ∀ q, q < n → kd q ≠ 0 → od q = g q) (hg' : ∀ q, q < n → kd' q ≠ 0 → od' q = g q) : ∀ j, j < n → (kd j ≠ 0 ↔ kd' j ≠ 0) := by
  intro j
  induction j using Nat.strongRecOn with
  | ind j ih =>
    intro hj
    have half : ∀ {kd od kd' od' : Nat → Nat}, Tiles kd od n → Tiles kd' od' n → (∀ q, q < n → kd q ≠ 0 → od q = g q) → (∀ q, q < n → kd' q ≠ 0 → od' q = g q) → (∀ m, m < j → (kd m ≠ 0 ↔ kd' m ≠ 0)) → kd j ≠ 0 → kd' j ≠ 0 := by
      intro kd od kd' od' h h' hg hg' ih hk hz
      obtain ⟨i, h1, h2, h3⟩ := h'.all j hj
      have hij : i < j := by
        rcases Nat.lt_or_ge i j with e | e
        · exact e
        · obtain rfl : i = j := by omega
          exact absurd hz h2
      have h4 := (ih i hij).2 h2
      rw [hg' i (by omega) h2, ← hg i (by omega) h4] at h3
      exact hk (h.gap i (by omega) h4 j hij h3)
    exact ⟨half h h' hg hg' (fun m hm => ih m hm (by omega)), half h' h hg' hg (fun m hm => (ih m hm (by omega)).symm)⟩
theorem all_free {F : Int} {kd od : Nat → Nat} {n : Nat} (h : Tiles kd od n) (hb : NoBud kd od n) (h1 : ∀ j, j < n → kd j ≤ 1) : blks F kd od 1 n = blks F (newK n) (newO n) 1 n := by
  have hn := new_tiles n
  have hsame := tiles_same h hn (go n) (fun q hq hk => free_go h hb h1 hq (by have := h1 q hq; omega)) (fun q hq hk => new_go n (by have := new_one n q; omega))
  refine blks_congr fun i hi => ⟨?_, fun hk => ?_⟩
  · have h2 := hsame i hi
    have h3 := h1 i hi
    have h4 := new_one n i
    omega
  · have h2 := (hsame i hi).1 (by omega)
    have h4 := new_one n i
    rw [free_go h hb h1 hi hk, new_go n (by omega)]

/-! ### What is left -/
def leftB (l : List Bk) : Int := l.foldl (fun a x => a + 2 ^ x.o.toNat) 0
def mostB (l : List Bk) : Int := l.foldl (fun a x => max a x.o) (-1)
theorem left_new (F : Int) (n : Nat) : ∀ s, leftB (blks F (newS n s).2.1 (newS n s).2.2 1 n) = ((newS n s).1 : Int)
  | 0 => by
    have : ∀ m, blks F (fun _ => 0) (fun _ => 0) 1 m = [] := by
      intro m
      induction m with
      | zero => rfl
      | succ m ih => rw [blks, ih]; rfl
    show leftB (blks F (fun _ => 0) (fun _ => 0) 1 n) = _
    rw [this]; rfl
  | s + 1 => by
    have ih := left_new F n s
    have hP := newS_part n s
    unfold newS; split
    · rename_i hlt
      simp only []
      rw [blks_grow hlt (fun j hj => by rw [hP.behind j hj]; omega)]
      unfold leftB at ih ⊢
      rw [List.foldl_append, ih]
      simp
    · exact ih
theorem left_all (F : Int) (n : Nat) : leftB (blks F (newK n) (newO n) 1 n) = n := by
  have := left_new F n n
  rw [newS_end] at this
  exact this
end Go.Proofs.Ytkpnmknkimlnaaa.BuT
