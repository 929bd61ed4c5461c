/-
  Buddy: the plain law of Free and Shatter. It names no program.
-/
import Derived.Test.YtkpnmknkimlnaaaBuV
namespace Go.Proofs.Ytkpnmknkimlnaaa.BuT
open Go.Proofs.Ytkpnmknkimlnaaa
set_option linter.unusedVariables false
set_option linter.unusedSimpArgs false

/-- The buddy's place. -/
def oth (p k : Nat) : Nat := if p % 2 ^ (k + 1) = 0 then p + 2 ^ k else p - 2 ^ k
/-- What the reference's Give leaves of the free blocks. -/
def giveR (F : Int) : Nat → List Bk → Nat → Nat → List Bk
  | 0, l, p, k => withB ⟨F + p, k⟩ l
  | m + 1, l, p, k => if (⟨F + oth p k, k⟩ : Bk) ∈ l then giveR F m (withoutB l (placeB l ⟨F + oth p k, k⟩).toNat) (min p (oth p k)) (k + 1) else withB ⟨F + p, k⟩ l

section
variable {F : Int} {kd od kd' od' : Nat → Nat} {n : Nat}
theorem Tiles.congr (h : Tiles kd od n) (e1 : ∀ i, kd' i = kd i) (e2 : ∀ i, kd i ≠ 0 → od' i = od i) : Tiles kd' od' n := by
  obtain rfl : kd' = kd := funext e1
  exact ⟨h.kind, fun i hi h1 => by rw [e2 i h1]; exact h.ord i hi h1, fun i hi h1 => by rw [e2 i h1]; exact h.fits i hi h1, fun i hi h1 => by rw [e2 i h1]; exact h.al i hi h1,
    fun i hi h1 => by rw [e2 i h1]; exact h.gap i hi h1, fun j hj => by obtain ⟨i, h1, h2, h3⟩ := h.all j hj; exact ⟨i, h1, h2, by rw [e2 i h2]; exact h3⟩⟩
theorem NoBud.drop (h : NoBud kd od n) (e : ∀ i, kd' i = 1 → kd i = 1 ∧ od' i = od i) : NoBud kd' od' n := by
  intro i hi ho ha hin ⟨h1, h2⟩
  obtain ⟨e1, e2⟩ := e i hi
  rw [e2] at ho ha hin h1 h2
  obtain ⟨e3, e4⟩ := e _ h1
  rw [e4] at h2
  exact h i e1 ho ha hin ⟨e3, h2⟩
theorem mem_free {q k : Nat} : (⟨F + q, k⟩ : Bk) ∈ blks F kd od 1 n ↔ q < n ∧ kd q = 1 ∧ od q = k := by
  rw [mem_blks]
  constructor
  · rintro ⟨i, h1, h2, h3⟩
    injection h3 with h4 h5
    obtain rfl : i = q := by omega
    exact ⟨h1, h2, by omega⟩
  · rintro ⟨h1, h2, h3⟩
    exact ⟨q, h1, h2, by rw [h3]⟩
theorem del_free {q c : Nat} (hq : q < n) (h1 : kd q = c) : withoutB (blks F kd od c n) (placeB (blks F kd od c n) ⟨F + q, od q⟩).toNat = blks F (upd kd q 3) od c n ∨ c = 3 := by
  by_cases hc : c = 3
  · exact .inr hc
  · refine .inl ?_
    obtain ⟨A, B, e2, e3, e4⟩ := blks_del (F := F) (kd := kd) (od := od) hq h1
    rw [e2, placeB_mid e3, Int.toNat_natCast, withoutB_mid, ← e4 3 (od q) (fun e => hc e.symm)]
    exact blks_congr fun i hi => ⟨Iff.rfl, fun _ => by unfold upd; split; (subst_vars; rfl); rfl⟩

/-- Where the loop of Free stands: the block at p, of order k, is given back; G: what will be free; T: what is taken. -/
structure FrI (F : Int) (kd od : Nat → Nat) (n p0 p k : Nat) (G T : List Bk) : Prop where
  tiles : Tiles (upd kd p 2) (upd od p k) n
  nobud : NoBud (upd kd p 2) (upd od p k) n
  lt : p < n
  k9 : k ≤ 9
  ne1 : kd p ≠ 1
  give : giveR F (9 - k) (blks F kd od 1 n) p k = G
  taken : blks F (upd kd p 0) od 2 n = T
  lo : p ≤ p0
  hi : p0 < p + 2 ^ k
theorem FrI.start (h : Tiles kd od n) (hb : NoBud kd od n) {p : Nat} (hp : p < n) (h2 : kd p = 2) : FrI F kd od n p p (od p) (giveR F (9 - od p) (blks F kd od 1 n) p (od p)) (blks F (upd kd p 0) od 2 n) := by
  have e1 : upd kd p 2 = kd := by funext j; unfold upd; split; (subst_vars; exact h2.symm); rfl
  have e2 : upd od p (od p) = od := by funext j; unfold upd; split; (subst_vars; rfl); rfl
  exact ⟨by rw [e1, e2]; exact h, by rw [e1, e2]; exact hb, hp, h.ord p hp (by omega), by omega, rfl, rfl, Nat.le_refl _, by have := Nat.two_pow_pos (od p); omega⟩
theorem FrI.al {p0 p k : Nat} {G T : List Bk} (h : FrI F kd od n p0 p k G T) : p % 2 ^ k = 0 ∧ p + 2 ^ k ≤ n := by
  have h1 := h.tiles.al p h.lt (by rw [upd_at]; omega)
  have h2 := h.tiles.fits p h.lt (by rw [upd_at]; omega)
  rw [upd_at] at h1 h2
  exact ⟨h1, h2⟩
/-- The buddy's place is one. -/
theorem oth_form {p k : Nat} (h : p % 2 ^ k = 0) : (p % 2 ^ (k + 1) = 0 ∧ oth p k = p + 2 ^ k) ∨ (p % 2 ^ (k + 1) ≠ 0 ∧ oth p k + 2 ^ k = p ∧ oth p k % 2 ^ (k + 1) = 0) := by
  unfold oth
  by_cases e : p % 2 ^ (k + 1) = 0
  · rw [if_pos e]; exact .inl ⟨e, rfl⟩
  · rw [if_neg e]
    obtain ⟨h1, h2⟩ := al_half h e
    exact .inr ⟨e, by omega, h2⟩
theorem FrI.step {p0 p k : Nat} {G T : List Bk} (h : FrI F kd od n p0 p k G T) (hk : k < 9) (h1 : oth p k < n) (h2 : kd (oth p k) = 1) (h3 : od (oth p k) = k) :
    FrI F (upd (upd kd (max p (oth p k)) 0) (min p (oth p k)) 0) (upd (upd od (max p (oth p k)) 0) (min p (oth p k)) 0) n p0 (min p (oth p k)) (k + 1) G T := by
  have hpk := Nat.two_pow_pos k
  obtain ⟨ha, hf⟩ := h.al
  have hne : oth p k ≠ p := fun e => h.ne1 (e ▸ h2)
  obtain ⟨lo, hi, hlo, hhi, hd, hal, hcase⟩ : ∃ lo hi, min p (oth p k) = lo ∧ max p (oth p k) = hi ∧ hi = lo + 2 ^ k ∧ lo % 2 ^ (k + 1) = 0 ∧ ((p = lo ∧ oth p k = hi) ∨ (p = hi ∧ oth p k = lo)) := by
    rcases oth_form ha with ⟨e1, e2⟩ | ⟨e1, e2, e3⟩
    · exact ⟨p, oth p k, by omega, by omega, e2, e1, .inl ⟨rfl, rfl⟩⟩
    · exact ⟨oth p k, p, by omega, by omega, by omega, e3, .inr ⟨rfl, rfl⟩⟩
  have hmem : (⟨F + oth p k, k⟩ : Bk) ∈ blks F kd od 1 n := mem_free.2 ⟨h1, h2, h3⟩
  rw [hlo, hhi]
  have hS : ∀ j, upd kd p 2 j = if j = p then 2 else kd j := fun j => rfl
  have hSo : ∀ j, upd od p k j = if j = p then k else od j := fun j => rfl
  have hlo0 : upd kd p 2 lo ≠ 0 ∧ upd od p k lo = k := by
    rcases hcase with ⟨e1, e2⟩ | ⟨e1, e2⟩
    · rw [← e1, upd_at, upd_at]; exact ⟨by omega, rfl⟩
    · rw [← e2, upd_ne _ _ hne, upd_ne _ _ hne]; exact ⟨by omega, h3⟩
  have hhi0 : upd kd p 2 hi ≠ 0 ∧ upd od p k hi = k := by
    rcases hcase with ⟨e1, e2⟩ | ⟨e1, e2⟩
    · rw [← e2, upd_ne _ _ hne, upd_ne _ _ hne]; exact ⟨by omega, h3⟩
    · rw [← e1, upd_at, upd_at]; exact ⟨by omega, rfl⟩
  have hhin : hi < n := by rcases hcase with ⟨e1, e2⟩ | ⟨e1, e2⟩; omega; rw [← e1]; exact h.lt
  have hj := h.tiles.join (p := lo) (k := k) (x := 0) (by rw [← hd]; exact hhin) hlo0.1 hlo0.2 (by rw [← hd]; exact hhi0.1) (by rw [← hd]; exact hhi0.2) hk hal
  rw [← hd] at hj
  have ek : upd (upd (upd kd hi 0) lo 0) lo 2 = upd (upd (upd kd p 2) hi 0) lo 2 := by
    funext j
    unfold upd
    by_cases e1 : j = lo
    · simp [e1]
    · by_cases e2 : j = hi
      · simp [e1, e2]
      · have : j ≠ p := by rcases hcase with ⟨e, _⟩ | ⟨e, _⟩ <;> omega
        simp [e1, e2, this]
  have eo : upd (upd (upd od hi 0) lo 0) lo (k + 1) = upd (upd (upd od p k) hi 0) lo (k + 1) := by
    funext j
    unfold upd
    by_cases e1 : j = lo
    · simp [e1]
    · by_cases e2 : j = hi
      · simp [e1, e2]
      · have : j ≠ p := by rcases hcase with ⟨e, _⟩ | ⟨e, _⟩ <;> omega
        simp [e1, e2, this]
  have hkd : ∀ j, upd (upd kd hi 0) lo 0 j = if j = lo ∨ j = hi then 0 else kd j := fun j => by
    unfold upd
    by_cases e1 : j = lo
    · simp [e1]
    · by_cases e2 : j = hi <;> simp [e1, e2]
  have hod : ∀ j, j ≠ lo → j ≠ hi → upd (upd od hi 0) lo 0 j = od j := fun j e1 e2 => by unfold upd; simp [e1, e2]
  have hpq : ∀ j, (j = lo ∨ j = hi) ↔ (j = p ∨ j = oth p k) := fun j => by rcases hcase with ⟨e, e'⟩ | ⟨e, e'⟩ <;> rw [e', e] <;> omega
  refine ⟨by rw [ek, eo]; exact hj, ?_, by omega, by omega, by rw [hkd, if_pos (.inl rfl)]; omega, ?_, ?_, ?_, ?_⟩
  · rw [ek, eo]
    refine h.nobud.drop fun i hi1 => ?_
    have e1 : i ≠ lo := fun e => by subst e; rw [upd_at] at hi1; omega
    rw [upd_ne _ _ e1] at hi1 ⊢
    have e2 : i ≠ hi := fun e => by subst e; rw [upd_at] at hi1; omega
    rw [upd_ne _ _ e2] at hi1 ⊢
    exact ⟨hi1, rfl⟩
  · have hg := h.give
    rw [show 9 - k = (9 - (k + 1)) + 1 by omega, giveR, if_pos hmem, hlo] at hg
    rw [← hg]
    congr 1
    have := (del_free (F := F) (kd := kd) (od := od) h1 h2).resolve_right (by omega)
    rw [h3] at this
    rw [this]
    refine blks_congr fun i hi1 => ?_
    by_cases e : i = lo ∨ i = hi
    · rw [hkd, if_pos e]
      refine ⟨⟨fun h0 => by omega, fun h0 => ?_⟩, fun h0 => by omega⟩
      rcases (hpq i).1 e with rfl | rfl
      · rw [upd_ne _ _ (fun e => hne e.symm)] at h0; exact absurd h0 h.ne1
      · rw [upd_at] at h0; omega
    · rw [hkd, if_neg e, upd_ne _ _ (fun e' => e ((hpq i).2 (.inr e'))), hod i (fun e' => e (.inl e')) (fun e' => e (.inr e'))]
      exact ⟨Iff.rfl, fun _ => rfl⟩
  · rw [← h.taken]
    refine blks_congr fun i hi1 => ?_
    have e0 : upd (upd (upd kd hi 0) lo 0) lo 0 i = if i = lo ∨ i = hi then 0 else kd i := by
      by_cases e : i = lo
      · subst e; rw [upd_at, if_pos (.inl rfl)]
      · rw [upd_ne _ _ e, hkd]
    rw [e0]
    by_cases e : i = lo ∨ i = hi
    · rw [if_pos e]
      refine ⟨⟨fun h0 => by omega, fun h0 => ?_⟩, fun h0 => by omega⟩
      rcases (hpq i).1 e with rfl | rfl
      · rw [upd_at] at h0; omega
      · rw [upd_ne _ _ hne] at h0; omega
    · have e3 : i ≠ p := fun e' => e ((hpq i).2 (.inl e'))
      rw [if_neg e, upd_ne _ _ e3, hod i (fun e' => e (.inl e')) (fun e' => e (.inr e'))]
      exact ⟨Iff.rfl, fun _ => rfl⟩
  · have := h.lo; rcases hcase with ⟨e, _⟩ | ⟨e, _⟩ <;> omega
  · have := h.hi; rw [pow_succ2]; rcases hcase with ⟨e, _⟩ | ⟨e, _⟩ <;> omega
/-- How the loop is left. -/
theorem FrI.done {p0 p k : Nat} {G T : List Bk} (h : FrI F kd od n p0 p k G T) (hx : k = 9 ∨ ¬ (oth p k < n ∧ kd (oth p k) = 1 ∧ od (oth p k) = k)) (x y : Nat) (hx0 : p ≠ p0 → x = 0) :
    Tiles (upd (if p = p0 then kd else upd kd p0 x) p 1) (upd (if p = p0 then od else upd od p0 y) p k) n ∧ NoBud (upd (if p = p0 then kd else upd kd p0 x) p 1) (upd (if p = p0 then od else upd od p0 y) p k) n ∧
    blks F (upd (if p = p0 then kd else upd kd p0 x) p 1) (upd (if p = p0 then od else upd od p0 y) p k) 1 n = G ∧ blks F (upd (if p = p0 then kd else upd kd p0 x) p 1) (upd (if p = p0 then od else upd od p0 y) p k) 2 n = T := by
  have hz : p ≠ p0 → kd p0 = 0 := fun e => by
    have := h.tiles.gap p h.lt (by rw [upd_at]; omega) p0 (by have := h.lo; omega) (by rw [upd_at]; exact h.hi)
    rwa [upd_ne _ _ (fun e' => e e'.symm)] at this
  have ek : (if p = p0 then kd else upd kd p0 x) = kd := by
    by_cases e : p = p0
    · rw [if_pos e]
    · rw [if_neg e]; funext j; unfold upd; split
      · rename_i e'; subst e'; rw [hx0 e, hz e]
      · rfl
  rw [ek]
  have eo : ∀ j, kd j ≠ 0 → upd (if p = p0 then od else upd od p0 y) p k j = upd od p k j := fun j hj => by
    by_cases e : p = p0
    · rw [if_pos e]
    · rw [if_neg e]
      by_cases e2 : j = p
      · subst e2; rw [upd_at, upd_at]
      · rw [upd_ne _ _ e2, upd_ne _ _ e2, upd_ne _ _ (fun e3 => by subst e3; exact hj (hz e))]
  have eo2 : ∀ j, upd kd p 1 j ≠ 0 → upd (if p = p0 then od else upd od p0 y) p k j = upd od p k j := fun j hj => by
    by_cases e2 : j = p
    · subst e2; rw [upd_at, upd_at]
    · rw [upd_ne _ _ e2] at hj; exact eo j hj
  have ht : Tiles (upd kd p 1) (upd od p k) n := by
    have := h.tiles.relabel (p := p) (c := 1) (by rw [upd_at]; omega) (.inl rfl)
    refine this.congr (fun i => ?_) (fun i _ => rfl)
    unfold upd; split <;> rfl
  have hnb : NoBud (upd kd p 1) (upd od p k) n := by
    intro i hi ho ha hin ⟨h1, h2⟩
    obtain ⟨hal, hf⟩ := h.al
    have hout : k < 9 → ¬ (oth p k < n ∧ kd (oth p k) = 1 ∧ od (oth p k) = k) := fun hk => hx.resolve_left (by omega)
    by_cases e : i = p
    · subst e
      rw [upd_at] at ho ha hin h1 h2
      have hp2 := Nat.two_pow_pos k
      rw [upd_ne _ _ (by omega)] at h1 h2
      have : oth i k = i + 2 ^ k := by unfold oth; rw [if_pos ha]
      exact hout ho ⟨by rw [this]; exact hin, by rw [this]; exact h1, by rw [this]; exact h2⟩
    · rw [upd_ne _ _ e] at hi ho ha hin h1 h2
      by_cases e2 : i + 2 ^ od i = p
      · rw [e2, upd_at] at h2
        rw [← h2] at ha e2 ho
        have hn : p % 2 ^ (k + 1) ≠ 0 := by rw [← e2]; exact al_not ha
        have : oth p k = i := by unfold oth; rw [if_neg hn]; omega
        exact hout ho ⟨by rw [this]; omega, by rw [this]; exact hi, by rw [this]; exact h2.symm⟩
      · rw [upd_ne _ _ e2] at h1 h2
        have h3 := h.nobud i (by rw [upd_ne _ _ e]; exact hi) (by rw [upd_ne _ _ e]; exact ho) (by rw [upd_ne _ _ e]; exact ha) (by rw [upd_ne _ _ e]; exact hin)
        rw [upd_ne _ _ e, upd_ne _ _ e2, upd_ne _ _ e2] at h3
        exact h3 ⟨h1, h2⟩
  refine ⟨ht.congr (fun _ => rfl) eo2, hnb.drop (fun i hi => ⟨hi, eo2 i (by omega)⟩), ?_, ?_⟩
  · have h1 : blks F (upd kd p 1) (upd (if p = p0 then od else upd od p0 y) p k) 1 n = blks F (upd kd p 1) (upd od p k) 1 n := blks_congr fun i hi => ⟨Iff.rfl, fun e => eo2 i (by omega)⟩
    rw [h1, blks_put h.lt h.ne1, ← h.give]
    by_cases hk : k < 9
    · rw [show 9 - k = (9 - (k + 1)) + 1 by omega, giveR, if_neg (fun hm => (hx.resolve_left (by omega)) (mem_free.1 hm))]
    · obtain rfl : k = 9 := by have := h.k9; omega
      rfl
  · rw [← h.taken]
    refine blks_congr fun i hi => ?_
    by_cases e : i = p
    · subst e; rw [upd_at, upd_at]; simp
    · rw [upd_ne _ _ e, upd_ne _ _ e]
      exact ⟨Iff.rfl, fun h2 => by rw [eo i (by omega), upd_ne _ _ e]⟩

/-! ### Shatter -/
def shK (kd : Nat → Nat) (p : Nat) : Nat → (Nat → Nat)
  | 0 => kd
  | i + 1 => upd (shK kd p i) (p + i) 2
def shO (od : Nat → Nat) (p : Nat) : Nat → (Nat → Nat)
  | 0 => od
  | i + 1 => upd (shO od p i) (p + i) 0
def rsh (f : Int) : Nat → List Bk → List Bk
  | 0, l => l
  | i + 1, l => withB ⟨f + i, 0⟩ (rsh f i l)
theorem shK_at (p : Nat) : ∀ (m j : Nat), shK kd p m j = if p ≤ j ∧ j < p + m then 2 else kd j
  | 0, j => by rw [if_neg (by omega)]; rfl
  | m + 1, j => by
    unfold shK
    by_cases e : j = p + m
    · subst e; rw [upd_at, if_pos (by omega)]
    · rw [upd_ne _ _ e, shK_at p m j]
      by_cases h : p ≤ j ∧ j < p + m
      · rw [if_pos h, if_pos (by omega)]
      · rw [if_neg h, if_neg (by omega)]
theorem shO_at (p : Nat) : ∀ (m j : Nat), shO od p m j = if p ≤ j ∧ j < p + m then 0 else od j
  | 0, j => by rw [if_neg (by omega)]; rfl
  | m + 1, j => by
    unfold shO
    by_cases e : j = p + m
    · subst e; rw [upd_at, if_pos (by omega)]
    · rw [upd_ne _ _ e, shO_at p m j]
      by_cases h : p ≤ j ∧ j < p + m
      · rw [if_pos h, if_pos (by omega)]
      · rw [if_neg h, if_neg (by omega)]
theorem sh_taken0 (p : Nat) : ∀ (m : Nat), p + m ≤ n → (∀ i, i < m → kd (p + i) ≠ 2) → blks F (shK kd p m) (shO od p m) 2 n = rsh (F + p) m (blks F kd od 2 n)
  | 0, _, _ => rfl
  | m + 1, h, h2 => by
    unfold shK shO rsh
    rw [blks_put (by omega) (by rw [shK_at, if_neg (by omega)]; exact h2 m (by omega)), sh_taken0 p m (by omega) (fun i hi => h2 i (by omega))]
    congr 2
    simp; omega
theorem sh_taken (h : Tiles kd od n) {p : Nat} (hp : p < n) (h2 : kd p = 2) : blks F (shK kd p (2 ^ od p)) (shO od p (2 ^ od p)) 2 n = rsh (F + p) (2 ^ od p) (blks F (upd kd p 0) od 2 n) := by
  have hpos := Nat.two_pow_pos (od p)
  rw [← sh_taken0 p (2 ^ od p) (h.fits p hp (by omega)) (fun i hi => by
    by_cases e : i = 0
    · subst e; rw [Nat.add_zero, upd_at]; omega
    · rw [upd_ne _ _ (by omega), h.gap p hp (by omega) (p + i) (by omega) (by omega)]; omega)]
  refine blks_congr fun i hi => ?_
  rw [shK_at, shK_at]
  by_cases e : p ≤ i ∧ i < p + 2 ^ od p
  · rw [if_pos e, if_pos e]; exact ⟨Iff.rfl, fun _ => rfl⟩
  · rw [if_neg e, if_neg e, upd_ne _ _ (by omega)]; exact ⟨Iff.rfl, fun _ => rfl⟩
theorem sh_free (h : Tiles kd od n) {p : Nat} (hp : p < n) (h2 : kd p = 2) : blks F (shK kd p (2 ^ od p)) (shO od p (2 ^ od p)) 1 n = blks F kd od 1 n := by
  refine blks_congr fun i hi => ?_
  rw [shK_at, shO_at]
  by_cases e : p ≤ i ∧ i < p + 2 ^ od p
  · rw [if_pos e, if_pos e]
    refine ⟨⟨fun h => by omega, fun h0 => ?_⟩, fun h => by omega⟩
    by_cases e2 : i = p
    · subst e2; omega
    · have := h.gap p hp (by omega) i (by omega) e.2; omega
  · rw [if_neg e, if_neg e]; exact ⟨Iff.rfl, fun _ => rfl⟩
theorem sh_tiles (h : Tiles kd od n) (hb : NoBud kd od n) {p : Nat} (hp : p < n) (h2 : kd p = 2) : Tiles (shK kd p (2 ^ od p)) (shO od p (2 ^ od p)) n ∧ NoBud (shK kd p (2 ^ od p)) (shO od p (2 ^ od p)) n := by
  have hf := h.fits p hp (by omega)
  have hpos := Nat.two_pow_pos (od p)
  generalize hm : 2 ^ od p = m at *
  have hk : ∀ j, shK kd p m j = if p ≤ j ∧ j < p + m then 2 else kd j := shK_at p m
  have ho : ∀ j, shO od p m j = if p ≤ j ∧ j < p + m then 0 else od j := shO_at p m
  have hout : ∀ i, i < n → ¬ (p ≤ i ∧ i < p + m) → kd i ≠ 0 → i + 2 ^ od i ≤ p ∨ p + m ≤ i := fun i hi e h1 => by
    rcases h.apart hi hp h1 (by omega) (by omega) with h3 | h3
    · exact .inl h3
    · rw [hm] at h3; exact .inr h3
  refine ⟨⟨fun i => ?_, fun i hi h1 => ?_, fun i hi h1 => ?_, fun i hi h1 => ?_, fun i hi h1 j hj hj2 => ?_, fun j hj => ?_⟩, hb.drop fun i hi => ?_⟩
  · rw [hk]; split; omega; exact h.kind i
  · rw [hk] at h1; rw [ho]; split
    · omega
    · rename_i e; rw [if_neg e] at h1; exact h.ord i hi h1
  · rw [hk] at h1; rw [ho]; split
    · rw [Nat.pow_zero]; omega
    · rename_i e; rw [if_neg e] at h1; exact h.fits i hi h1
  · rw [hk] at h1; rw [ho]; split
    · rw [Nat.pow_zero]; omega
    · rename_i e; rw [if_neg e] at h1; exact h.al i hi h1
  · rw [hk] at h1; rw [ho] at hj2
    split at hj2
    · rw [Nat.pow_zero] at hj2; omega
    · rename_i e; rw [if_neg e] at h1
      have := hout i hi e h1
      rw [hk, if_neg (by omega)]; exact h.gap i hi h1 j hj hj2
  · by_cases e : p ≤ j ∧ j < p + m
    · exact ⟨j, Nat.le_refl _, by rw [hk, if_pos e]; omega, by rw [ho, if_pos e, Nat.pow_zero]; omega⟩
    · obtain ⟨i, h1, h3, h4⟩ := h.all j hj
      have ei : ¬ (p ≤ i ∧ i < p + m) := fun ei => by
        by_cases e5 : i = p
        · subst e5; rw [hm] at h4; omega
        · have := h.gap p hp (by omega) i (by omega) (by rw [hm]; omega); omega
      exact ⟨i, h1, by rw [hk, if_neg ei]; exact h3, by rw [ho, if_neg ei]; exact h4⟩
  · rw [hk] at hi
    have e : ¬ (p ≤ i ∧ i < p + m) := fun e => by rw [if_pos e] at hi; omega
    rw [if_neg e] at hi
    exact ⟨hi, by rw [ho, if_neg e]⟩
end

end Go.Proofs.Ytkpnmknkimlnaaa.BuT
