/-
  Region, the plain law: a whole call, on spans and on pages. No program is walked here.
-/
import Derived.Test.YtjicpblncfgiaaaRgE
namespace Go.Proofs.Ytjicpblncfgiaaa
set_option linter.unusedVariables false
set_option linter.unusedSimpArgs false
open SpT RgT
set_option linter.unusedVariables false
set_option linter.unusedSimpArgs false

/-- A call. -/
structure Cl where
  k : Int
  pg : Int
  n : Int
  pm : Int
  pk : Int
  pn : Int
  ad : Int
  by_ : Int
def Cl.cells (c : Cl) : List Value := [.int .i64 c.k, .int .i64 c.pg, .int .i64 c.n, .int .i64 c.pm, .int .i64 c.pk, .int .i64 c.pn, .int .i64 c.ad, .int .i64 c.by_]
def Cl.chk (nodes : Int) (c : Cl) : Int := chkS nodes c.k c.pg c.n c.pm c.pk c.pn
def Cl.turn (c : Cl) (o : Option U) : Int × Option U := turnR c.k c.pm c.pk c.pn o
/-- Pages a up to b are turned. -/
def turnF (c : Cl) (f : Nat → Option U) (a b : Nat) : Nat → Option U := fun p => if a ≤ p ∧ p < b then (c.turn (f p)).2 else f p
def failC (k : Int) : Int := if k = 1 then 8 else 7
theorem turn_code (c : Cl) (o : Option U) : (c.turn o).1 = 0 ∨ (c.turn o).1 = failC c.k ∧ failC c.k ≠ 0 := by
  unfold Cl.turn turnR failC
  by_cases h1 : c.k = 1
  · rw [if_pos h1, if_pos h1]; cases o <;> simp
  · rw [if_neg h1, if_neg h1]
    by_cases h2 : c.k = 2
    · rw [if_pos h2]; simp
    · rw [if_neg h2]; cases o <;> simp
/-- May all pages from a up to b be turned? -/
def okF (c : Cl) (f : Nat → Option U) (a b : Nat) : Prop := ∀ p, a ≤ p → p < b → (c.turn (f p)).1 = 0
def lo (c : Cl) : Nat := c.pg.toNat
def hi (c : Cl) : Nat := (c.pg + c.n).toNat
open Classical in
/-- A call, on pages. -/
noncomputable def applyF (nodes : Int) (c : Cl) (f : Nat → Option U) : Int × (Nat → Option U) :=
  if c.chk nodes ≠ 0 then (1, f)
  else if ¬ okF c f (lo c) (hi c) then (failC c.k, f)
  else if 64 < (allK (turnF c f (lo c) (hi c)) 4096).length then (2, f) else (0, turnF c f (lo c) (hi c))
def modG (c : Cl) : U → U := if c.k = 3 then fun u => (c.pm, u.2) else fun u => (u.1, (c.pk, c.pn))
/-- What a call makes of spans, if it may be done. -/
def turnL (c : Cl) (L : List (Sp U)) : Option (List (Sp U)) :=
  if c.k = 1 then (if (SpU.withinL L c.pg (c.pg + c.n)).isEmpty = true then some (SpU.setL L c.pg (c.pg + c.n) (c.pm, c.pk, c.pn)) else none)
  else if c.k = 2 then some (SpU.clearL L c.pg (c.pg + c.n))
  else if (SpU.gapsB L c.pg (c.pg + c.n)).isEmpty = true then some (modL (modG c) L (SpU.withinL L c.pg (c.pg + c.n))) else none
/-- A call, on spans. -/
def applyL (nodes : Int) (c : Cl) (L : List (Sp U)) : Int × List (Sp U) :=
  if c.chk nodes ≠ 0 then (1, L)
  else match turnL c L with
    | none => (failC c.k, L)
    | some L' => if 64 < L'.length then (2, L) else (0, L')

theorem chk_yes {nodes : Int} {c : Cl} (h : c.chk nodes = 0) : (1 ≤ c.k ∧ c.k ≤ 4) ∧ rangeS c.pg c.n = 0 := by
  unfold Cl.chk chkS at h
  split at h
  · rename_i h'; exact ⟨h'.1, h'.2.1⟩
  · cases h
theorem chk_two (nodes : Int) (c : Cl) : c.chk nodes = 0 ∨ c.chk nodes = 1 := by unfold Cl.chk chkS; split <;> simp
theorem range_nat {pg n : Int} (h : rangeS pg n = 0) : ∃ a b : Nat, pg = a ∧ pg + n = b ∧ a < b ∧ b ≤ 4096 := by
  unfold rangeS at h
  split at h
  · rename_i h'
    obtain ⟨⟨h0, h1⟩, h2, h3⟩ := h'
    exact ⟨pg.toNat, (pg + n).toNat, by omega, by omega, by omega, by omega⟩
  · cases h
theorem turn_tie {L : List (Sp U)} {f : Nat → Option U} (h : Tie L f) {nodes : Int} {c : Cl} (hc : c.chk nodes = 0) :
    (turnL c L = none ∧ ¬ okF c f (lo c) (hi c)) ∨ ∃ L', turnL c L = some L' ∧ okF c f (lo c) (hi c) ∧ Tie L' (turnF c f (lo c) (hi c)) := by
  obtain ⟨hk, hr⟩ := chk_yes hc
  obtain ⟨a, b, e1, e2, hab, hb⟩ := range_nat hr
  have l1 : lo c = a := by unfold lo; omega
  have l2 : hi c = b := by unfold hi; omega
  unfold turnL
  rw [e1] at e2 ⊢
  rw [e2, l1, l2]
  by_cases k1 : c.k = 1
  · rw [if_pos k1]
    have hm := h.meets hab hb
    by_cases he : (SpU.withinL L (a : Int) (b : Int)).isEmpty = true
    · rw [if_pos he]
      have hn := hm.1 he
      refine .inr ⟨_, rfl, fun p h1 h2 => ?_, ?_⟩
      · unfold Cl.turn turnR; rw [if_pos k1, hn p h1 h2]
      · have ht := h.set (c.pm, c.pk, c.pn) hab hb
        have e : setF f a b (some (c.pm, c.pk, c.pn)) = turnF c f a b := by
          funext p
          unfold setF turnF
          by_cases hp : a ≤ p ∧ p < b
          · rw [if_pos hp, if_pos hp]
            unfold Cl.turn turnR; rw [if_pos k1, hn p hp.1 hp.2]
          · rw [if_neg hp, if_neg hp]
        exact e ▸ ht
    · rw [if_neg he]
      refine .inl ⟨rfl, fun ho => he (hm.2 fun p h1 h2 => ?_)⟩
      have := ho p h1 h2
      unfold Cl.turn turnR at this
      rw [if_pos k1] at this
      cases hf : f p with
      | none => rfl
      | some u => rw [hf] at this; simp at this
  · rw [if_neg k1]
    by_cases k2 : c.k = 2
    · rw [if_pos k2]
      refine .inr ⟨_, rfl, fun p h1 h2 => ?_, ?_⟩
      · unfold Cl.turn turnR; rw [if_neg k1, if_pos k2]
      · have ht := h.clear hab hb
        have e : setF f a b none = turnF c f a b := by
          funext p
          unfold setF turnF
          by_cases hp : a ≤ p ∧ p < b
          · rw [if_pos hp, if_pos hp]
            unfold Cl.turn turnR; rw [if_neg k1, if_pos k2]
          · rw [if_neg hp, if_neg hp]
        exact e ▸ ht
    · rw [if_neg k2]
      have hm := h.covers hab hb
      by_cases he : (SpU.gapsB L (a : Int) (b : Int)).isEmpty = true
      · rw [if_pos he]
        have hn := hm.1 he
        refine .inr ⟨_, rfl, fun p h1 h2 => ?_, ?_⟩
        · unfold Cl.turn turnR
          rw [if_neg k1, if_neg k2]
          cases hf : f p with
          | none => exact absurd hf (hn p h1 h2)
          | some u => rfl
        · have ht := h.modify (modG c) hab hb
          have e : modF f a b (modG c) = turnF c f a b := by
            funext p
            unfold modF turnF
            by_cases hp : a ≤ p ∧ p < b
            · rw [if_pos hp, if_pos hp]
              unfold Cl.turn turnR
              rw [if_neg k1, if_neg k2]
              cases hf : f p with
              | none => exact absurd hf (hn p hp.1 hp.2)
              | some u =>
                obtain ⟨ua, ub⟩ := u
                unfold modG
                by_cases k3 : c.k = 3
                · simp [k3]
                · have k4 : c.k = 4 := by omega
                  simp [k3, k4]
            · rw [if_neg hp, if_neg hp]
          exact e ▸ ht
      · rw [if_neg he]
        refine .inl ⟨rfl, fun ho => he (hm.2 fun p h1 h2 hn => ?_)⟩
        have := ho p h1 h2
        unfold Cl.turn turnR at this
        rw [if_neg k1, if_neg k2, hn] at this
        simp at this
/-- Both do a call alike. -/
theorem apply_tie {L : List (Sp U)} {f : Nat → Option U} (h : Tie L f) (nodes : Int) (c : Cl) : (applyL nodes c L).1 = (applyF nodes c f).1 ∧ Tie (applyL nodes c L).2 (applyF nodes c f).2 := by
  unfold applyL applyF
  by_cases hc : c.chk nodes ≠ 0
  · rw [if_pos hc, if_pos hc]; exact ⟨rfl, h⟩
  · rw [if_neg hc, if_neg hc]
    rcases turn_tie h (Decidable.of_not_not hc) with ⟨e, ho⟩ | ⟨L', e, ho, ht⟩
    · rw [e, if_pos ho]; exact ⟨rfl, h⟩
    · rw [e, if_neg (fun x => x ho), ht.all]
      dsimp only
      by_cases hl : 64 < L'.length
      · rw [if_pos hl, if_pos hl]; exact ⟨rfl, h⟩
      · rw [if_neg hl, if_neg hl]; exact ⟨rfl, ht⟩
theorem turnF_snoc (c : Cl) (f : Nat → Option U) (a j : Nat) : upd (turnF c f a (a + j)) (a + j) (c.turn (f (a + j))).2 = turnF c f a (a + (j + 1)) := by
  funext p
  unfold upd turnF
  by_cases e : p = a + j
  · subst e; rw [if_pos rfl, if_pos ⟨by omega, by omega⟩]
  · rw [if_neg e]
    by_cases hp : a ≤ p ∧ p < a + j
    · rw [if_pos hp, if_pos ⟨hp.1, by omega⟩]
    · rw [if_neg hp, if_neg (fun h => hp ⟨h.1, by omega⟩)]
theorem turnF_at (c : Cl) (f : Nat → Option U) (a j : Nat) : turnF c f a (a + j) (a + j) = f (a + j) := by unfold turnF; rw [if_neg (by omega)]
theorem turnF_zero (c : Cl) (f : Nat → Option U) (a : Nat) : turnF c f a (a + 0) = f := by funext p; unfold turnF; rw [if_neg (by omega)]
theorem applyF_none {nodes : Int} {c : Cl} {f : Nat → Option U} (hf : ∀ p, 4096 ≤ p → f p = none) : ∀ p, 4096 ≤ p → (applyF nodes c f).2 p = none := by
  intro p hp
  unfold applyF
  split
  · exact hf p hp
  · rename_i hc
    split
    · exact hf p hp
    · split
      · exact hf p hp
      · obtain ⟨_, hr⟩ := chk_yes (Decidable.of_not_not hc)
        obtain ⟨a, b, e1, e2, hab, hb⟩ := range_nat hr
        show turnF c f (lo c) (hi c) p = none
        unfold turnF
        rw [if_neg (by unfold lo hi; omega)]
        exact hf p hp

end Go.Proofs.Ytjicpblncfgiaaa
