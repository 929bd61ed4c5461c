/-
  Region, the plain law: what the laws on finding, staying and going back want. No program is walked here.
-/
import Derived.Test.YtjicpblncfgiaaaRgU
namespace Go.Proofs.Ytjicpblncfgiaaa
set_option linter.unusedVariables false
set_option linter.unusedSimpArgs false
open SpT RgT
set_option linter.unusedVariables false
set_option linter.unusedSimpArgs false

/-- May a use be? -/
def okU (nodes : Int) (v : U) : Prop := permB v.1 = true ∧ polB v.2.1 v.2.2 nodes = true
def OkF (nodes : Int) (f : Nat → Option U) : Prop := ∀ p v, f p = some v → okU nodes v
theorem chk_more {nodes : Int} {c : Cl} (h : c.chk nodes = 0) : ((c.k = 1 ∨ c.k = 3) → permB c.pm = true) ∧ ((c.k = 1 ∨ c.k = 4) → polB c.pk c.pn nodes = true) := by
  unfold Cl.chk chkS at h
  split at h
  · rename_i h'; exact ⟨h'.2.2.1, h'.2.2.2⟩
  · cases h
theorem chk_mk {nodes : Int} {c : Cl} (h1 : 1 ≤ c.k ∧ c.k ≤ 4) (h2 : rangeS c.pg c.n = 0) (h3 : (c.k = 1 ∨ c.k = 3) → permB c.pm = true) (h4 : (c.k = 1 ∨ c.k = 4) → polB c.pk c.pn nodes = true) : c.chk nodes = 0 := by
  unfold Cl.chk chkS
  rw [if_pos ⟨h1, h2, h3, h4⟩]
theorem OkF.none (nodes : Int) : OkF nodes (fun _ => none) := fun p v h => by cases h
theorem applyF_ok {nodes : Int} {f : Nat → Option U} (h : OkF nodes f) (c : Cl) : OkF nodes (applyF nodes c f).2 := by
  unfold applyF
  split
  · exact h
  · rename_i hc
    have hc' : c.chk nodes = 0 := Decidable.of_not_not hc
    obtain ⟨hk, _⟩ := chk_yes hc'
    obtain ⟨m1, m2⟩ := chk_more hc'
    split
    · exact h
    · split
      · exact h
      · intro p v hv
        have hv' : turnF c f (lo c) (hi c) p = some v := hv
        unfold turnF at hv'
        split at hv'
        · unfold Cl.turn turnR at hv'
          by_cases k1 : c.k = 1
          · rw [if_pos k1] at hv'
            cases hf : f p with
            | none =>
              rw [hf] at hv'
              injection hv' with hv'
              subst hv'
              exact ⟨m1 (.inl k1), m2 (.inl k1)⟩
            | some u => rw [hf] at hv'; exact h p v (by rw [hf]; exact hv')
          · rw [if_neg k1] at hv'
            by_cases k2 : c.k = 2
            · rw [if_pos k2] at hv'; cases hv'
            · rw [if_neg k2] at hv'
              cases hf : f p with
              | none => rw [hf] at hv'; cases hv'
              | some u =>
                rw [hf] at hv'
                injection hv' with hv'
                subst hv'
                have hu := h p u hf
                by_cases k3 : c.k = 3
                · exact ⟨by simp [k3]; exact m1 (.inr k3), by simp [k3]; exact hu.2⟩
                · have k4 : c.k = 4 := by omega
                  exact ⟨by simp [k4]; exact hu.1, by simp [k4]; exact m2 (.inr k4)⟩
        · exact h p v hv'
theorem find_f {L : List (Sp U)} {f : Nat → Option U} (h : Tie L f) (p : Nat) : (L.find? (SpU.findIn (p : Int))).map (·.v) = f p := by
  cases hf : L.find? (SpU.findIn (p : Int)) with
  | none =>
    rw [List.find?_eq_none] at hf
    cases hv : f p with
    | none => rfl
    | some v =>
      obtain ⟨x, hx, h1, h2, _⟩ := (h.2 p v).2 hv
      exact absurd (by simp [SpU.findIn]; omega) (hf x hx)
  | some x =>
    have hm := List.mem_of_find?_eq_some hf
    have hp := List.find?_some hf
    simp [SpU.findIn] at hp
    exact ((h.2 p x.v).1 ⟨x, hm, hp.1, hp.2, rfl⟩).symm
theorem applyF_out {nodes : Int} {c : Cl} {f : Nat → Option U} (h : (applyF nodes c f).1 ≠ 0) : (applyF nodes c f).2 = f := by
  unfold applyF at h ⊢
  split at h
  · rename_i hc; rw [if_pos hc]
  · rename_i hc
    rw [if_neg hc]
    split at h
    · rename_i ho; rw [if_pos ho]
    · rename_i ho
      rw [if_neg ho]
      split at h
      · rename_i hl; rw [if_pos hl]
      · exact absurd rfl h
theorem applyF_in {nodes : Int} {c : Cl} {f : Nat → Option U} (h : (applyF nodes c f).1 = 0) : c.chk nodes = 0 ∧ okF c f (lo c) (hi c) ∧ (applyF nodes c f).2 = turnF c f (lo c) (hi c) := by
  unfold applyF at h ⊢
  split at h
  · cases h
  · rename_i hc
    have hc' : c.chk nodes = 0 := Decidable.of_not_not hc
    split at h
    · have : failC c.k ≠ 0 := by unfold failC; split <;> decide
      exact absurd h this
    · rename_i ho
      split at h
      · cases h
      · rename_i hl
        exact ⟨hc', Classical.byContradiction ho, by rw [if_neg hc, if_neg ho, if_neg hl]⟩
theorem applyF_same {nodes : Int} {c : Cl} {f : Nat → Option U} (p : Nat) (h : (applyF nodes c f).1 ≠ 0 ∨ ¬ (c.pg ≤ (p : Int) ∧ (p : Int) - c.pg < c.n)) : (applyF nodes c f).2 p = f p := by
  by_cases h0 : (applyF nodes c f).1 = 0
  · have h1 := h.resolve_left (fun h => h h0)
    obtain ⟨hc, _, e⟩ := applyF_in h0
    obtain ⟨_, hr⟩ := chk_yes hc
    obtain ⟨a, b, e1, e2, hab, hb⟩ := range_nat hr
    rw [e]
    unfold turnF lo hi
    rw [if_neg (by omega)]
  · rw [applyF_out h0]
theorem applyF_zero {nodes : Int} {c : Cl} {f f' : Nat → Option U} (hc : c.chk nodes = 0) (ho : okF c f (lo c) (hi c)) (e : turnF c f (lo c) (hi c) = f') (hl : (allK f' 4096).length ≤ 64) : applyF nodes c f = (0, f') := by
  unfold applyF
  rw [if_neg (by omega), if_neg (fun x => x ho), e, if_neg (by omega)]
/-- What was mapped and is unmapped again. -/
theorem back_unmap {nodes : Int} {f : Nat → Option U} {pg n pm pk pn ad by_ : Int} (hl : (allK f 4096).length ≤ 64) (h : (applyF nodes ⟨1, pg, n, pm, pk, pn, ad, by_⟩ f).1 = 0) :
    applyF nodes ⟨2, pg, n, pm, pk, pn, ad, by_⟩ (applyF nodes ⟨1, pg, n, pm, pk, pn, ad, by_⟩ f).2 = (0, f) := by
  obtain ⟨hc, ho, e⟩ := applyF_in h
  obtain ⟨_, hr⟩ := chk_yes hc
  rw [e]
  refine applyF_zero (chk_mk (by simp) hr (by simp) (by simp)) ?_ ?_ hl
  · intro p _ _
    unfold Cl.turn turnR; simp
  · funext p
    show turnF _ (turnF _ f _ _) _ _ p = f p
    have l1 : lo (⟨2, pg, n, pm, pk, pn, ad, by_⟩ : Cl) = lo (⟨1, pg, n, pm, pk, pn, ad, by_⟩ : Cl) := rfl
    have l2 : hi (⟨2, pg, n, pm, pk, pn, ad, by_⟩ : Cl) = hi (⟨1, pg, n, pm, pk, pn, ad, by_⟩ : Cl) := rfl
    rw [l1, l2]
    unfold turnF
    by_cases hp : lo (⟨1, pg, n, pm, pk, pn, ad, by_⟩ : Cl) ≤ p ∧ p < hi (⟨1, pg, n, pm, pk, pn, ad, by_⟩ : Cl)
    · rw [if_pos hp]
      have h1 := ho p hp.1 hp.2
      unfold Cl.turn turnR at h1 ⊢
      simp only [if_true] at h1
      cases hf : f p with
      | none => simp
      | some u => rw [hf] at h1; cases h1
    · rw [if_neg hp, if_neg hp]
theorem range_of {x : Sp U} (h1 : x.f < x.t) (h2 : x.t ≤ 4096) : rangeS (x.f : Int) ((x.t : Int) - (x.f : Int)) = 0 := by
  unfold rangeS isPg
  rw [if_pos ⟨⟨by omega, by omega⟩, by omega, by omega⟩]
/-- What is protected as it is. -/
theorem back_same {nodes : Int} {f : Nat → Option U} (h : Tie (allK f 4096) f) (ho : OkF nodes f) (hl : (allK f 4096).length ≤ 64) {x : Sp U} (hx : x ∈ allK f 4096) :
    applyF nodes ⟨3, x.f, (x.t : Int) - (x.f : Int), x.v.1, 0, 0, 0, 0⟩ f = (0, f) := by
  have hb := h.1.1 x hx
  have hp : ∀ p, x.f ≤ p → p < x.t → f p = some x.v := fun p h1 h2 => (h.2 p x.v).1 ⟨x, hx, h1, h2, rfl⟩
  have hv := ho x.f x.v (hp x.f (Nat.le_refl _) hb.1)
  have l1 : lo (⟨3, x.f, (x.t : Int) - (x.f : Int), x.v.1, 0, 0, 0, 0⟩ : Cl) = x.f := by unfold lo; simp
  have l2 : hi (⟨3, x.f, (x.t : Int) - (x.f : Int), x.v.1, 0, 0, 0, 0⟩ : Cl) = x.t := by unfold hi; simp only []; omega
  refine applyF_zero (chk_mk (by simp) (range_of hb.1 hb.2) (fun _ => hv.1) (by simp)) ?_ ?_ hl
  · rw [l1, l2]
    intro p h1 h2
    unfold Cl.turn turnR
    rw [hp p h1 h2]; simp
  · rw [l1, l2]
    funext p
    unfold turnF
    split
    · rename_i h'
      unfold Cl.turn turnR
      rw [hp p h'.1 h'.2]; simp
    · rfl
theorem back_bound {nodes : Int} {f : Nat → Option U} (h : Tie (allK f 4096) f) (ho : OkF nodes f) (hl : (allK f 4096).length ≤ 64) {x : Sp U} (hx : x ∈ allK f 4096) :
    applyF nodes ⟨4, x.f, (x.t : Int) - (x.f : Int), 0, x.v.2.1, x.v.2.2, 0, 0⟩ f = (0, f) := by
  have hb := h.1.1 x hx
  have hp : ∀ p, x.f ≤ p → p < x.t → f p = some x.v := fun p h1 h2 => (h.2 p x.v).1 ⟨x, hx, h1, h2, rfl⟩
  have hv := ho x.f x.v (hp x.f (Nat.le_refl _) hb.1)
  have l1 : lo (⟨4, x.f, (x.t : Int) - (x.f : Int), 0, x.v.2.1, x.v.2.2, 0, 0⟩ : Cl) = x.f := by unfold lo; simp
  have l2 : hi (⟨4, x.f, (x.t : Int) - (x.f : Int), 0, x.v.2.1, x.v.2.2, 0, 0⟩ : Cl) = x.t := by unfold hi; simp only []; omega
  refine applyF_zero (chk_mk (by simp) (range_of hb.1 hb.2) (by simp) (fun _ => hv.2)) ?_ ?_ hl
  · rw [l1, l2]
    intro p h1 h2
    unfold Cl.turn turnR
    rw [hp p h1 h2]; simp
  · rw [l1, l2]
    funext p
    unfold turnF
    split
    · rename_i h'
      unfold Cl.turn turnR
      rw [hp p h'.1 h'.2]; simp
    · rfl
/-- Calls, one behind the other. -/
noncomputable def applyAll (nodes : Int) (cs : List Cl) (f : Nat → Option U) : Nat → Option U := cs.foldl (fun f c => (applyF nodes c f).2) f
theorem applyAll_snoc (nodes : Int) (cs : List Cl) (c : Cl) (f : Nat → Option U) : applyAll nodes (cs ++ [c]) f = (applyF nodes c (applyAll nodes cs f)).2 := by simp [applyAll]

end Go.Proofs.Ytjicpblncfgiaaa
