/-
  Spans' laws: gaps, the plain law.
-/
import Derived.Test.YtkcaheedhbgmnaaLwE
namespace Go.Proofs.Ytkcaheedhbgmnaa
set_option linter.unusedVariables false
set_option linter.unusedSimpArgs false
open Go.RowKit SpT
set_option linter.unusedSectionVars false

theorem gAt_cons (a : Nat) (y : Sp Int) (l : List (Sp Int)) : SpI.gAt a (y :: l) = SpI.gAt y.t l := by
  rcases List.eq_nil_or_concat l with rfl | ⟨l', z, rfl⟩
  · simp [SpI.gAt]
  · rw [List.concat_eq_append, ← List.cons_append, SpI.gAt_snoc, SpI.gAt_snoc]
theorem gapsL_cons (a b : Nat) (x : Sp Int) (l : List (Sp Int)) : SpI.gapsL a b (x :: l) = (if a < x.f then [(a, x.f)] else []) ++ SpI.gapsL x.t b l := by
  unfold SpI.gapsL
  rw [gAt_cons, SpI.gUp, List.append_assoc]
theorem gaps_ok (b : Nat) : ∀ (l : List (Sp Int)) (a : Nat), Ok l → (∀ x, x ∈ l → a ≤ x.f ∧ x.t ≤ b) → a ≤ b →
    (∀ p, p ∈ SpI.gapsL a b l → a ≤ p.1 ∧ p.1 < p.2 ∧ p.2 ≤ b) ∧ (SpI.gapsL a b l).Pairwise (fun p q => p.2 < q.1) ∧ ∀ q, (∃ p, p ∈ SpI.gapsL a b l ∧ p.1 ≤ q ∧ q < p.2) ↔ a ≤ q ∧ q < b ∧ ∀ x, x ∈ l → ¬ (x.f ≤ q ∧ q < x.t)
  | [], a, _, _, hab => by
    have e : SpI.gapsL a b ([] : List (Sp Int)) = if a < b then [(a, b)] else [] := rfl
    rw [e]
    by_cases h : a < b
    · rw [if_pos h]
      refine ⟨by intro p hp; obtain rfl : p = (a, b) := by simpa using hp
                 exact ⟨Nat.le_refl _, h, Nat.le_refl _⟩, List.pairwise_singleton _ _, fun q => ?_⟩
      constructor
      · rintro ⟨p, hp, h1, h2⟩
        obtain rfl : p = (a, b) := by simpa using hp
        exact ⟨h1, h2, by simp⟩
      · rintro ⟨h1, h2, _⟩; exact ⟨(a, b), by simp, h1, h2⟩
    · rw [if_neg h]
      exact ⟨by simp, List.Pairwise.nil, fun q => ⟨fun ⟨p, hp, _⟩ => (by cases hp), fun ⟨h1, h2, _⟩ => (by omega)⟩⟩
  | x :: l, a, ho, hl, hab => by
    have hx := hl x (by simp)
    have hxo := ho.1 x (by simp)
    obtain ⟨p1, p2⟩ := List.pairwise_cons.1 ho.2
    obtain ⟨g1, g2, g3⟩ := gaps_ok b l x.t ho.tail (fun y hy => ⟨(p1 y hy).1, (hl y (by simp [hy])).2⟩) hx.2
    rw [gapsL_cons]
    refine ⟨fun p hp => ?_, ?_, fun q => ?_⟩
    · rcases List.mem_append.1 hp with hp | hp
      · split at hp
        · obtain rfl : p = (a, x.f) := by simpa using hp
          simp only []; omega
        · cases hp
      · have := g1 p hp; omega
    · rw [List.pairwise_append]
      refine ⟨by split <;> simp, g2, fun p hp r hr => ?_⟩
      split at hp
      · obtain rfl : p = (a, x.f) := by simpa using hp
        have := g1 r hr
        simp only []; omega
      · cases hp
    · constructor
      · rintro ⟨p, hp, h1, h2⟩
        rcases List.mem_append.1 hp with hp | hp
        · split at hp
          · obtain rfl : p = (a, x.f) := by simpa using hp
            simp only [] at h1 h2
            refine ⟨h1, by omega, fun y hy => ?_⟩
            rcases List.mem_cons.1 hy with rfl | hy
            · omega
            · have := (p1 y hy).1; omega
          · cases hp
        · have h3 := (g3 q).1 ⟨p, hp, h1, h2⟩
          refine ⟨by omega, h3.2.1, fun y hy => ?_⟩
          rcases List.mem_cons.1 hy with rfl | hy
          · omega
          · exact h3.2.2 y hy
      · rintro ⟨h1, h2, h3⟩
        have hxq := h3 x (by simp)
        by_cases hq : q < x.f
        · exact ⟨(a, x.f), List.mem_append.2 (.inl (by rw [if_pos (by omega)]; simp)), h1, hq⟩
        · obtain ⟨p, hp, h4⟩ := (g3 q).2 ⟨by omega, h2, fun y hy => h3 y (by simp [hy])⟩
          exact ⟨p, List.mem_append.2 (.inr hp), h4⟩

def asU (l : List (Nat × Nat)) : List (Sp Unit) := l.map fun p => ⟨p.1, p.2, ()⟩
theorem asU_inj {l l' : List (Nat × Nat)} (h : asU l = asU l') : l = l' := by
  have h2 := congrArg (List.map fun (x : Sp Unit) => (x.f, x.t)) h
  unfold asU at h2
  rw [List.map_map, List.map_map] at h2
  have e : ((fun (x : Sp Unit) => (x.f, x.t)) ∘ fun (p : Nat × Nat) => (⟨p.1, p.2, ()⟩ : Sp Unit)) = id := by funext p; rfl
  rw [e, List.map_id, List.map_id] at h2
  exact h2
/-- Both of them tell the same gaps. -/
theorem Both.gaps {L : List (Sp Int)} {f : Nat → Int} (h : SpT.Both L f) (a b : Int) : SpI.gapsB L a b = (outR8 f a b).map fun x => (x.f, x.t) := by
  have hR := runsR_ok f a b
  have ho : Ok (outR8 f a b) := hR.1.filter _
  have hv : ∀ x, x ∈ outR8 f a b → x.v = NoV ∧ x ∈ runsR f a b := fun x hx => by
    obtain ⟨h1, h2⟩ := List.mem_filter.1 hx
    exact ⟨by simpa using h2, h1⟩
  have hHas : ∀ q, (∃ x, x ∈ outR8 f a b ∧ x.f ≤ q ∧ q < x.t) ↔ okR a b = true ∧ a ≤ q ∧ (q : Int) < b ∧ f q = NoV := fun q => by
    constructor
    · rintro ⟨x, hx, h1, h2⟩
      exact (hR.2 q NoV).1 ⟨x, (hv x hx).2, h1, h2, (hv x hx).1⟩
    · intro h'
      obtain ⟨x, hx, h1, h2, h3⟩ := (hR.2 q NoV).2 h'
      exact ⟨x, List.mem_filter.2 ⟨hx, by simpa using h3⟩, h1, h2⟩
  unfold SpI.gapsB
  cases hm : SpI.mayB a b
  · rw [if_neg (by simp)]
    have : outR8 f a b = [] := by
      unfold outR8 runsR
      rw [if_neg (by rw [okR_may, hm]; simp)]; rfl
    rw [this]; rfl
  · rw [if_pos rfl]
    obtain ⟨x, y, rfl, rfl, hxy, hy⟩ := SpI.mayB_yes hm
    have e1 : (x : Int).toNat = x := by omega
    have e2 : (y : Int).toNat = y := by omega
    rw [e1, e2]
    obtain ⟨w1, w2⟩ := within_ok (a := x) (b := y) h.1
    obtain ⟨g1, g2, g3⟩ := gaps_ok y (within x y L) x w1 (fun z hz => by
      obtain ⟨u, _, _, rfl⟩ := mem_within.1 hz
      simp only []; omega) (by omega)
    refine asU_inj (Ok.ext ⟨?_, ?_⟩ ⟨?_, ?_⟩ fun q u => ?_)
    · intro z hz
      obtain ⟨p, hp, rfl⟩ := List.mem_map.1 hz
      have := g1 p hp
      simp only []; omega
    · exact List.pairwise_map.2 (g2.imp (fun hpq => ⟨by simp only []; omega, fun e => by simp only [] at e; omega⟩))
    · intro z hz
      obtain ⟨p, hp, rfl⟩ := List.mem_map.1 hz
      obtain ⟨s, hs, rfl⟩ := List.mem_map.1 hp
      exact ho.1 s hs
    · refine List.pairwise_map.2 (List.pairwise_map.2 ?_)
      have hp : (outR8 f (x : Int) (y : Int)).Pairwise (fun a b => a.t ≤ b.f ∧ ¬ a.t = b.f) := by
        refine List.Pairwise.imp_of_mem ?_ ho.2
        intro s t hs ht hst
        exact ⟨hst.1, fun e => hst.2 e (by rw [(hv s hs).1, (hv t ht).1])⟩
      exact hp.imp (fun hst => ⟨hst.1, fun e => absurd e hst.2⟩)
    · have hL : Has (asU (SpI.gapsL x y (within x y L))) q u ↔ ∃ p, p ∈ SpI.gapsL x y (within x y L) ∧ p.1 ≤ q ∧ q < p.2 := by
        constructor
        · rintro ⟨z, hz, h1, h2, _⟩
          obtain ⟨p, hp, rfl⟩ := List.mem_map.1 hz
          exact ⟨p, hp, h1, h2⟩
        · rintro ⟨p, hp, h1, h2⟩
          exact ⟨_, List.mem_map.2 ⟨p, hp, rfl⟩, h1, h2, rfl⟩
      have hRR : Has (asU ((outR8 f (x : Int) (y : Int)).map fun s => (s.f, s.t))) q u ↔ ∃ s, s ∈ outR8 f (x : Int) (y : Int) ∧ s.f ≤ q ∧ q < s.t := by
        constructor
        · rintro ⟨z, hz, h1, h2, _⟩
          obtain ⟨p, hp, rfl⟩ := List.mem_map.1 hz
          obtain ⟨s, hs, rfl⟩ := List.mem_map.1 hp
          exact ⟨s, hs, h1, h2⟩
        · rintro ⟨s, hs, h1, h2⟩
          exact ⟨_, List.mem_map.2 ⟨_, List.mem_map.2 ⟨s, hs, rfl⟩, rfl⟩, h1, h2, rfl⟩
      rw [hL, hRR, g3, hHas]
      constructor
      · rintro ⟨c1, c2, c3⟩
        refine ⟨by rw [okR_may, hm], by omega, by omega, ?_⟩
        apply Classical.byContradiction
        intro hne
        obtain ⟨z, hz, z1, z2, _⟩ := (w2 q (f q)).2 ⟨(h.2 q (f q)).2 ⟨by omega, rfl, hne⟩, c1, c2⟩
        exact c3 z hz ⟨z1, z2⟩
      · rintro ⟨_, c1, c2, c3⟩
        refine ⟨by omega, by omega, fun z hz hq => ?_⟩
        have h1 := (w2 q z.v).1 ⟨z, hz, hq.1, hq.2, rfl⟩
        have h2 := (h.2 q z.v).1 h1.1
        exact h2.2.2 (by rw [← h2.2.1, c3])
theorem Both.withinL {L : List (Sp Int)} {f : Nat → Int} (h : SpT.Both L f) (a b : Int) : SpI.withinL L a b = inR8 f a b := by
  unfold SpI.withinL
  cases hm : SpI.mayB a b
  · rw [if_neg (by simp)]
    unfold inR8 runsR
    rw [if_neg (by rw [okR_may, hm]; simp)]; rfl
  · obtain ⟨x, y, rfl, rfl, hxy, hy⟩ := SpI.mayB_yes hm
    rw [if_pos rfl]
    have e1 : (x : Int).toNat = x := by omega
    have e2 : (y : Int).toNat = y := by omega
    rw [e1, e2]
    exact h.within hxy hy

end Go.Proofs.Ytkcaheedhbgmnaa
