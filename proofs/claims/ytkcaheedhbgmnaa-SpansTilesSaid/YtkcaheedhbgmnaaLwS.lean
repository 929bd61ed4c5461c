/-
  Spans' laws: what Within and what Gaps tell, side by side: the plain law.
-/
import Derived.Test.YtkcaheedhbgmnaaLwF
namespace Go.Proofs.Ytkcaheedhbgmnaa
set_option linter.unusedVariables false
set_option linter.unusedSimpArgs false
open Go.RowKit SpT
set_option linter.unusedSectionVars false

/-- How many of the ranges hold a page. -/
def cov : List (Nat × Nat) → Nat → Nat
  | [], _ => 0
  | p :: l, q => (if p.1 ≤ q ∧ q < p.2 then 1 else 0) + cov l q
theorem cov_append (l l' : List (Nat × Nat)) (q : Nat) : cov (l ++ l') q = cov l q + cov l' q := by
  induction l with
  | nil => simp [cov]
  | cons p l ih => simp only [List.cons_append, cov, ih]; omega
theorem cov_snoc (l : List (Nat × Nat)) (p : Nat × Nat) (q : Nat) : cov (l ++ [p]) q = cov l q + if p.1 ≤ q ∧ q < p.2 then 1 else 0 := by
  rw [cov_append]; simp [cov]
theorem cov_take (l : List (Nat × Nat)) (i q : Nat) : cov (l.take i) q ≤ cov l q := by
  have h : cov l q = cov (l.take i ++ l.drop i) q := by rw [List.take_append_drop]
  rw [h, cov_append]; omega
theorem cov_sep : ∀ (l : List (Nat × Nat)), l.Pairwise (fun a b => a.2 ≤ b.1) → (∀ p, p ∈ l → p.1 < p.2) → ∀ q,
    (cov l q = 1 ∧ ∃ p, p ∈ l ∧ p.1 ≤ q ∧ q < p.2) ∨ (cov l q = 0 ∧ ∀ p, p ∈ l → ¬ (p.1 ≤ q ∧ q < p.2))
  | [], _, _, q => .inr ⟨rfl, by simp⟩
  | p :: l, hp, hl, q => by
    obtain ⟨p1, p2⟩ := List.pairwise_cons.1 hp
    have ih := cov_sep l p2 (fun r hr => hl r (by simp [hr])) q
    unfold cov
    by_cases h : p.1 ≤ q ∧ q < p.2
    · rw [if_pos h]
      rcases ih with ⟨_, r, hr, h2⟩ | ⟨h1, _⟩
      · have := p1 r hr; omega
      · exact .inl ⟨by omega, p, by simp, h⟩
    · rw [if_neg h]
      rcases ih with ⟨h1, r, hr, h2⟩ | ⟨h1, h2⟩
      · exact .inl ⟨by omega, r, by simp [hr], h2⟩
      · refine .inr ⟨by omega, fun r hr => ?_⟩
        rcases List.mem_cons.1 hr with rfl | hr
        · exact h
        · exact h2 r hr
def withP (L : List (Sp Int)) (a b : Int) : List (Nat × Nat) := (SpI.withinL L a b).map fun x => (x.f, x.t)
theorem tiles {L : List (Sp Int)} (h : Ok L) (a b : Int) (q : Nat) : cov (withP L a b) q + cov (SpI.gapsB L a b) q = if SpI.mayB a b = true ∧ a ≤ q ∧ (q : Int) < b then 1 else 0 := by
  unfold withP SpI.withinL SpI.gapsB
  cases hm : SpI.mayB a b
  · simp [cov]
  · obtain ⟨x, y, rfl, rfl, hxy, hy⟩ := SpI.mayB_yes hm
    have e1 : (x : Int).toNat = x := by omega
    have e2 : (y : Int).toNat = y := by omega
    rw [if_pos rfl, if_pos rfl, e1, e2]
    simp only [true_and]
    obtain ⟨w1, w2⟩ := within_ok (a := x) (b := y) h
    have hb : ∀ z, z ∈ within x y L → x ≤ z.f ∧ z.t ≤ y := fun z hz => by
      obtain ⟨u, _, _, rfl⟩ := mem_within.1 hz
      simp only []; omega
    obtain ⟨g1, g2, g3⟩ := gaps_ok y (within x y L) x w1 hb (by omega)
    have c1 := cov_sep ((within x y L).map fun x => (x.f, x.t)) (List.pairwise_map.2 (w1.2.imp fun h => h.1)) (fun p hp => by
      obtain ⟨z, hz, rfl⟩ := List.mem_map.1 hp
      exact (w1.1 z hz).1) q
    have c2 := cov_sep (SpI.gapsL x y (within x y L)) (g2.imp fun h => by omega) (fun p hp => (g1 p hp).2.1) q
    have g := g3 q
    rcases c1 with ⟨c1, p, hp, hq⟩ | ⟨c1, hn⟩
    · obtain ⟨z, hz, rfl⟩ := List.mem_map.1 hp
      simp only [] at hq
      have hz2 := hb z hz
      rw [if_pos (by omega)]
      rcases c2 with ⟨_, r, hr, hr2⟩ | ⟨c2, _⟩
      · exact absurd hq ((g.1 ⟨r, hr, hr2⟩).2.2 z hz)
      · rw [c1, c2]
    · have hn' : ∀ z, z ∈ within x y L → ¬ (z.f ≤ q ∧ q < z.t) := fun z hz => hn (z.f, z.t) (List.mem_map.2 ⟨z, hz, rfl⟩)
      rcases c2 with ⟨c2, r, hr, hr2⟩ | ⟨c2, hr⟩
      · have := g.1 ⟨r, hr, hr2⟩
        rw [if_pos (by omega), c1, c2]
      · rw [if_neg (fun hq => by
          obtain ⟨r, h1, h2⟩ := g.2 ⟨by omega, by omega, hn'⟩
          exact hr r h1 h2), c1, c2]
theorem withP_in {L : List (Sp Int)} (h : Ok L) (a b : Int) : ∀ p, p ∈ withP L a b → p.1 < p.2 ∧ p.2 ≤ 4096 := by
  intro p hp
  unfold withP SpI.withinL at hp
  obtain ⟨z, hz, rfl⟩ := List.mem_map.1 hp
  split at hz
  · exact (within_ok h).1.1 z hz
  · cases hz
theorem gapsB_in {L : List (Sp Int)} (h : Ok L) (a b : Int) : ∀ p, p ∈ SpI.gapsB L a b → p.1 < p.2 ∧ p.2 ≤ 4096 := by
  intro p hp
  unfold SpI.gapsB at hp
  cases hm : SpI.mayB a b
  · rw [hm] at hp; cases hp
  · rw [hm, if_pos rfl] at hp
    obtain ⟨x, y, rfl, rfl, hxy, hy⟩ := SpI.mayB_yes hm
    have e1 : (x : Int).toNat = x := by omega
    have e2 : (y : Int).toNat = y := by omega
    rw [e1, e2] at hp
    obtain ⟨w1, w2⟩ := within_ok (a := x) (b := y) h
    obtain ⟨g1, g2, g3⟩ := gaps_ok y (within x y L) x w1 (fun z hz => by
      obtain ⟨u, _, _, rfl⟩ := mem_within.1 hz
      simp only []; omega) (by omega)
    have := g1 p hp
    omega

end Go.Proofs.Ytkcaheedhbgmnaa
