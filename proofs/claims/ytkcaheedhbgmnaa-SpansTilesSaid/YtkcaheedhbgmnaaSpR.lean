/-
  Spans, the plain law of the reference: runs of equal values; within, gaps. It names no program and no memory.
-/
import Derived.Test.YtkcaheedhbgmnaaSpT
namespace Go.Proofs.Ytkcaheedhbgmnaa.SpT
set_option linter.unusedSectionVars false
set_option linter.unusedVariables false

/-- No value. -/
def NoV : Int := -4611686018427387904
def unitS (f : Nat → Int) (p : Nat) : Sp Int := ⟨p, p + 1, f p⟩
/-- The runs of pages a up to a + k. -/
def runsK (f : Nat → Int) (a : Nat) : Nat → List (Sp Int)
  | 0 => []
  | k + 1 => put (runsK f a k) (unitS f (a + k))
theorem runsK_ok (f : Nat → Int) (a : Nat) : ∀ k, a + k ≤ 4096 → Ok (runsK f a k) ∧ (∀ y, y ∈ runsK f a k → a ≤ y.f ∧ y.t ≤ a + k) ∧ (0 < k → ∃ l y, runsK f a k = l ++ [y] ∧ y.t = a + k) ∧ ∀ p v, Has (runsK f a k) p v ↔ a ≤ p ∧ p < a + k ∧ f p = v
  | 0, _ => ⟨Ok.nil, by simp [runsK], by simp, fun p v => by simp [runsK, Has.nil]; omega⟩
  | k + 1, h => by
    obtain ⟨h1, h2, h3, h4⟩ := runsK_ok f a k (by omega)
    obtain ⟨p1, p2, p3⟩ := put_ok (x := unitS f (a + k)) h1 ⟨by simp [unitS], by simp [unitS]; omega⟩ (fun y hy => by have := h2 y hy; simp [unitS]; omega)
    refine ⟨p1, fun y hy => ⟨?_, by have := p2 y hy; simp [unitS] at this; omega⟩, fun _ => ?_, fun p v => ?_⟩
    · show a ≤ y.f
      have hy' : y ∈ put (runsK f a k) (unitS f (a + k)) := hy
      rcases List.eq_nil_or_concat (runsK f a k) with e | ⟨l, z, e⟩
      · rw [e, put_nil] at hy'
        obtain rfl : y = unitS f (a + k) := by simpa using hy'
        simp [unitS]
      · rw [List.concat_eq_append] at e
        rw [e, put_snoc] at hy'
        have hz := h2 z (by rw [e]; simp)
        split at hy'
        · rcases List.mem_append.1 hy' with hy' | hy'
          · exact (h2 y (by rw [e]; simp [hy'])).1
          · obtain rfl : y = ⟨z.f, _, z.v⟩ := by simpa using hy'
            exact hz.1
        · rcases List.mem_append.1 hy' with hy' | hy'
          · exact (h2 y (by rw [e]; exact hy')).1
          · obtain rfl : y = unitS f (a + k) := by simpa using hy'
            simp [unitS]
    · show ∃ l y, put (runsK f a k) (unitS f (a + k)) = l ++ [y] ∧ y.t = a + (k + 1)
      rcases List.eq_nil_or_concat (runsK f a k) with e | ⟨l, z, e⟩
      · rw [e, put_nil]; exact ⟨[], _, rfl, by simp [unitS]; omega⟩
      · rw [List.concat_eq_append] at e
        rw [e, put_snoc]
        split
        · exact ⟨l, _, rfl, by simp [unitS]; omega⟩
        · exact ⟨l ++ [z], _, rfl, by simp [unitS]; omega⟩
    · show Has (put (runsK f a k) (unitS f (a + k))) p v ↔ _
      rw [p3, h4]
      simp only [unitS]
      constructor
      · rintro (⟨c1, c2, c3⟩ | ⟨c1, c2, c3⟩)
        · exact ⟨c1, by omega, c3⟩
        · obtain rfl : p = a + k := by omega
          exact ⟨by omega, by omega, c3⟩
      · rintro ⟨c1, c2, c3⟩
        by_cases hp : p < a + k
        · exact .inl ⟨c1, hp, c3⟩
        · obtain rfl : p = a + k := by omega
          exact .inr ⟨by omega, by omega, c3⟩
/-- A step: the last run grows, or a new one begins. -/
theorem runsK_more {f : Nat → Int} {a k : Nat} {l : List (Sp Int)} {y : Sp Int} (h : a + k ≤ 4096) (e : runsK f a k = l ++ [y]) : runsK f a (k + 1) = if y.v = f (a + k) then l ++ [⟨y.f, a + k + 1, y.v⟩] else l ++ [y] ++ [⟨a + k, a + k + 1, f (a + k)⟩] := by
  show put (runsK f a k) (unitS f (a + k)) = _
  have hk : 0 < k := by
    rcases Nat.eq_zero_or_pos k with rfl | h
    · simp [runsK] at e
    · exact h
  obtain ⟨l', y', e', ht⟩ := (runsK_ok f a k h).2.2.1 hk
  rw [e] at e'
  have hy : y = y' := by
    have := congrArg List.getLast? e'
    simpa using this
  subst hy
  rw [e, put_snoc]
  simp only [unitS, ht, true_and]

def okR (a b : Int) : Bool := decide (0 ≤ a) && (decide (a < b) && decide (b ≤ 4096))
/-- What Runs tells. -/
def runsR (f : Nat → Int) (a b : Int) : List (Sp Int) := if okR a b = true then runsK f a.toNat (b.toNat - a.toNat) else []
def inR8 (f : Nat → Int) (a b : Int) : List (Sp Int) := (runsR f a b).filter fun x => decide (x.v ≠ NoV)
def outR8 (f : Nat → Int) (a b : Int) : List (Sp Int) := (runsR f a b).filter fun x => decide (x.v = NoV)
theorem Ok.filter {α : Type} [DecidableEq α] {l : List (Sp α)} (h : Ok l) (q : Sp α → Bool) : Ok (l.filter q) := ⟨fun x hx => h.1 x (List.mem_filter.1 hx).1, h.2.filter q⟩
theorem runsR_ok (f : Nat → Int) (a b : Int) : Ok (runsR f a b) ∧ ∀ p v, Has (runsR f a b) p v ↔ okR a b = true ∧ a ≤ p ∧ (p : Int) < b ∧ f p = v := by
  unfold runsR
  split
  · next h =>
    have h' := h
    simp [okR] at h'
    obtain ⟨h1, _, _, h4⟩ := runsK_ok f a.toNat (b.toNat - a.toNat) (by omega)
    refine ⟨h1, fun p v => ?_⟩
    rw [h4]
    constructor
    · rintro ⟨c1, c2, c3⟩; exact ⟨h, by omega, by omega, c3⟩
    · rintro ⟨_, c1, c2, c3⟩; exact ⟨by omega, by omega, c3⟩
  · next h => exact ⟨Ok.nil, fun p v => ⟨fun h' => (Has.nil h').elim, fun h' => (h h'.1).elim⟩⟩
theorem inR8_ok (f : Nat → Int) (a b : Int) : Ok (inR8 f a b) ∧ ∀ p v, Has (inR8 f a b) p v ↔ okR a b = true ∧ a ≤ p ∧ (p : Int) < b ∧ f p = v ∧ v ≠ NoV := by
  obtain ⟨h1, h2⟩ := runsR_ok f a b
  refine ⟨h1.filter _, fun p v => ?_⟩
  have : Has (inR8 f a b) p v ↔ Has (runsR f a b) p v ∧ v ≠ NoV := by
    unfold inR8 Has
    constructor
    · rintro ⟨x, hx, c1, c2, rfl⟩
      obtain ⟨c3, c4⟩ := List.mem_filter.1 hx
      exact ⟨⟨x, c3, c1, c2, rfl⟩, by simpa using c4⟩
    · rintro ⟨⟨x, hx, c1, c2, rfl⟩, c3⟩
      exact ⟨x, List.mem_filter.2 ⟨hx, by simpa using c3⟩, c1, c2, rfl⟩
  rw [this, h2]
  constructor
  · rintro ⟨⟨c1, c2, c3, c4⟩, c5⟩; exact ⟨c1, c2, c3, c4, c5⟩
  · rintro ⟨c1, c2, c3, c4, c5⟩; exact ⟨⟨c1, c2, c3, c4⟩, c5⟩

/-! ### Both of them -/
/-- The map has just the reference's values. -/
def Both (L : List (Sp Int)) (f : Nat → Int) : Prop := Ok L ∧ (∀ p v, Has L p v ↔ p < 4096 ∧ f p = v ∧ v ≠ NoV)
theorem Both.nil {f : Nat → Int} (h : ∀ p, p < 4096 → f p = NoV) : Both [] f := ⟨Ok.nil, fun p v => ⟨fun h' => (Has.nil h').elim, fun ⟨h1, h2, h3⟩ => (h3 (by rw [← h2, h p h1])).elim⟩⟩
theorem Both.within {L : List (Sp Int)} {f : Nat → Int} (h : Both L f) {a b : Nat} (hab : a < b) (hb : b ≤ 4096) : within a b L = inR8 f a b := by
  obtain ⟨w1, w2⟩ := within_ok (a := a) (b := b) h.1
  obtain ⟨r1, r2⟩ := inR8_ok f a b
  refine w1.ext r1 fun p v => ?_
  rw [w2, r2, h.2]
  constructor
  · rintro ⟨⟨c1, c2, c3⟩, c4, c5⟩; exact ⟨by simp [okR]; omega, by omega, by omega, c2, c3⟩
  · rintro ⟨_, c1, c2, c3, c4⟩; exact ⟨⟨by omega, c3, c4⟩, by omega, by omega⟩
theorem Both.all {L : List (Sp Int)} {f : Nat → Int} (h : Both L f) : L = inR8 f 0 4096 := by
  have := h.within (a := 0) (b := 4096) (by omega) (by omega)
  rw [within_all h.1] at this
  exact this
/-- Pages a up to b get a value. -/
def setF (f : Nat → Int) (a b v : Int) : Nat → Int := fun p => if okR a b = true ∧ a ≤ p ∧ (p : Int) < b then v else f p
theorem Both.turn {L : List (Sp Int)} {f : Nat → Int} (h : Both L f) {a b : Nat} (hab : a < b) (hb : b ≤ 4096) {v : Int} (hv : v ≠ NoV) : Both (turn a b L [⟨a, b, v⟩]) (setF f a b v) := by
  obtain ⟨t1, t2⟩ := turn_ok h.1 hab hb (now := [⟨a, b, v⟩]) (.inr ⟨v, rfl⟩)
  refine ⟨t1, fun p u => ?_⟩
  rw [t2]
  have ho : okR (a : Int) (b : Int) = true := by simp [okR]; omega
  unfold setF
  by_cases hp : a ≤ p ∧ p < b
  · rw [if_pos hp, if_pos ⟨ho, by omega, by omega⟩, Has.one]
    constructor
    · rintro ⟨_, _, rfl⟩; exact ⟨by omega, rfl, hv⟩
    · rintro ⟨_, rfl, _⟩; exact ⟨hp.1, hp.2, rfl⟩
  · rw [if_neg hp, if_neg (fun h' => hp ⟨by omega, by omega⟩), h.2]
theorem Both.clear {L : List (Sp Int)} {f : Nat → Int} (h : Both L f) {a b : Nat} (hab : a < b) (hb : b ≤ 4096) : Both (SpT.turn a b L []) (setF f a b NoV) := by
  obtain ⟨t1, t2⟩ := turn_ok h.1 hab hb (now := []) (.inl rfl)
  refine ⟨t1, fun p u => ?_⟩
  rw [t2]
  have ho : okR (a : Int) (b : Int) = true := by simp [okR]; omega
  unfold setF
  by_cases hp : a ≤ p ∧ p < b
  · rw [if_pos hp, if_pos ⟨ho, by omega, by omega⟩]
    constructor
    · exact fun h' => (Has.nil h').elim
    · rintro ⟨_, h1, h2⟩; exact (h2 h1.symm).elim
  · rw [if_neg hp, if_neg (fun h' => hp ⟨by omega, by omega⟩), h.2]

/-- Find, of both. -/
theorem Ok.find {L : List (Sp Int)} (h : Ok L) (page : Int) {x : Sp Int} (hx : x ∈ L) (h1 : (x.f : Int) ≤ page) (h2 : page < x.t) : L.find? (fun x => decide ((x.f : Int) ≤ page) && decide (page < (x.t : Int))) = some x := by
  induction L with
  | nil => cases hx
  | cons y l ih =>
    rcases List.mem_cons.1 hx with rfl | hx'
    · rw [List.find?_cons_of_pos (by simp [h1, h2])]
    · have hb := ((List.pairwise_cons.1 h.2).1 x hx').1
      have hy := h.1 y (by simp)
      rw [List.find?_cons_of_neg (by simp; omega)]
      exact ih h.tail hx'

end Go.Proofs.Ytkcaheedhbgmnaa.SpT
