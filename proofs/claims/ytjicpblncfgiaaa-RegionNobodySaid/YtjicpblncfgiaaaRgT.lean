/-
  Region, the plain law: spans of uses, and for each page its use; what each call does to both. No program is walked here.
-/
import Derived.Test.YtjicpblncfgiaaaSpMU
namespace Go.Proofs.Ytjicpblncfgiaaa.RgT
open SpT
set_option linter.unusedSectionVars false
set_option linter.unusedVariables false

/-- What a page is used for: permission, kind and mask of its policy. -/
abbrev U := Int × Int × Int
/-- The regions of the pages below k. -/
def allK (f : Nat → Option U) : Nat → List (Sp U)
  | 0 => []
  | k + 1 => match f k with
    | none => allK f k
    | some v => put (allK f k) ⟨k, k + 1, v⟩
theorem allK_none {f : Nat → Option U} {k : Nat} (h : f k = none) : allK f (k + 1) = allK f k := by simp [allK, h]
theorem allK_some {f : Nat → Option U} {k : Nat} {v : U} (h : f k = some v) : allK f (k + 1) = put (allK f k) ⟨k, k + 1, v⟩ := by simp [allK, h]
theorem allK_ok (f : Nat → Option U) : ∀ k, k ≤ 4096 → Ok (allK f k) ∧ (∀ y, y ∈ allK f k → y.t ≤ k) ∧ ∀ p v, Has (allK f k) p v ↔ p < k ∧ f p = some v
  | 0, _ => ⟨Ok.nil, by simp [allK], fun p v => by simp [allK, Has.nil]⟩
  | k + 1, h => by
    obtain ⟨h1, h2, h3⟩ := allK_ok f k (by omega)
    cases hf : f k with
    | none =>
      rw [allK_none hf]
      refine ⟨h1, fun y hy => Nat.le_succ_of_le (h2 y hy), fun p v => ?_⟩
      rw [h3]
      constructor
      · rintro ⟨c1, c2⟩; exact ⟨by omega, c2⟩
      · rintro ⟨c1, c2⟩
        refine ⟨?_, c2⟩
        rcases Nat.lt_or_ge p k with h' | h'
        · exact h'
        · obtain rfl : p = k := by omega
          rw [hf] at c2; cases c2
    | some u =>
      rw [allK_some hf]
      obtain ⟨p1, p2, p3⟩ := put_ok (x := ⟨k, k + 1, u⟩) h1 ⟨Nat.lt_succ_self k, h⟩ (fun y hy => h2 y hy)
      refine ⟨p1, p2, fun p v => ?_⟩
      rw [p3, h3]
      simp only
      constructor
      · rintro (⟨c1, c2⟩ | ⟨c1, c2, c3⟩)
        · exact ⟨by omega, c2⟩
        · obtain rfl : p = k := by omega
          exact ⟨c2, by rw [hf, c3]⟩
      · rintro ⟨c1, c2⟩
        rcases Nat.lt_or_ge p k with h' | h'
        · exact .inl ⟨h', c2⟩
        · obtain rfl : p = k := by omega
          rw [hf] at c2
          exact .inr ⟨Nat.le_refl _, c1, by injection c2⟩

/-- Spans and pages tell the same. -/
def Tie (L : List (Sp U)) (f : Nat → Option U) : Prop := Ok L ∧ ∀ p v, Has L p v ↔ f p = some v
theorem Tie.bound {L : List (Sp U)} {f : Nat → Option U} (h : Tie L f) {p : Nat} {v : U} (hp : f p = some v) : p < 4096 := by
  obtain ⟨x, hx, h1, h2, _⟩ := (h.2 p v).2 hp
  have := h.1.1 x hx
  omega
theorem Tie.all {L : List (Sp U)} {f : Nat → Option U} (h : Tie L f) : allK f 4096 = L := by
  obtain ⟨a1, _, a3⟩ := allK_ok f 4096 (Nat.le_refl _)
  refine a1.ext h.1 fun p v => ?_
  rw [a3, h.2]
  exact ⟨fun c => c.2, fun c => ⟨h.bound c, c⟩⟩
theorem Tie.of_all {f : Nat → Option U} (hf : ∀ p v, f p = some v → p < 4096) : Tie (allK f 4096) f := by
  obtain ⟨a1, _, a3⟩ := allK_ok f 4096 (Nat.le_refl _)
  exact ⟨a1, fun p v => by rw [a3]; exact ⟨fun c => c.2, fun c => ⟨hf p v c, c⟩⟩⟩
theorem Tie.nil : Tie [] (fun _ => none) := ⟨Ok.nil, fun p v => ⟨fun h => (Has.nil h).elim, fun h => by cases h⟩⟩
theorem Tie.len {L : List (Sp U)} {f : Nat → Option U} (h : Tie L f) : L.length ≤ 4096 := h.1.len

/-- Pages a up to b are given v. -/
def setF (f : Nat → Option U) (a b : Nat) (v : Option U) : Nat → Option U := fun p => if a ≤ p ∧ p < b then v else f p
def modF (f : Nat → Option U) (a b : Nat) (g : U → U) : Nat → Option U := fun p => if a ≤ p ∧ p < b then (f p).map g else f p
theorem mayB_nat {a b : Nat} (hab : a < b) (hb : b ≤ 4096) : SpU.mayB (a : Int) (b : Int) = true := by simp [SpU.mayB]; omega
theorem setL_nat {L : List (Sp U)} {a b : Nat} {v : U} (hab : a < b) (hb : b ≤ 4096) : SpU.setL L (a : Int) (b : Int) v = turn a b L [⟨a, b, v⟩] := by
  unfold SpU.setL; rw [if_pos (mayB_nat hab hb)]; simp
theorem Tie.set {L : List (Sp U)} {f : Nat → Option U} (h : Tie L f) {a b : Nat} (v : U) (hab : a < b) (hb : b ≤ 4096) : Tie (SpU.setL L (a : Int) (b : Int) v) (setF f a b (some v)) := by
  rw [setL_nat hab hb]
  obtain ⟨t1, t2⟩ := turn_ok (a := a) (b := b) (now := [⟨a, b, v⟩]) h.1 hab hb (.inr ⟨v, rfl⟩)
  refine ⟨t1, fun p u => ?_⟩
  rw [t2]
  unfold setF
  by_cases hp : a ≤ p ∧ p < b
  · rw [if_pos hp, if_pos hp, Has.one]
    exact ⟨fun c => congrArg some c.2.2, fun c => ⟨hp.1, hp.2, by injection c⟩⟩
  · rw [if_neg hp, if_neg hp, h.2]
theorem Tie.clear {L : List (Sp U)} {f : Nat → Option U} (h : Tie L f) {a b : Nat} (hab : a < b) (hb : b ≤ 4096) : Tie (SpU.clearL L (a : Int) (b : Int)) (setF f a b none) := by
  have e : SpU.clearL L (a : Int) (b : Int) = turn a b L [] := by unfold SpU.clearL; rw [if_pos (mayB_nat hab hb)]; simp
  rw [e]
  obtain ⟨t1, t2⟩ := turn_ok (a := a) (b := b) (now := []) h.1 hab hb (.inl rfl)
  refine ⟨t1, fun p u => ?_⟩
  rw [t2]
  unfold setF
  by_cases hp : a ≤ p ∧ p < b
  · rw [if_pos hp, if_pos hp]
    exact ⟨fun c => (Has.nil c).elim, fun c => by cases c⟩
  · rw [if_neg hp, if_neg hp, h.2]
theorem withinL_nat {L : List (Sp U)} {a b : Nat} (hab : a < b) (hb : b ≤ 4096) : SpU.withinL L (a : Int) (b : Int) = within a b L := by
  unfold SpU.withinL; rw [if_pos (mayB_nat hab hb)]; simp
/-- Meets. -/
theorem Tie.meets {L : List (Sp U)} {f : Nat → Option U} (h : Tie L f) {a b : Nat} (hab : a < b) (hb : b ≤ 4096) : (SpU.withinL L (a : Int) (b : Int)).isEmpty = true ↔ ∀ p, a ≤ p → p < b → f p = none := by
  rw [withinL_nat hab hb, List.isEmpty_iff]
  obtain ⟨w1, w2⟩ := within_ok (a := a) (b := b) h.1
  constructor
  · intro e p h1 h2
    cases hf : f p with
    | none => rfl
    | some v =>
      have := (w2 p v).2 ⟨(h.2 p v).2 hf, h1, h2⟩
      rw [e] at this
      exact (Has.nil this).elim
  · intro hn
    rw [List.eq_nil_iff_forall_not_mem]
    intro x hx
    have hx2 := w1.1 x hx
    have hh : Has (within a b L) x.f x.v := ⟨x, hx, Nat.le_refl _, hx2.1, rfl⟩
    obtain ⟨c1, c2, c3⟩ := (w2 x.f x.v).1 hh
    have := (h.2 _ _).1 c1
    rw [hn _ c2 c3] at this
    cases this
theorem gAt_cons (a : Nat) (y : Sp U) (l : List (Sp U)) : SpU.gAt a (y :: l) = SpU.gAt y.t l := by
  rcases List.eq_nil_or_concat l with rfl | ⟨l', z, rfl⟩
  · simp [SpU.gAt]
  · rw [List.concat_eq_append, ← List.cons_append, SpU.gAt_snoc, SpU.gAt_snoc]
theorem gapsL_cons (a b : Nat) (x : Sp U) (l : List (Sp U)) : SpU.gapsL a b (x :: l) = (if a < x.f then [(a, x.f)] else []) ++ SpU.gapsL x.t b l := by
  unfold SpU.gapsL
  rw [gAt_cons, SpU.gUp, List.append_assoc]
theorem gaps_none (b : Nat) : ∀ (l : List (Sp U)) (a : Nat), Ok l → (∀ x, x ∈ l → a ≤ x.f ∧ x.t ≤ b) → (SpU.gapsL a b l = [] ↔ ∀ p, a ≤ p → p < b → ∃ v, Has l p v)
  | [], a, _, _ => by
    have e : SpU.gapsL a b ([] : List (Sp U)) = if a < b then [(a, b)] else [] := rfl
    rw [e]
    by_cases h : a < b
    · rw [if_pos h]
      constructor
      · intro h; cases h
      · intro hp
        obtain ⟨v, hv⟩ := hp a (Nat.le_refl _) h
        exact (Has.nil hv).elim
    · rw [if_neg h]
      exact ⟨fun _ p h1 h2 => by omega, fun _ => rfl⟩
  | x :: l, a, ho, hl => by
    have hx := hl x (by simp)
    have hxo := ho.1 x (by simp)
    obtain ⟨p1, p2⟩ := List.pairwise_cons.1 ho.2
    have ih := gaps_none b l x.t ho.tail (fun y hy => ⟨(p1 y hy).1, (hl y (by simp [hy])).2⟩)
    rw [gapsL_cons]
    by_cases hlt : a < x.f
    · rw [if_pos hlt]
      constructor
      · intro h; cases h
      · intro hp
        obtain ⟨v, hv⟩ := hp a (Nat.le_refl _) (by omega)
        rcases Has.cons.1 hv with ⟨c1, _⟩ | c
        · omega
        · have := ho.behind c; omega
    · rw [if_neg hlt, List.nil_append, ih]
      constructor
      · intro hp p h1 h2
        rcases Nat.lt_or_ge p x.t with h' | h'
        · exact ⟨x.v, Has.cons.2 (.inl ⟨by omega, h', rfl⟩)⟩
        · obtain ⟨v, hv⟩ := hp p h' h2
          exact ⟨v, Has.cons.2 (.inr hv)⟩
      · intro hp p h1 h2
        obtain ⟨v, hv⟩ := hp p (by omega) h2
        rcases Has.cons.1 hv with ⟨_, c, _⟩ | c
        · omega
        · exact ⟨v, c⟩
/-- Covers. -/
theorem Tie.covers {L : List (Sp U)} {f : Nat → Option U} (h : Tie L f) {a b : Nat} (hab : a < b) (hb : b ≤ 4096) : (SpU.gapsB L (a : Int) (b : Int)).isEmpty = true ↔ ∀ p, a ≤ p → p < b → f p ≠ none := by
  have e : SpU.gapsB L (a : Int) (b : Int) = SpU.gapsL a b (within a b L) := by unfold SpU.gapsB; rw [if_pos (mayB_nat hab hb)]; simp
  obtain ⟨w1, w2⟩ := within_ok (a := a) (b := b) h.1
  rw [e, List.isEmpty_iff, gaps_none b _ a w1 (fun x hx => by
    obtain ⟨y, hy, hlt, rfl⟩ := mem_within.1 hx
    simp only; omega)]
  constructor
  · intro hp p h1 h2 hn
    obtain ⟨v, hv⟩ := hp p h1 h2
    rw [(h.2 p v).1 ((w2 p v).1 hv).1] at hn
    cases hn
  · intro hp p h1 h2
    cases hf : f p with
    | none => exact absurd hf (hp p h1 h2)
    | some v => exact ⟨v, (w2 p v).2 ⟨(h.2 p v).2 hf, h1, h2⟩⟩
/-- Pieces of a map get turned values, one by one. -/
def modL (g : U → U) (L : List (Sp U)) (xs : List (Sp U)) : List (Sp U) := xs.foldl (fun M x => SpU.setL M (x.f : Int) (x.t : Int) (g x.v)) L
theorem modL_snoc (g : U → U) (L xs : List (Sp U)) (x : Sp U) : modL g L (xs ++ [x]) = SpU.setL (modL g L xs) (x.f : Int) (x.t : Int) (g x.v) := by simp [modL]
theorem modL_ok {g : U → U} {f : Nat → Option U} : ∀ (xs L : List (Sp U)) (f0 : Nat → Option U), Tie L f0 → (∀ x, x ∈ xs → x.f < x.t ∧ x.t ≤ 4096) → (∀ p v, Has xs p v → f p = some v) →
    ∃ f1, Tie (modL g L xs) f1 ∧ ∀ p, ((∃ v, Has xs p v) → f1 p = (f p).map g) ∧ ((¬ ∃ v, Has xs p v) → f1 p = f0 p)
  | [], L, f0, h, _, _ => ⟨f0, h, fun p => ⟨fun ⟨v, hv⟩ => (Has.nil hv).elim, fun _ => rfl⟩⟩
  | x :: xs, L, f0, h, hx, hf => by
    have hxx := hx x (by simp)
    have h1 := h.set (g x.v) hxx.1 hxx.2
    obtain ⟨f1, t1, t2⟩ := modL_ok (g := g) (f := f) xs _ _ h1 (fun y hy => hx y (by simp [hy])) (fun p v hp => hf p v (Has.cons.2 (.inr hp)))
    refine ⟨f1, t1, fun p => ?_⟩
    obtain ⟨a1, a2⟩ := t2 p
    by_cases hc : ∃ v, Has xs p v
    · refine ⟨fun _ => a1 hc, fun hn => absurd ?_ hn⟩
      obtain ⟨v, hv⟩ := hc
      exact ⟨v, Has.cons.2 (.inr hv)⟩
    · have e := a2 hc
      by_cases hp : x.f ≤ p ∧ p < x.t
      · have hh := hf p x.v (Has.cons.2 (.inl ⟨hp.1, hp.2, rfl⟩))
        refine ⟨fun _ => ?_, fun hn => absurd ⟨x.v, Has.cons.2 (.inl ⟨hp.1, hp.2, rfl⟩)⟩ hn⟩
        rw [e, hh]; unfold setF; rw [if_pos hp]; rfl
      · refine ⟨fun ⟨v, hv⟩ => ?_, fun _ => ?_⟩
        · rcases Has.cons.1 hv with ⟨c1, c2, _⟩ | c
          · exact absurd ⟨c1, c2⟩ hp
          · exact absurd ⟨v, c⟩ hc
        · rw [e]; unfold setF; rw [if_neg hp]
theorem Tie.modify {L : List (Sp U)} {f : Nat → Option U} (h : Tie L f) (g : U → U) {a b : Nat} (hab : a < b) (hb : b ≤ 4096) : Tie (modL g L (SpU.withinL L (a : Int) (b : Int))) (modF f a b g) := by
  rw [withinL_nat hab hb]
  obtain ⟨w1, w2⟩ := within_ok (a := a) (b := b) h.1
  obtain ⟨f1, t1, t2⟩ := modL_ok (g := g) (f := f) (within a b L) L f h w1.1 (fun p v hp => (h.2 p v).1 ((w2 p v).1 hp).1)
  have e : f1 = modF f a b g := by
    funext p
    obtain ⟨a1, a2⟩ := t2 p
    unfold modF
    by_cases hc : ∃ v, Has (within a b L) p v
    · rw [a1 hc]
      obtain ⟨v, hv⟩ := hc
      rw [if_pos ((w2 p v).1 hv).2]
    · rw [a2 hc]
      by_cases hp : a ≤ p ∧ p < b
      · rw [if_pos hp]
        cases hf : f p with
        | none => rfl
        | some v => exact absurd ⟨v, (w2 p v).2 ⟨(h.2 p v).2 hf, hp⟩⟩ hc
      · rw [if_neg hp]
  exact e ▸ t1

end Go.Proofs.Ytjicpblncfgiaaa.RgT
