/-
  Spans, the plain law: lists of intervals with values, cut, joined, looked at. It names no program and no memory.
-/
namespace Go.Proofs.Ytjicpblncfgiaaa.SpT

structure Sp (α : Type) where
  f : Nat
  t : Nat
  v : α

set_option linter.unusedSectionVars false
variable {α : Type} [DecidableEq α]

/-- Intervals lie apart, by rising pages; those that touch are unlike. -/
def Ok (l : List (Sp α)) : Prop := (∀ x, x ∈ l → x.f < x.t ∧ x.t ≤ 4096) ∧ l.Pairwise (fun a b => a.t ≤ b.f ∧ (a.t = b.f → a.v ≠ b.v))
/-- Page p has value v. -/
def Has (l : List (Sp α)) (p : Nat) (v : α) : Prop := ∃ x, x ∈ l ∧ x.f ≤ p ∧ p < x.t ∧ x.v = v

theorem Ok.nil : Ok ([] : List (Sp α)) := ⟨by simp, List.Pairwise.nil⟩
theorem Has.nil {p : Nat} {v : α} : ¬ Has ([] : List (Sp α)) p v := by rintro ⟨x, h, _⟩; cases h
theorem Has.append {l l' : List (Sp α)} {p : Nat} {v : α} : Has (l ++ l') p v ↔ Has l p v ∨ Has l' p v := by
  constructor
  · rintro ⟨x, h, r⟩
    rcases List.mem_append.1 h with h | h
    · exact .inl ⟨x, h, r⟩
    · exact .inr ⟨x, h, r⟩
  · rintro (⟨x, h, r⟩ | ⟨x, h, r⟩)
    · exact ⟨x, List.mem_append.2 (.inl h), r⟩
    · exact ⟨x, List.mem_append.2 (.inr h), r⟩
theorem Has.one {x : Sp α} {p : Nat} {v : α} : Has [x] p v ↔ x.f ≤ p ∧ p < x.t ∧ x.v = v := by simp [Has]
theorem Has.cons {x : Sp α} {l : List (Sp α)} {p : Nat} {v : α} : Has (x :: l) p v ↔ (x.f ≤ p ∧ p < x.t ∧ x.v = v) ∨ Has l p v := by
  rw [show x :: l = [x] ++ l from rfl, Has.append, Has.one]

theorem Ok.tail {x : Sp α} {l : List (Sp α)} (h : Ok (x :: l)) : Ok l := ⟨fun y hy => h.1 y (by simp [hy]), (List.pairwise_cons.1 h.2).2⟩
theorem Ok.behind {x : Sp α} {l : List (Sp α)} (h : Ok (x :: l)) {p : Nat} {v : α} (hp : Has l p v) : x.t ≤ p := by
  obtain ⟨y, hy, h1, h2, _⟩ := hp
  have := (List.pairwise_cons.1 h.2).1 y hy
  omega
theorem Ok.last {l : List (Sp α)} {x : Sp α} : Ok (l ++ [x]) ↔ Ok l ∧ (x.f < x.t ∧ x.t ≤ 4096) ∧ ∀ y, y ∈ l → y.t ≤ x.f ∧ (y.t = x.f → y.v ≠ x.v) := by
  unfold Ok
  rw [List.pairwise_append]
  constructor
  · rintro ⟨h1, h2, _, h3⟩
    exact ⟨⟨fun y hy => h1 y (by simp [hy]), h2⟩, h1 x (by simp), fun y hy => h3 y hy x (by simp)⟩
  · rintro ⟨⟨h1, h2⟩, h3, h4⟩
    refine ⟨fun y hy => ?_, h2, List.pairwise_singleton _ _, fun a ha b hb => ?_⟩
    · rcases List.mem_append.1 hy with hy | hy
      · exact h1 y hy
      · obtain rfl : y = x := by simpa using hy
        exact h3
    · obtain rfl : b = x := by simpa using hb
      exact h4 a ha
theorem Ok.unlike {l : List (Sp α)} (h : Ok l) {p : Nat} {v v' : α} (h1 : Has l p v) (h2 : Has l p v') : v = v' := by
  induction l with
  | nil => exact (Has.nil h1).elim
  | cons x l ih =>
    rcases Has.cons.1 h1 with ⟨a1, a2, rfl⟩ | a
    · rcases Has.cons.1 h2 with ⟨b1, b2, rfl⟩ | b
      · rfl
      · have := h.behind b; omega
    · rcases Has.cons.1 h2 with ⟨b1, b2, rfl⟩ | b
      · have := h.behind a; omega
      · exact ih h.tail a b

/-- The same pages, the same list. -/
theorem Ok.ext : ∀ {l l' : List (Sp α)}, Ok l → Ok l' → (∀ p v, Has l p v ↔ Has l' p v) → l = l'
  | [], [], _, _, _ => rfl
  | [], y :: l', _, h', he => absurd ((he y.f y.v).2 (Has.cons.2 (.inl ⟨Nat.le_refl _, (h'.1 y (by simp)).1, rfl⟩))) Has.nil
  | x :: l, [], h, _, he => absurd ((he x.f x.v).1 (Has.cons.2 (.inl ⟨Nat.le_refl _, (h.1 x (by simp)).1, rfl⟩))) Has.nil
  | x :: l, y :: l', h, h', he => by
    have hx := (h.1 x (by simp)).1
    have hy := (h'.1 y (by simp)).1
    have a1 := (he x.f x.v).1 (Has.cons.2 (.inl ⟨Nat.le_refl _, hx, rfl⟩))
    have a2 := (he y.f y.v).2 (Has.cons.2 (.inl ⟨Nat.le_refl _, hy, rfl⟩))
    have hff : x.f = y.f := by
      rcases Has.cons.1 a1 with ⟨b1, b2, _⟩ | b
      · rcases Has.cons.1 a2 with ⟨c1, c2, _⟩ | c
        · omega
        · have := h.behind c; omega
      · have b' := h'.behind b
        rcases Has.cons.1 a2 with ⟨c1, c2, _⟩ | c
        · omega
        · have := h.behind c; omega
    have hvv : x.v = y.v := by
      rcases Has.cons.1 a1 with ⟨_, _, e⟩ | b
      · exact e.symm
      · have b' := h'.behind b; omega
    have htt : ∀ (x y : Sp α) (l l' : List (Sp α)), Ok (x :: l) → Ok (y :: l') → (∀ p v, Has (x :: l) p v ↔ Has (y :: l') p v) → x.f = y.f → x.v = y.v → ¬ x.t < y.t := by
      intro x y l l' h h' he hf hv hlt
      have hx := (h.1 x (by simp)).1
      have b := (he x.t y.v).2 (Has.cons.2 (.inl ⟨by omega, hlt, rfl⟩))
      rcases Has.cons.1 b with ⟨c1, c2, _⟩ | ⟨z, hz, c1, c2, c3⟩
      · omega
      · have d := (List.pairwise_cons.1 h.2).1 z hz
        exact d.2 (by omega) (by rw [hv, c3])
    have ht : x.t = y.t := by
      have c1 := htt x y l l' h h' he hff hvv
      have c2 := htt y x l' l h' h (fun p v => (he p v).symm) hff.symm hvv.symm
      omega
    have hxy : x = y := by cases x; cases y; simp_all
    subst hxy
    rw [Ok.ext h.tail h'.tail (fun p v => ?_)]
    constructor
    · intro hp
      have := h.behind hp
      rcases Has.cons.1 ((he p v).1 (Has.cons.2 (.inr hp))) with ⟨c1, c2, _⟩ | c
      · omega
      · exact c
    · intro hp
      have := h'.behind hp
      rcases Has.cons.1 ((he p v).2 (Has.cons.2 (.inr hp))) with ⟨c1, c2, _⟩ | c
      · omega
      · exact c

/-! ### put -/
def put (l : List (Sp α)) (x : Sp α) : List (Sp α) :=
  match l.getLast? with
  | some y => if y.t = x.f ∧ y.v = x.v then l.dropLast ++ [⟨y.f, x.t, y.v⟩] else l ++ [x]
  | none => l ++ [x]
theorem put_nil (x : Sp α) : put [] x = [x] := rfl
theorem put_snoc (l : List (Sp α)) (y x : Sp α) : put (l ++ [y]) x = if y.t = x.f ∧ y.v = x.v then l ++ [⟨y.f, x.t, y.v⟩] else l ++ [y] ++ [x] := by
  unfold put
  simp
theorem put_len (l : List (Sp α)) (x : Sp α) : (put l x).length ≤ l.length + 1 := by
  unfold put
  split
  · next y h =>
    split
    · simp
    · simp
  · simp
theorem put_ok {l : List (Sp α)} {x : Sp α} (h : Ok l) (hx : x.f < x.t ∧ x.t ≤ 4096) (hl : ∀ y, y ∈ l → y.t ≤ x.f) : Ok (put l x) ∧ (∀ y, y ∈ put l x → y.t ≤ x.t) ∧ ∀ p v, Has (put l x) p v ↔ Has l p v ∨ (x.f ≤ p ∧ p < x.t ∧ x.v = v) := by
  rcases List.eq_nil_or_concat l with rfl | ⟨l, y, rfl⟩
  · rw [put_nil]
    refine ⟨⟨by simpa using hx, List.pairwise_singleton _ _⟩, by simp, fun p v => ?_⟩
    rw [Has.one]; simp [Has.nil]
  · rw [List.concat_eq_append] at h hl ⊢
    rw [put_snoc]
    obtain ⟨h1, h2, h3⟩ := Ok.last.1 h
    have hy := hl y (by simp)
    by_cases e : y.t = x.f ∧ y.v = x.v
    · rw [if_pos e]
      refine ⟨Ok.last.2 ⟨h1, ⟨by simp only []; omega, hx.2⟩, fun z hz => h3 z hz⟩, ?_, fun p v => ?_⟩
      · intro z hz
        rcases List.mem_append.1 hz with hz | hz
        · have := hl z (by simp [hz]); omega
        · obtain rfl : z = ⟨y.f, x.t, y.v⟩ := by simpa using hz
          exact Nat.le_refl _
      · rw [Has.append, Has.append, Has.one, Has.one, e.2]
        have := e.1
        constructor
        · rintro (a | ⟨a, b, c⟩)
          · exact .inl (.inl a)
          · by_cases hp : p < y.t
            · exact .inl (.inr ⟨a, hp, c⟩)
            · exact .inr ⟨by omega, b, c⟩
        · rintro ((a | ⟨a, b, c⟩) | ⟨a, b, c⟩)
          · exact .inl a
          · exact .inr ⟨a, by simp only []; omega, c⟩
          · exact .inr ⟨by simp only []; omega, b, c⟩
    · rw [if_neg e]
      refine ⟨Ok.last.2 ⟨h, hx, fun z hz => ⟨hl z hz, fun e1 e2 => ?_⟩⟩, ?_, fun p v => ?_⟩
      · rcases List.mem_append.1 hz with hz | hz
        · have := h3 z hz; omega
        · obtain rfl : z = y := by simpa using hz
          exact e ⟨e1, e2⟩
      · intro z hz
        rcases List.mem_append.1 hz with hz | hz
        · have := hl z hz; omega
        · obtain rfl : z = x := by simpa using hz
          exact Nat.le_refl _
      · rw [Has.append, Has.one]

/-- Intervals put one behind the other. -/
theorem puts_ok : ∀ {xs l : List (Sp α)}, Ok l → (∀ x, x ∈ xs → x.f < x.t ∧ x.t ≤ 4096) → xs.Pairwise (fun a b => a.t ≤ b.f) → (∀ y, y ∈ l → ∀ x, x ∈ xs → y.t ≤ x.f) →
    Ok (xs.foldl put l) ∧ ∀ p v, Has (xs.foldl put l) p v ↔ Has l p v ∨ Has xs p v
  | [], l, h, _, _, _ => ⟨h, fun p v => by simp [Has.nil]⟩
  | x :: xs, l, h, hx, hp, hl => by
    obtain ⟨a, b, c⟩ := put_ok h (hx x (by simp)) (fun y hy => hl y hy x (by simp))
    obtain ⟨p1, p2⟩ := List.pairwise_cons.1 hp
    obtain ⟨d, e⟩ := puts_ok (xs := xs) a (fun z hz => hx z (by simp [hz])) p2 (fun y hy z hz => by have := b y hy; have := p1 z hz; omega)
    refine ⟨d, fun p v => ?_⟩
    rw [List.foldl_cons, e, c, Has.cons]
    constructor
    · rintro ((h | h) | h) <;> simp [h]
    · rintro (h | h | h) <;> simp [h]
theorem puts_len : ∀ (xs l : List (Sp α)), (xs.foldl put l).length ≤ l.length + xs.length
  | [], l => by simp
  | x :: xs, l => by
    have h1 := puts_len xs (put l x)
    have h2 := put_len l x
    simp only [List.foldl_cons, List.length_cons]; omega

/-! ### turn -/
def cutL (a : Nat) (l : List (Sp α)) : List (Sp α) := l.flatMap fun x => if x.f < a then [⟨x.f, min x.t a, x.v⟩] else []
def cutR (b : Nat) (l : List (Sp α)) : List (Sp α) := l.flatMap fun x => if b < x.t then [⟨max x.f b, x.t, x.v⟩] else []
def turn (a b : Nat) (l now : List (Sp α)) : List (Sp α) := (now ++ cutR b l).foldl put (cutL a l)
theorem cutL_snoc (a : Nat) (l : List (Sp α)) (x : Sp α) : cutL a (l ++ [x]) = cutL a l ++ (if x.f < a then [⟨x.f, min x.t a, x.v⟩] else []) := by simp [cutL]
theorem cutR_snoc (a : Nat) (l : List (Sp α)) (x : Sp α) : cutR a (l ++ [x]) = cutR a l ++ (if a < x.t then [⟨max x.f a, x.t, x.v⟩] else []) := by simp [cutR]
theorem cutL_len (a : Nat) (l : List (Sp α)) : (cutL a l).length ≤ l.length := by
  induction l with
  | nil => simp [cutL]
  | cons x l ih => rw [show cutL a (x :: l) = (if x.f < a then [⟨x.f, min x.t a, x.v⟩] else []) ++ cutL a l by simp [cutL], List.length_append, List.length_cons]; split <;> simp only [List.length_cons, List.length_nil] <;> omega
theorem cutR_len (a : Nat) (l : List (Sp α)) : (cutR a l).length ≤ l.length := by
  induction l with
  | nil => simp [cutR]
  | cons x l ih => rw [show cutR a (x :: l) = (if a < x.t then [⟨max x.f a, x.t, x.v⟩] else []) ++ cutR a l by simp [cutR], List.length_append, List.length_cons]; split <;> simp only [List.length_cons, List.length_nil] <;> omega
theorem mem_cutL {a : Nat} {l : List (Sp α)} {y : Sp α} : y ∈ cutL a l ↔ ∃ x, x ∈ l ∧ x.f < a ∧ y = ⟨x.f, min x.t a, x.v⟩ := by
  unfold cutL
  rw [List.mem_flatMap]
  constructor
  · rintro ⟨x, hx, h⟩
    split at h
    · next hlt => exact ⟨x, hx, hlt, by simpa using h⟩
    · cases h
  · rintro ⟨x, hx, hlt, rfl⟩
    exact ⟨x, hx, by rw [if_pos hlt]; simp⟩
theorem mem_cutR {a : Nat} {l : List (Sp α)} {y : Sp α} : y ∈ cutR a l ↔ ∃ x, x ∈ l ∧ a < x.t ∧ y = ⟨max x.f a, x.t, x.v⟩ := by
  unfold cutR
  rw [List.mem_flatMap]
  constructor
  · rintro ⟨x, hx, h⟩
    split at h
    · next hlt => exact ⟨x, hx, hlt, by simpa using h⟩
    · cases h
  · rintro ⟨x, hx, hlt, rfl⟩
    exact ⟨x, hx, by rw [if_pos hlt]; simp⟩
theorem cutL_ok {a : Nat} : ∀ {l : List (Sp α)}, Ok l → Ok (cutL a l) ∧ ∀ p v, Has (cutL a l) p v ↔ Has l p v ∧ p < a
  | [], _ => ⟨Ok.nil, fun p v => by simp [cutL, Has.nil]⟩
  | x :: l, h => by
    obtain ⟨h1, h2⟩ := cutL_ok (a := a) h.tail
    obtain ⟨p1, p2⟩ := List.pairwise_cons.1 h.2
    have hx := h.1 x (by simp)
    have e : cutL a (x :: l) = (if x.f < a then [⟨x.f, min x.t a, x.v⟩] else []) ++ cutL a l := by simp [cutL]
    rw [e]
    by_cases hlt : x.f < a
    · rw [if_pos hlt]
      refine ⟨⟨fun y hy => ?_, List.pairwise_cons.2 ⟨fun y hy => ?_, h1.2⟩⟩, fun p v => ?_⟩
      · rcases List.mem_cons.1 hy with rfl | hy
        · simp only []; omega
        · exact h1.1 y hy
      · obtain ⟨z, hz, hza, rfl⟩ := mem_cutL.1 hy
        have := p1 z hz
        refine ⟨by simp only []; omega, fun e => this.2 (by simp only [] at e; omega)⟩
      · rw [Has.append, Has.one, h2, Has.cons]
        simp only []
        constructor
        · rintro (⟨c1, c2, c3⟩ | ⟨c1, c2⟩)
          · exact ⟨.inl ⟨c1, by omega, c3⟩, by omega⟩
          · exact ⟨.inr c1, c2⟩
        · rintro ⟨⟨c1, c2, c3⟩ | c1, c4⟩
          · exact .inl ⟨c1, by omega, c3⟩
          · exact .inr ⟨c1, c4⟩
    · rw [if_neg hlt, List.nil_append]
      refine ⟨h1, fun p v => ?_⟩
      rw [h2, Has.cons]
      constructor
      · rintro ⟨c1, c2⟩; exact ⟨.inr c1, c2⟩
      · rintro ⟨⟨c1, c2, c3⟩ | c1, c4⟩
        · omega
        · exact ⟨c1, c4⟩
theorem cutR_ok {a : Nat} : ∀ {l : List (Sp α)}, Ok l → (∀ x, x ∈ cutR a l → a ≤ x.f ∧ x.f < x.t ∧ x.t ≤ 4096) ∧ (cutR a l).Pairwise (fun a b => a.t ≤ b.f) ∧ ∀ p v, Has (cutR a l) p v ↔ Has l p v ∧ a ≤ p
  | [], _ => ⟨by simp [cutR], by simp [cutR], fun p v => by simp [cutR, Has.nil]⟩
  | x :: l, h => by
    obtain ⟨h1, h2, h3⟩ := cutR_ok (a := a) h.tail
    obtain ⟨p1, p2⟩ := List.pairwise_cons.1 h.2
    have hx := h.1 x (by simp)
    have e : cutR a (x :: l) = (if a < x.t then [⟨max x.f a, x.t, x.v⟩] else []) ++ cutR a l := by simp [cutR]
    rw [e]
    by_cases hlt : a < x.t
    · rw [if_pos hlt]
      refine ⟨fun y hy => ?_, List.pairwise_cons.2 ⟨fun y hy => ?_, h2⟩, fun p v => ?_⟩
      · rcases List.mem_cons.1 hy with rfl | hy
        · simp only []; omega
        · exact h1 y hy
      · obtain ⟨z, hz, hza, rfl⟩ := mem_cutR.1 hy
        have := p1 z hz
        simp only []; omega
      · rw [Has.append, Has.one, h3, Has.cons]
        simp only []
        constructor
        · rintro (⟨c1, c2, c3⟩ | ⟨c1, c2⟩)
          · exact ⟨.inl ⟨by omega, c2, c3⟩, by omega⟩
          · exact ⟨.inr c1, c2⟩
        · rintro ⟨⟨c1, c2, c3⟩ | c1, c4⟩
          · exact .inl ⟨by omega, c2, c3⟩
          · exact .inr ⟨c1, c4⟩
    · rw [if_neg hlt, List.nil_append]
      refine ⟨h1, h2, fun p v => ?_⟩
      rw [h3, Has.cons]
      constructor
      · rintro ⟨c1, c2⟩; exact ⟨.inr c1, c2⟩
      · rintro ⟨⟨c1, c2, c3⟩ | c1, c4⟩
        · omega
        · exact ⟨c1, c4⟩
/-- Pages from a up to b get a value, or lose theirs. -/
theorem turn_ok {a b : Nat} {l now : List (Sp α)} (h : Ok l) (hab : a < b) (hb : b ≤ 4096) (hn : now = [] ∨ ∃ v, now = [⟨a, b, v⟩]) :
    Ok (turn a b l now) ∧ ∀ p v, Has (turn a b l now) p v ↔ (if a ≤ p ∧ p < b then Has now p v else Has l p v) := by
  obtain ⟨l1, l2⟩ := cutL_ok (a := a) h
  obtain ⟨r1, r2, r3⟩ := cutR_ok (a := b) h
  have hnow : ∀ x, x ∈ now → x.f = a ∧ x.t = b := by
    rcases hn with rfl | ⟨v, rfl⟩ <;> simp
  have hl : ∀ y, y ∈ cutL a l → y.t ≤ a := fun y hy => by
    obtain ⟨x, _, _, rfl⟩ := mem_cutL.1 hy
    simp only []; omega
  obtain ⟨o, q⟩ := puts_ok (xs := now ++ cutR b l) l1
    (fun x hx => by
      rcases List.mem_append.1 hx with hx | hx
      · have := hnow x hx; omega
      · exact (r1 x hx).2)
    (List.pairwise_append.2 ⟨by rcases hn with rfl | ⟨v, rfl⟩ <;> simp, r2, fun x hx y hy => by have := hnow x hx; have := r1 y hy; omega⟩)
    (fun y hy x hx => by
      have := hl y hy
      rcases List.mem_append.1 hx with hx | hx
      · have := hnow x hx; omega
      · have := r1 x hx; omega)
  refine ⟨o, fun p v => ?_⟩
  show Has ((now ++ cutR b l).foldl put (cutL a l)) p v ↔ _
  rw [q, Has.append, l2, r3]
  have hnp : Has now p v → a ≤ p ∧ p < b := by
    rintro ⟨x, hx, c1, c2, _⟩
    have := hnow x hx; omega
  split
  · next hp =>
    constructor
    · rintro (⟨_, c⟩ | c | ⟨_, c⟩)
      · omega
      · exact c
      · omega
    · intro c; exact .inr (.inl c)
  · next hp =>
    constructor
    · rintro (⟨c, _⟩ | c | ⟨c, _⟩)
      · exact c
      · exact absurd (hnp c) hp
      · exact c
    · intro c
      by_cases hpa : p < a
      · exact .inl ⟨c, hpa⟩
      · exact .inr (.inr ⟨c, by omega⟩)

theorem Ok.len {l : List (Sp α)} (h : Ok l) : l.length ≤ 4096 := by
  have key : ∀ (l : List (Sp α)) (n : Nat), Ok l → (∀ x, x ∈ l → n ≤ x.f) → l.length + n ≤ 4096 ∨ l = [] := by
    intro l
    induction l with
    | nil => intro n _ _; exact .inr rfl
    | cons x l ih =>
      intro n ho hn
      left
      have hx := ho.1 x (by simp)
      have hxn := hn x (by simp)
      rcases ih (n + 1) ho.tail (fun y hy => by have := ((List.pairwise_cons.1 ho.2).1 y hy).1; omega) with h | rfl
      · simp only [List.length_cons]; omega
      · simp only [List.length_cons, List.length_nil]; omega
  rcases key l 0 h (fun _ _ => Nat.zero_le _) with h | rfl
  · omega
  · simp

/-! ### within, and gaps -/
def within (a b : Nat) (l : List (Sp α)) : List (Sp α) := l.flatMap fun x => if max x.f a < min x.t b then [⟨max x.f a, min x.t b, x.v⟩] else []
theorem mem_within {a b : Nat} {l : List (Sp α)} {y : Sp α} : y ∈ within a b l ↔ ∃ x, x ∈ l ∧ max x.f a < min x.t b ∧ y = ⟨max x.f a, min x.t b, x.v⟩ := by
  unfold within
  rw [List.mem_flatMap]
  constructor
  · rintro ⟨x, hx, h⟩
    split at h
    · next hlt => exact ⟨x, hx, hlt, by simpa using h⟩
    · cases h
  · rintro ⟨x, hx, hlt, rfl⟩
    exact ⟨x, hx, by rw [if_pos hlt]; simp⟩
theorem within_ok {a b : Nat} : ∀ {l : List (Sp α)}, Ok l → Ok (within a b l) ∧ ∀ p v, Has (within a b l) p v ↔ Has l p v ∧ a ≤ p ∧ p < b
  | [], _ => ⟨Ok.nil, fun p v => by simp [within, Has.nil]⟩
  | x :: l, h => by
    obtain ⟨h1, h2⟩ := within_ok (a := a) (b := b) h.tail
    obtain ⟨p1, p2⟩ := List.pairwise_cons.1 h.2
    have hx := h.1 x (by simp)
    have e : within a b (x :: l) = (if max x.f a < min x.t b then [⟨max x.f a, min x.t b, x.v⟩] else []) ++ within a b l := by simp [within]
    rw [e]
    by_cases hlt : max x.f a < min x.t b
    · rw [if_pos hlt]
      refine ⟨⟨fun y hy => ?_, List.pairwise_cons.2 ⟨fun y hy => ?_, h1.2⟩⟩, fun p v => ?_⟩
      · rcases List.mem_cons.1 hy with rfl | hy
        · simp only []; omega
        · exact h1.1 y hy
      · obtain ⟨z, hz, hza, rfl⟩ := mem_within.1 hy
        have := p1 z hz
        refine ⟨by simp only []; omega, fun e => this.2 (by simp only [] at e; omega)⟩
      · rw [Has.append, Has.one, h2, Has.cons]
        simp only []
        constructor
        · rintro (⟨c1, c2, c3⟩ | ⟨c1, c2⟩)
          · exact ⟨.inl ⟨by omega, by omega, c3⟩, by omega⟩
          · exact ⟨.inr c1, c2⟩
        · rintro ⟨⟨c1, c2, c3⟩ | c1, c4⟩
          · exact .inl ⟨by omega, by omega, c3⟩
          · exact .inr ⟨c1, c4⟩
    · rw [if_neg hlt, List.nil_append]
      refine ⟨h1, fun p v => ?_⟩
      rw [h2, Has.cons]
      constructor
      · rintro ⟨c1, c2⟩; exact ⟨.inr c1, c2⟩
      · rintro ⟨⟨c1, c2, c3⟩ | c1, c4⟩
        · omega
        · exact ⟨c1, c4⟩
theorem within_all {l : List (Sp α)} (h : Ok l) : within 0 4096 l = l :=
  (within_ok h).1.ext h fun p v => by
    rw [(within_ok h).2]
    constructor
    · rintro ⟨c, _⟩; exact c
    · intro c
      obtain ⟨x, hx, c1, c2, _⟩ := id c
      have := h.1 x hx
      exact ⟨c, by omega, by omega⟩

/-- What lies between intervals, from a page on up to another. -/
def gaps (at_ b : Nat) : List (Sp α) → List (Nat × Nat)
  | [] => if at_ < b then [(at_, b)] else []
  | x :: l => (if at_ < x.f then [(at_, x.f)] else []) ++ gaps x.t b l

end Go.Proofs.Ytjicpblncfgiaaa.SpT
