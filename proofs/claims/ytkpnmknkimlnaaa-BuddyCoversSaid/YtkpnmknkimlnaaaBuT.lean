/-
  Buddy: the plain law: blocks as a table (kind and order of each place) and as rising lists. It names no program.
-/
import Derived.Test.YtkpnmknkimlnaaaMem
namespace Go.Proofs.Ytkpnmknkimlnaaa.BuT
open Go.Proofs.Ytkpnmknkimlnaaa

/-- A block: its first frame, its order. -/
structure Bk where
  f : Int
  o : Int
  deriving DecidableEq

/-- The block of this kind at place i, if there is one. -/
def one (F : Int) (kd od : Nat → Nat) (c i : Nat) : List Bk := if kd i = c then [⟨F + i, od i⟩] else []
/-- The blocks of a kind below n. -/
def blks (F : Int) (kd od : Nat → Nat) (c : Nat) : Nat → List Bk
  | 0 => []
  | n + 1 => blks F kd od c n ++ one F kd od c n
/-- .. from a on, m places. -/
def blkR (F : Int) (kd od : Nat → Nat) (c a : Nat) : Nat → List Bk
  | 0 => []
  | m + 1 => blkR F kd od c a m ++ one F kd od c (a + m)

section
variable {F : Int} {kd od kd' od' : Nat → Nat} {c n : Nat}

theorem one_congr {i : Nat} (h : (kd i = c ↔ kd' i = c) ∧ (kd i = c → od i = od' i)) : one F kd od c i = one F kd' od' c i := by
  unfold one
  by_cases e : kd i = c
  · rw [if_pos e, if_pos (h.1.1 e), h.2 e]
  · rw [if_neg e, if_neg (fun e' => e (h.1.2 e'))]
theorem blks_congr : ∀ {n : Nat}, (∀ i, i < n → (kd i = c ↔ kd' i = c) ∧ (kd i = c → od i = od' i)) → blks F kd od c n = blks F kd' od' c n
  | 0, _ => rfl
  | n + 1, h => by unfold blks; rw [blks_congr (fun i hi => h i (by omega)), one_congr (h n (by omega))]
theorem blkR_congr {a : Nat} : ∀ {m : Nat}, (∀ i, a ≤ i → i < a + m → (kd i = c ↔ kd' i = c) ∧ (kd i = c → od i = od' i)) → blkR F kd od c a m = blkR F kd' od' c a m
  | 0, _ => rfl
  | m + 1, h => by unfold blkR; rw [blkR_congr (fun i h1 h2 => h i h1 (by omega)), one_congr (h (a + m) (by omega) (by omega))]
theorem blks_split (a : Nat) : ∀ m, blks F kd od c (a + m) = blks F kd od c a ++ blkR F kd od c a m
  | 0 => by simp [blkR]
  | m + 1 => by rw [← Nat.add_assoc, blks, blkR, blks_split a m, List.append_assoc]
theorem blks_at {i : Nat} (h : i < n) : blks F kd od c n = blks F kd od c i ++ (one F kd od c i ++ blkR F kd od c (i + 1) (n - (i + 1))) := by
  have := blks_split (F := F) (kd := kd) (od := od) (c := c) (i + 1) (n - (i + 1))
  rw [show i + 1 + (n - (i + 1)) = n by omega] at this
  rw [this, blks, List.append_assoc]
theorem mem_one {i : Nat} {x : Bk} : x ∈ one F kd od c i ↔ kd i = c ∧ x = ⟨F + i, od i⟩ := by
  unfold one; split <;> simp [*]
theorem mem_blks {x : Bk} : ∀ {n : Nat}, x ∈ blks F kd od c n ↔ ∃ i, i < n ∧ kd i = c ∧ x = ⟨F + i, od i⟩
  | 0 => by simp [blks]
  | n + 1 => by
    rw [blks, List.mem_append, mem_blks, mem_one]
    constructor
    · rintro (⟨i, h1, h2⟩ | h)
      · exact ⟨i, by omega, h2⟩
      · exact ⟨n, by omega, h⟩
    · rintro ⟨i, h1, h2⟩
      rcases Nat.lt_or_ge i n with h | h
      · exact .inl ⟨i, h, h2⟩
      · obtain rfl : i = n := by omega
        exact .inr h2
theorem mem_blkR {a : Nat} {x : Bk} : ∀ {m : Nat}, x ∈ blkR F kd od c a m ↔ ∃ i, a ≤ i ∧ i < a + m ∧ kd i = c ∧ x = ⟨F + i, od i⟩
  | 0 => by simp [blkR]; intro i h1 h2; omega
  | m + 1 => by
    rw [blkR, List.mem_append, mem_blkR, mem_one]
    constructor
    · rintro (⟨i, h0, h1, h2⟩ | h)
      · exact ⟨i, h0, by omega, h2⟩
      · exact ⟨a + m, by omega, by omega, h⟩
    · rintro ⟨i, h0, h1, h2⟩
      rcases Nat.lt_or_ge i (a + m) with h | h
      · exact .inl ⟨i, h0, h, h2⟩
      · obtain rfl : i = a + m := by omega
        exact .inr h2
theorem blks_len : ∀ n, (blks F kd od c n).length ≤ n
  | 0 => by simp [blks]
  | n + 1 => by
    have := blks_len n
    have h2 : (one F kd od c n).length ≤ 1 := by unfold one; split <;> simp
    rw [blks, List.length_append]; omega
end

/-- One more, by rising frames. -/
def withB (x : Bk) : List Bk → List Bk
  | [] => [x]
  | y :: l => if x.f < y.f then x :: y :: l else y :: withB x l
theorem withB_mid {x : Bk} {B : List Bk} (hB : ∀ y, y ∈ B → x.f < y.f) : ∀ {A : List Bk}, (∀ y, y ∈ A → ¬ x.f < y.f) → withB x (A ++ B) = A ++ x :: B
  | [], _ => by
    cases B with
    | nil => rfl
    | cons b B => simp [withB, hB b (by simp)]
  | a :: A, hA => by
    rw [List.cons_append, withB, if_neg (hA a (by simp)), withB_mid hB (fun y hy => hA y (by simp [hy]))]; rfl
def placeB (l : List Bk) (x : Bk) : Int := match l.findIdx? (fun y => decide (y = x)) with
  | some i => (i : Int)
  | none => -1
def withoutB (l : List Bk) (k : Nat) : List Bk := l.take k ++ l.drop (k + 1)
theorem withoutB_mid (A B : List Bk) (x : Bk) : withoutB (A ++ x :: B) A.length = A ++ B := by
  unfold withoutB; simp
theorem placeB_no {l : List Bk} {x : Bk} (h : x ∉ l) : placeB l x = -1 := by
  unfold placeB
  rw [List.findIdx?_eq_none_iff.2 (fun y hy => by rw [decide_eq_false_iff_not]; rintro rfl; exact h hy)]
theorem placeB_at {l : List Bk} {x : Bk} {k : Nat} (hk : k < l.length) (h1 : ∀ y, y ∈ l.take k → ¬ y = x) (h2 : l[k] = x) : placeB l x = k := by
  unfold placeB
  rw [show l.findIdx? (fun y => decide (y = x)) = some k from ?_]
  rw [List.findIdx?_eq_some_iff_getElem]
  refine ⟨hk, by simpa using h2, fun j hj => ?_⟩
  have := h1 (l[j]'(by omega)) (by rw [List.mem_take_iff_getElem]; exact ⟨j, by omega, rfl⟩)
  simpa using this
theorem placeB_mid {A B : List Bk} {x : Bk} (h : x ∉ A) : placeB (A ++ x :: B) x = A.length :=
  placeB_at (by simp) (fun y hy e => by rw [List.take_left' rfl] at hy; subst e; exact h hy) (by simp)

section
variable {F : Int} {kd od : Nat → Nat} {c n : Nat}

theorem blks_lt {i : Nat} {x : Bk} (h : x ∈ blks F kd od c i) : x.f < F + i := by
  obtain ⟨j, h1, _, rfl⟩ := mem_blks.1 h; simp; omega
theorem blkR_gt {a m : Nat} {x : Bk} (h : x ∈ blkR F kd od c a m) : F + a ≤ x.f := by
  obtain ⟨j, h1, _, _, rfl⟩ := mem_blkR.1 h; simp; omega

/-- What lies below and behind place i. -/
theorem blks_upd_low {i k o : Nat} : blks F (upd kd i k) (upd od i o) c i = blks F kd od c i :=
  blks_congr fun j hj => by simp [upd, show j ≠ i by omega]
theorem blkR_upd_high {i k o m : Nat} : blkR F (upd kd i k) (upd od i o) c (i + 1) m = blkR F kd od c (i + 1) m :=
  blkR_congr fun j h1 h2 => by simp [upd, show j ≠ i by omega]
theorem blks_put {i o : Nat} (hi : i < n) (h : kd i ≠ c) : blks F (upd kd i c) (upd od i o) c n = withB ⟨F + i, o⟩ (blks F kd od c n) := by
  rw [blks_at hi, blks_upd_low, blkR_upd_high, blks_at (kd := kd) hi]
  have e1 : one F (upd kd i c) (upd od i o) c i = [⟨F + i, o⟩] := by unfold one; simp [upd]
  have e2 : one F kd od c i = [] := by unfold one; rw [if_neg h]
  rw [e1, e2, List.nil_append, withB_mid (fun y hy => by have := blkR_gt hy; simp; omega) (fun y hy => by have := blks_lt hy; simp; omega)]
  rfl
theorem blks_del {i : Nat} (hi : i < n) (h : kd i = c) : ∃ A B, blks F kd od c n = A ++ ⟨F + i, od i⟩ :: B ∧ (⟨F + i, od i⟩ : Bk) ∉ A ∧ ∀ k o, k ≠ c → blks F (upd kd i k) (upd od i o) c n = A ++ B := by
  refine ⟨blks F kd od c i, blkR F kd od c (i + 1) (n - (i + 1)), ?_, fun hm => ?_, fun k o hk => ?_⟩
  · rw [blks_at hi]
    have e : one F kd od c i = [⟨F + i, od i⟩] := by unfold one; rw [if_pos h]
    rw [e]; rfl
  · have := blks_lt hm; simp at this
  · rw [blks_at hi, blks_upd_low, blkR_upd_high]
    have e1 : one F (upd kd i k) (upd od i o) c i = [] := by unfold one; simp [upd, hk]
    rw [e1, List.nil_append]
theorem blks_same {i k o : Nat} (h : kd i ≠ c) (hk : k ≠ c) : blks F (upd kd i k) (upd od i o) c n = blks F kd od c n :=
  blks_congr fun j hj => by
    by_cases e : j = i
    · subst e; simp [upd, h, hk]
    · simp [upd, e]
end

end Go.Proofs.Ytkpnmknkimlnaaa.BuT
