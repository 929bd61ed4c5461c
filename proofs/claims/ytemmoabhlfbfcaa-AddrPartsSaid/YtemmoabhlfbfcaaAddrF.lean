/-
  Walks: the iterators Pages and Parts.
-/
import Derived.Test.YtemmoabhlfbfcaaAddrE
namespace Go.Proofs.Ytemmoabhlfbfcaa
set_option linter.unusedVariables false
set_option linter.unusedSimpArgs false
open Go.RowKit
set_option maxHeartbeats 400000
set_option maxRecDepth 10000

theorem upto_same (p : Nat → Bool) (j : Nat) : ∀ k, j ≤ k → (∀ i, j ≤ i → i < k → p i = false) → upto p k = upto p j
  | 0, h, _ => by obtain rfl : j = 0 := by omega
                  rfl
  | k + 1, h, hp => by
    rcases Nat.lt_or_ge j (k + 1) with h' | h'
    · rw [upto_succ, hp k (by omega) (by omega)]
      exact upto_same p j k (by omega) (fun i h1 h2 => hp i h1 (by omega))
    · obtain rfl : j = k + 1 := by omega
      rfl

/-- Is page k in the range? -/
def inR (from_ to : Int) (k : Nat) : Bool := decide (from_ ≤ k) && decide ((k : Int) < to)

/-- All pages: a number that the walks leave alone. -/
def NP : Nat := 4096
def pagesL (from_ to : Int) : List Nat := upto (inR from_ to) NP
theorem pagesL_at {from_ to : Int} {k : Nat} (h0 : from_ ≤ k) (h1 : (k : Int) < to) (h2 : k < 4096) : (pagesL from_ to)[(upto (inR from_ to) k).length]? = some k :=
  upto_at _ (by simp [inR, h0, h1]) h2
theorem inR_step {from_ to : Int} {k : Nat} (h0 : from_ ≤ k) (h1 : (k : Int) < to) : upto (inR from_ to) (k + 1) = upto (inR from_ to) k ++ [k] := by
  rw [upto_succ, if_pos (by simp [inR, h0, h1])]
theorem inR_le {from_ to : Int} {k : Nat} (h2 : k ≤ 4096) : (upto (inR from_ to) k).length ≤ (pagesL from_ to).length := upto_len _ h2
/-- Ahead of the first page there is none. -/
theorem inR_start {from_ to : Int} {k : Nat} (h : (k : Int) = max from_ 0) : upto (inR from_ to) k = [] := by
  rw [upto_same _ 0 k (by omega) (fun i _ hi => by simp [inR]; omega)]; rfl
theorem inR_end {from_ to : Int} {k : Nat} (h : min to 4096 ≤ k) (h' : from_ ≤ k) : (pagesL from_ to).length = (upto (inR from_ to) (min k 4096)).length := by
  unfold pagesL
  rw [upto_same _ (min k 4096) NP (by unfold NP; omega) (fun i h1 h2 => by unfold NP at h2; simp [inR]; omega)]
theorem inR_min {from_ to : Int} {k : Nat} (h : (k : Int) = max from_ 0) : upto (inR from_ to) (min k 4096) = [] := by
  rw [upto_same _ 0 (min k 4096) (by omega) (fun i _ hi => by simp [inR]; omega)]; rfl

theorem pages1 (Bf Bt : Nat) (from_ to : Int) (w0 : World) (hf : Blk w0 Bf [.int .i64 from_] 3) (ht : Blk w0 Bt [.int .i64 to] 3) :
    Iter Try.prog 50 #[.pointer (some ⟨Bf, 0, none⟩), .pointer (some ⟨Bt, 0, none⟩)] [Bf, Bt] (ints (pagesL from_ to)) w0 := by
  intro n l M J Jx W hn hs hK hM fJ fJx hY h0
  refine callsIn_of_wp Try.func50 rfl trivial ?_ rfl
  simp only [Try.ntmps50, List.size_toArray, List.length_cons, List.length_nil, Nat.reduceAdd, Nat.reduceSub, Array.replicate_succ, Array.replicate_zero, List.push_toArray, List.append_toArray, List.nil_append, List.cons_append]
  have hcf := ((It.refl M W).blk hK hM (by simp) hf).cell 0
  have hfoot := fun {X wr} (h : It M X W wr) => (h.blk hK hM (by simp) ht).cell 0
  have hend := @inR_end from_ to
  gi_wp2
  have hmx : mxI from_ 0 = max from_ 0 := rfl
  generalize mxI from_ 0 = p0 at *
  have Hmx := Lib.hid hmx
  clear hmx
  obtain ⟨p0, rfl⟩ := Int.eq_ofNat_of_zero_le (a := p0) (by have := Hmx.out; omega)
  gi_loopw [4] (fun v wr => ∃ (k : Nat) (X : List Nat), p0 ≤ k ∧ (p0 = k ∨ (k : Int) ≤ min to 4096) ∧ v = .int .i64 k ∧ J (upto (inR from_ to) (min k 4096)).length X wr ∧ It M X W wr) (fun v _ => 4096 - (intOf v).toNat)
  case atStart => exact ⟨p0, [], by omega, .inl rfl, rfl, by rw [inR_min Hmx.out]; exact h0, It.refl _ _⟩
  case round =>
    obtain ⟨k, X, hk, hk2, rfl, hJ, hit⟩ := hrel
    have hct := hfoot hit
    have Hmn := Lib.hid (show mnI to 4096 = min to 4096 from rfl)
    have hq2 : mnI to 4096 ≤ 4096 := by have := Hmn.out; omega
    by_cases hlt : (k : Int) < mnI to 4096
    · have h1 : from_ ≤ k := by have := Hmx.out; omega
      have h2 : (k : Int) < to := by have := Hmn.out; omega
      have hmk : min k 4096 = k := by omega
      rw [hmk] at hJ
      have Hs := Lib.hid (inR_step h1 h2)
      have Hle := Lib.hid (inR_le (from_ := from_) (to := to) (k := k + 1) (by omega))
      obtain ⟨fn, tmps, assign, body, hy, hR⟩ := yield_at (a := #[.int .i64 k]) (by unfold ints; rw [List.getElem?_map, pagesL_at h1 h2 (by omega)]; rfl) (fun h => hY _ h X wr hJ hit.ext hit.new)
      have hmk2 : min (k + 1) 4096 = k + 1 := by omega
      have Hm2 := Lib.hid hmk2
      clear hfoot hend hK hM fJ fJx hcf hY hmk hmk2 hJ
      gi_wp2
      refine hR.mono ?_
      clear hR hy
      rintro e W' ⟨hx', X', hX', (⟨rfl, hJ'⟩ | ⟨rfl, hJ'⟩)⟩
      · gi_wp2
        go_roundw
        case rel => exact ⟨k + 1, X', by omega, .inr (by have := Hmn.out; omega), by go_num, by rw [Hm2.out, Hs.out]; simpa using hJ', hit.yield hx' hX'⟩
        case measure => simp [intOf]; omega
      · gi_wp2
        refine bodyPost_ret (results_none rfl _ _ _) rfl ?_
        exact ⟨⟨_, rfl⟩, (hit.yield hx' hX').ext, X', (hit.yield hx' hX').new, .inr ⟨_, by have := Hle.out; rw [Hs.out] at this; simpa [ints] using this, hJ'⟩⟩
    · have He := Lib.hid (hend (k := k) (by have := Hmn.out; omega) (by have := Hmx.out; omega))
      clear hfoot hend hK hM fJ fJx hcf hY
      gi_wp2
      go_end0
      exact ⟨⟨_, rfl⟩, hit.ext, X, hit.new, .inl (by have := He.out; simp only [ints, List.length_map]; rw [this]; exact hJ)⟩

theorem pages_c (from_ to : Int) (w : World) :
    Calls Try.prog 23 #[.int .i64 from_, .int .i64 to] w fun e w' => e = .returned (.func (.func 50) #[] #[.pointer (some ⟨w.heap.size, 0, none⟩), .pointer (some ⟨w.heap.size + 1, 0, none⟩)]) ∧
      w' = (w.alloc (.cells #[.int .i64 from_] 3)).alloc (.cells #[.int .i64 to] 3) := by
  go_enter Try.func23, Try.ntmps23
  go_wp2
  go_ret
  exact ⟨rfl, rfl⟩
theorem pages_it (from_ to : Int) (w : World) : Iter Try.prog 50 #[.pointer (some ⟨w.heap.size, 0, none⟩), .pointer (some ⟨w.heap.size + 1, 0, none⟩)] [w.heap.size, w.heap.size + 1] (ints (pagesL from_ to))
    ((w.alloc (.cells #[.int .i64 from_] 3)).alloc (.cells #[.int .i64 to] 3)) :=
  pages1 _ _ _ _ _ ((Blk.new w [.int .i64 from_] 3).alloc _) (by have := Blk.new (w.alloc (.cells #[.int .i64 from_] 3)) [.int .i64 to] 3; rwa [World.size_alloc] at this)

end Go.Proofs.Ytemmoabhlfbfcaa
