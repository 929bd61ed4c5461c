/-
  Policy: the reference's around.
-/
import Derived.Test.YtkcaheedhbgmnaaPoI
namespace Go.Proofs.Ytkcaheedhbgmnaa
set_option linter.unusedVariables false
set_option linter.unusedSimpArgs false
open Go.RowKit
set_option maxHeartbeats 1000000
set_option maxRecDepth 10000
set_option linter.unusedVariables false
set_option linter.unusedSimpArgs false

def eqs (x : Nat) (L : List Nat) : List Nat := L.filter fun y => decide (y = x)
def nes (x : Nat) (L : List Nat) : List Nat := L.filter fun y => !decide (y = x)
theorem eqs_snoc (x z : Nat) (L : List Nat) : eqs x (L ++ [z]) = if z = x then eqs x L ++ [z] else eqs x L := by
  unfold eqs; rw [List.filter_append]; by_cases h : z = x <;> simp [h]
theorem nes_snoc (x z : Nat) (L : List Nat) : nes x (L ++ [z]) = if z = x then nes x L else nes x L ++ [z] := by
  unfold nes; rw [List.filter_append]; by_cases h : z = x <;> simp [h]
theorem eqs_le (x : Nat) (L : List Nat) : (eqs x L).length ≤ L.length := List.length_filter_le _ _
theorem nes_le (x : Nat) (L : List Nat) : (nes x L).length ≤ L.length := List.length_filter_le _ _
/-- A read of the k-th. -/
theorem Sl.at {w : World} {a : Option Addr} {n c : Nat} {L : List Nat} (h : Sl w 1 (.slice a n c) (encN L)) {k : Nat} (hk : k < n) :
    ∃ (b o : Nat) (hL : k < L.length), a = some ⟨b, o, none⟩ ∧ b < w.heap.size ∧ w.cell? ⟨b, o + k, none⟩ = some (.int .i64 ((L[k] : Nat) : Int)) := by
  obtain ⟨a', n', c', e, hl, _, _, hc⟩ := h.form
  cases e
  simp at hl
  obtain ⟨b, o, rfl, hb, hcell⟩ := hc (by omega)
  refine ⟨b, o, by omega, rfl, hb, ?_⟩
  rw [hcell k (by omega), encN_get, List.getElem?_eq_getElem (by omega)]; rfl
theorem Sl.len {w : World} {a : Option Addr} {n c : Nat} {L : List Nat} (h : Sl w 1 (.slice a n c) (encN L)) : L.length = n := by
  obtain ⟨a', n', c', e, hl, _, _, hc⟩ := h.form
  cases e; simpa using hl
theorem take_one {α : Type} {L : List α} {k : Nat} (h : k < L.length) : L.take (k + 1) = L.take k ++ [L[k]] := List.take_succ_eq_append_getElem h

theorem raround_c (w : World) (v : Value) (L : List Nat) (x : Nat) (hs : Sl w 1 v (encN L)) (hL : L.length ≤ 8) : Calls Try.prog 73 #[v, .int .i64 (x : Int)] w (RetN w.heap.size (eqs x L ++ nes x L) w) := by
  obtain ⟨a, n, c, rfl, _⟩ := hs.form
  have hl := hs.len
  have HS := Lib.hid hs
  have HL := Lib.hid hl
  have hn8 : n ≤ 8 := by omega
  clear hs hl hL
  go_enter Try.func73, Try.ntmps73
  go_wp2
  go_loopw [5, 6] (fun v p wr => ∃ k : Nat, k ≤ n ∧ p = .int .i64 k ∧ wr.ownsRow w.heap.size 3 1 v (eqs x (L.take k)).length (encN (eqs x (L.take k))) ∧ Ext [] w wr) (fun _ p _ => n - (intOf p).toNat)
  case atStart => exact ⟨0, by omega, rfl, World.ownsRow_nil _ _ _ _, Ext.refl _ _⟩
  case round =>
    obtain ⟨k, hk, rfl, ho, hx⟩ := hrel
    have hsz := hx.size
    by_cases hlt : k < n
    · obtain ⟨b, o, hkL, rfl, hb, hc⟩ := (HS.out.ext hx (by simp)).at hlt
      have hle := eqs_le x (L.take k)
      have hle2 : (L.take k).length ≤ 8 := by simp; omega
      have hle3 : (eqs x (L.take k)).length ≤ 8 := by omega
      have ht := Lib.hid (take_one hkL)
      have hsn := eqs_snoc x L[k] (L.take k)
      have k0 : (0 : Int) ≤ (k : Int) := by omega
      have k1 : (k : Int) < (n : Int) := by omega
      have hx' := Lib.hid hx
      clear hle hle2
      by_cases hz : L[k] = x
      · rw [if_pos hz] at hsn
        have HSN := Lib.hid hsn
        have hzb : (((L[k] : Nat) : Int) == (x : Int)) = true := by rw [hz]; simp
        have HZ := Lib.hid hz
        clear hsn hz
        generalize L[k] = z at *
        generalize eqs x (L.take k) = F at *
        go_wp2_with (first
          | (at_builtin; refine wpList_app T_int (ownsRow_ext ho ((Ext.refl [] _).alloc _) (by simp)) (Sl.lit wr 1 1 [.int .i64 (x : Int)] 3 (by decide) rfl) rfl rfl rfl rfl rfl (by simp [Value.oneCell']) (by unfold maxLen; omega) (by omega) (by simp; omega) ?_; intro v' w' hown' hext' hnew'))
        go_roundw
        case rel => exact ⟨k + 1, by omega, by go_num, by rw [ht.out, HSN.out, HZ.out]; simpa [encN] using hown', (hx'.out.alloc _).step hext' (fun i hi => .inr (ho.lt i (of_mem_own hi)).1)⟩
        case measure => simp [intOf]; omega
      · rw [if_neg hz] at hsn
        have HSN := Lib.hid hsn
        have hzb : (((L[k] : Nat) : Int) == (x : Int)) = false := beq_eq_false_iff_ne.2 (by omega)
        clear hsn hz
        generalize L[k] = z at *
        go_wp2
        go_roundw
        case rel => exact ⟨k + 1, by omega, by go_num, by rw [ht.out, HSN.out]; exact ho, hx'.out⟩
        case measure => simp [intOf]; omega
    · obtain rfl : k = n := by omega
      rw [List.take_of_length_le (by rw [HL.out]; omega)] at ho
      have ho' := Lib.hid ho
      have hx' := Lib.hid hx
      have heL := eqs_le x L
      rw [HL.out] at heL
      clear ho hx hlt hk
      generalize eqs x L = F at *
      go_wp2
      go_loopw [5, 7] (fun v p wr => ∃ j : Nat, j ≤ k ∧ p = .int .i64 j ∧ wr.ownsRow w.heap.size 3 1 v (F ++ nes x (L.take j)).length (encN (F ++ nes x (L.take j))) ∧ Ext [] w wr) (fun _ p _ => k - (intOf p).toNat)
      case atStart => exact ⟨0, by omega, rfl, by simpa [nes] using ho'.out, hx'.out⟩
      case round =>
        obtain ⟨j, hj, rfl, ho, hx⟩ := hrel
        clear hsz
        have hsz := hx.size
        by_cases hlt : j < k
        · obtain ⟨b, o, hkL, rfl, hb, hc⟩ := (HS.out.ext hx (by simp)).at hlt
          have hle := nes_le x (L.take j)
          have hle2 : (L.take j).length ≤ 8 := by simp; omega
          have hle3 : (F ++ nes x (L.take j)).length ≤ 16 := by simp; omega
          have ht := Lib.hid (take_one hkL)
          have hsn := nes_snoc x L[j] (L.take j)
          have k0 : (0 : Int) ≤ (j : Int) := by omega
          have k1 : (j : Int) < (k : Int) := by omega
          have hx'' := Lib.hid hx
          clear hle hle2
          by_cases hz : L[j] = x
          · rw [if_pos hz] at hsn
            have HSN := Lib.hid hsn
            have hzb : (((L[j] : Nat) : Int) != (x : Int)) = false := by rw [hz]; simp
            clear hsn hz
            generalize L[j] = z at *
            go_wp2
            go_roundw
            case rel => exact ⟨j + 1, by omega, by go_num, by rw [ht.out, HSN.out]; exact ho, hx''.out⟩
            case measure => simp [intOf]; omega
          · rw [if_neg hz] at hsn
            have hsn2 : F ++ nes x (L.take j ++ [L[j]]) = (F ++ nes x (L.take j)) ++ [L[j]] := by rw [hsn]; simp
            have HSN := Lib.hid hsn2
            have hzb : (((L[j] : Nat) : Int) != (x : Int)) = true := by simp; omega
            clear hsn hz hsn2
            generalize L[j] = z at *
            generalize F ++ nes x (L.take j) = G at *
            go_wp2_with (first
              | (at_builtin; refine wpList_app T_int (ownsRow_ext ho ((Ext.refl [] _).alloc _) (by simp)) (Sl.lit wr 1 1 [.int .i64 (z : Int)] 3 (by decide) rfl) rfl rfl rfl rfl rfl (by simp [Value.oneCell']) (by unfold maxLen; omega) (by omega) (by simp; omega) ?_; intro v' w' hown' hext' hnew'))
            go_roundw
            case rel => exact ⟨j + 1, by omega, by go_num, by rw [ht.out, HSN.out]; simpa [encN] using hown', (hx''.out.alloc _).step hext' (fun i hi => .inr (ho.lt i (of_mem_own hi)).1)⟩
            case measure => simp [intOf]; omega
        · obtain rfl : j = k := by omega
          rw [List.take_of_length_le (by rw [HL.out]; omega)] at ho
          have ho' := Lib.hid ho
          have hx'' := Lib.hid hx
          clear ho hx
          go_wp2
          go_ret
          exact ⟨_, rfl, ho'.out, hx''.out⟩

/-- In a list without repeats both are alike. -/
theorem ixOf_none {L : List Nat} {x : Nat} (h : x ∉ L) : ixOf L (x : Int) = -1 := ixOf_no (fun y hy e => h ((show y = x by omega) ▸ hy))
theorem eqs_none {L : List Nat} {x : Nat} (h : x ∉ L) : eqs x L = [] := by
  unfold eqs; rw [List.filter_eq_nil_iff]; intro y hy e; exact h (by simp at e; exact e ▸ hy)
theorem nes_none {L : List Nat} {x : Nat} (h : x ∉ L) : nes x L = L := by
  unfold nes; rw [List.filter_eq_self]; intro y hy; simp; exact fun e => h (e ▸ hy)
theorem arnd_ref {L : List Nat} (hn : L.Nodup) (x : Nat) : arnd L x = eqs x L ++ nes x L := by
  by_cases h : x ∈ L
  · obtain ⟨s, t, rfl⟩ := List.append_of_mem h
    have h1 : x ∉ s := fun hs => by rw [List.nodup_append] at hn; exact hn.2.2 x hs x (by simp) rfl
    have h2 : x ∉ t := fun ht => by rw [List.nodup_append] at hn; have := hn.2.1; simp at this; exact this.1 ht
    have hi : ixOf (s ++ x :: t) (x : Int) = (s.length : Nat) := ixOf_at (k := s.length) (L := s ++ x :: t) (x := (x : Int)) (by simp) (fun y hy e => by rw [List.take_left' rfl] at hy; exact h1 ((show y = x by omega) ▸ hy)) (by simp)
    unfold arnd
    rw [hi, if_neg (by omega)]
    have e1 : eqs x (s ++ x :: t) = [x] := by
      have := eqs_none h1; have := eqs_none h2
      unfold eqs at *; simp [*]
    have e2 : nes x (s ++ x :: t) = s ++ t := by
      have := nes_none h1; have := nes_none h2
      unfold nes at *; simp [*]
    rw [e1, e2]; simp
  · unfold arnd
    rw [ixOf_none h, if_pos (by omega), eqs_none h, nes_none h]; rfl
theorem upto_nodup (p : Nat → Bool) (k : Nat) : (upto p k).Nodup := List.nodup_range.filter _

end Go.Proofs.Ytkcaheedhbgmnaa
