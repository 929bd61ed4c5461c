/-
  Buddy's reference: without, Same; sums over lists.
-/
import Derived.Test.YtkpnmknkimlnaaaBrA
namespace Go.Proofs.Ytkpnmknkimlnaaa
set_option linter.unusedVariables false
set_option linter.unusedSimpArgs false
open Go.RowKit BuT
set_option maxHeartbeats 4000000
set_option maxRecDepth 100000
set_option linter.unusedVariables false
set_option linter.unusedSimpArgs false

theorem brow_some {w : World} {B : Nat} {v : Value} {l : List Bk} (h : BRow w B v l) (hl : 0 < l.length) : ∃ g cap, v = .slice (some ⟨g, 0, none⟩) l.length cap ∧ l.length ≤ cap ∧ cap ≤ maxLen ∧ g < w.heap.size ∧ B ≤ g ∧ ∀ j, j < l.length * 2 → w.cell? ⟨g, j, none⟩ = (encB l)[j]? := by
  obtain ⟨h0, ⟨h1, h2⟩ | ⟨g, cap, cur, hv, hg, hb, hn, hc, hs, ht⟩⟩ := h
  · omega
  · refine ⟨g, cap, hv, hn, hc, heap_lt hb, hg, fun j hj => ?_⟩
    rw [← ht]
    simp [World.cell?, hb, List.getElem?_take_of_lt hj]

theorem without_c (w : World) (B : Nat) (v : Value) (l : List Bk) (k : Nat) (hs : BRow w B v l) (hk : k < l.length) (hl : l.length ≤ 4096) : Calls Try.prog 71 #[v, .int .i64 (k : Int)] w (RetB w.heap.size (withoutB l k) w) := by
  obtain ⟨g, cap, rfl, h1, h2, hg, _, hc⟩ := brow_some hs (by omega)
  have hS1 : Sl w 2 (.slice (some ⟨g, 0, none⟩) k cap) (encB (l.take k)) := .inr ⟨g, 0, k, cap, rfl, by omega, h2, hg, by simp; omega, fun j hj => by
    rw [Nat.zero_add, hc j (by omega), ← encB_take, List.getElem?_take_of_lt hj]⟩
  have hS2 : Sl w 2 (.slice (if cap = k + 1 then some ⟨g, 0, none⟩ else some ⟨g, (k + 1) * 2, none⟩) (l.length - (k + 1)) (cap - (k + 1))) (encB (l.drop (k + 1))) := by
    by_cases e : cap = k + 1
    · rw [if_pos e]
      exact .inr ⟨g, 0, l.length - (k + 1), cap - (k + 1), rfl, by omega, by omega, hg, by simp, fun j hj => by omega⟩
    · rw [if_neg e]
      exact .inr ⟨g, (k + 1) * 2, l.length - (k + 1), cap - (k + 1), rfl, by omega, by omega, hg, by simp, fun j hj => by
        rw [hc _ (by omega), ← encB_drop, List.getElem?_drop]⟩
  have HS1 := Lib.hid hS1
  have HS2 := Lib.hid hS2
  have k0 : (0 : Int) ≤ (k : Int) := by omega
  have k1 : (k : Int) ≤ (cap : Int) := by omega
  have k2 : (k : Int) ≤ (l.length : Int) := by omega
  have k3 : (k : Int) + 1 ≤ (l.length : Int) := by omega
  have k4 : (l.length : Int) ≤ (cap : Int) := by omega
  have k5 : (k : Int) + 1 ≤ (cap : Int) := by omega
  have k6 : ((k : Int) + 1).toNat = k + 1 := by omega
  have l1 : (l.take k).length = k := by simp; omega
  have l2 : (l.drop (k + 1)).length = l.length - (k + 1) := by simp
  have hm2 : k ≤ maxLen := by unfold maxLen; omega
  unfold maxLen at h2
  have HL := Lib.hid (And.intro l1 l2)
  clear hs hc hS1 hS2 l1 l2
  by_cases e : cap = k + 1
  · simp only [if_pos e] at HS2
    have e' : (cap = k + 1) = True := eq_true e
    clear e
    go_enter Try.func71, Try.ntmps71
    go_wp2_with (first
      | (at_builtin; refine wpList_app (m := k) T_blk (World.ownsRow_nil w w.heap.size _ _) HS1.out rfl rfl rfl rfl (by simp [HL.out.1]) (encB_one _) (by unfold maxLen; omega) (by omega) (by simp) ?_; intro v1 w1 hown1 hext1 hnew1; have HX1 := Lib.hid hext1; have HO1 := Lib.hid hown1; have hs1 := hext1.size; clear hext1)
      | (at_builtin; refine wpList_app (m := l.length - (k + 1)) T_blk hown1 (Sl.ext HS2.out HX1.out (fun b _ hm => by simp [own, Value.ownBlock] at hm)) rfl rfl rfl rfl (by simp) (encB_one _) (by unfold maxLen; omega) (by omega) (by omega) ?_; intro v2 w2 hown2 hext2 hnew2; have HX2 := Lib.hid hext2; have HO2 := Lib.hid hown2; clear hext2))
    go_ret
    refine ⟨_, rfl, ?_, ?_⟩
    · have := HO2.out
      show w2.ownsRow w.heap.size 76 2 v2 (l.take k ++ l.drop (k + 1)).length (encB (l.take k ++ l.drop (k + 1)))
      rw [encB_app, List.length_append, HL.out.1, HL.out.2]; simpa using this
    · exact (HX1.out.mono (fun k hk => by simp [own, Value.ownBlock] at hk)).step HX2.out (fun i hi => .inr (HO1.out.lt i (of_mem_own hi)).1)
  · simp only [if_neg e] at HS2
    go_enter Try.func71, Try.ntmps71
    go_wp2_with (first
      | (at_builtin; refine wpList_app (m := k) T_blk (World.ownsRow_nil w w.heap.size _ _) HS1.out rfl rfl rfl rfl (by simp [HL.out.1]) (encB_one _) (by unfold maxLen; omega) (by omega) (by simp) ?_; intro v1 w1 hown1 hext1 hnew1; have HX1 := Lib.hid hext1; have HO1 := Lib.hid hown1; have hs1 := hext1.size; clear hext1)
      | (at_builtin; refine wpList_app (m := l.length - (k + 1)) T_blk hown1 (Sl.ext HS2.out HX1.out (fun b _ hm => by simp [own, Value.ownBlock] at hm)) rfl rfl rfl rfl (by simp) (encB_one _) (by unfold maxLen; omega) (by omega) (by omega) ?_; intro v2 w2 hown2 hext2 hnew2; have HX2 := Lib.hid hext2; have HO2 := Lib.hid hown2; clear hext2))
    go_ret
    refine ⟨_, rfl, ?_, ?_⟩
    · have := HO2.out
      show w2.ownsRow w.heap.size 76 2 v2 (l.take k ++ l.drop (k + 1)).length (encB (l.take k ++ l.drop (k + 1)))
      rw [encB_app, List.length_append, HL.out.1, HL.out.2]; simpa using this
    · exact (HX1.out.mono (fun k hk => by simp [own, Value.ownBlock] at hk)).step HX2.out (fun i hi => .inr (HO1.out.lt i (of_mem_own hi)).1)

theorem same_c (w : World) (va vb : Value) (A B : List Bk) (ha : BSl w va A) (hb : BSl w vb B) (hA : A.length ≤ 100000) (hB : B.length ≤ 100000) : Calls Try.prog 31 #[va, vb] w fun e w' => e = .returned (.bool (decide (A = B))) ∧ Ext [] w w' := by
  have HA := Lib.hid ha
  have HB := Lib.hid hb
  obtain ⟨aa, ca, rfl, h1, h2, _, _⟩ := ha
  obtain ⟨ab, cb, rfl, h3, h4, _, _⟩ := hb
  unfold maxLen at h2 h4
  by_cases hn : A.length = B.length
  · have e0 : (((A.length : Nat) : Int) != ((B.length : Nat) : Int)) = false := by simp [hn]
    have e1 : (A.length != B.length) = false := by simp [hn]
    have HN := Lib.hid hn
    obtain ⟨n, hnn⟩ : ∃ n, n = A.length := ⟨_, rfl⟩
    have hnb : B.length = n := by omega
    have HNN := Lib.hid (And.intro hnn hnb)
    rw [← hnn] at h1 e0 e1 hA ⊢
    rw [hnb] at h3 e0 e1 hB ⊢
    clear hn hnn hnb
    go_enter Try.func31, Try.ntmps31
    go_wp2
    go_loopw [5] (fun i wr => ∃ k : Nat, k ≤ n ∧ i = .int .i64 k ∧ A.take k = B.take k ∧ Ext [] w wr) (fun i _ => n - (intOf i).toNat)
    case atStart => exact ⟨0, by omega, rfl, by simp, Ext.refl _ _⟩
    case round =>
      obtain ⟨k, hk, rfl, ht, hx⟩ := hrel
      have Ht := Lib.hid ht
      have HXr := Lib.hid hx
      by_cases hlt : k < n
      · have kA : k < A.length := by have := HNN.out; omega
        have kB : k < B.length := by have := HNN.out; omega
        obtain ⟨_, _, e, _, _, _, q1⟩ := HA.out.ext hx (by simp)
        cases e
        obtain ⟨ga, rfl, hga, ca0, ca1⟩ := q1 k kA
        obtain ⟨_, _, e, _, _, _, q2⟩ := HB.out.ext hx (by simp)
        cases e
        obtain ⟨gb, rfl, hgb, cb0, cb1⟩ := q2 k kB
        have htA := Lib.hid (take_snoc1 kA)
        have htB := Lib.hid (take_snoc1 kB)
        have hne := Lib.hid (show A[k] ≠ B[k] → A ≠ B from fun h e => h (by subst e; rfl))
        have k0 : (0 : Int) ≤ (k : Int) := by omega
        have k1 : (k : Int) < (n : Int) := by omega
        clear ht hx q1 q2
        generalize A[k] = x at *
        generalize B[k] = y at *
        obtain ⟨xf, xo⟩ := x
        obtain ⟨yf, yo⟩ := y
        by_cases e : xf = yf ∧ xo = yo
        · obtain ⟨rfl, rfl⟩ := e
          go_wp2
          go_quiet (fail)
          go_wp2
          go_roundw
          case rel => exact ⟨k + 1, by omega, by go_num, by rw [htA.out, htB.out, Ht.out], HXr.out.drewN nq⟩
          case measure => simp [intOf]; omega
        · have HE := Lib.hid (hne.out (fun h => e (by injection h with h1 h2; exact ⟨h1, h2⟩)))
          have e3 : (xf == yf) = false ∨ ((xf == yf) = true ∧ (xo == yo) = false) := by
            by_cases h : xf = yf
            · exact .inr ⟨by simpa using h, by simpa using fun h' => e ⟨h, h'⟩⟩
            · exact .inl (by simpa using h)
          clear e
          rcases e3 with e3 | ⟨e3, e4⟩
          all_goals
            go_wp2
            go_quiet (fail)
            go_wp2
            go_ret
            exact ⟨ret_bool (by simpa using HE.out), HXr.out.drewN nq⟩
      · have hAB := Lib.hid (show A = B from by
          have h5 := HNN.out
          rwa [List.take_of_length_le (by omega), List.take_of_length_le (by omega)] at ht)
        clear ht
        go_wp2
        go_ret
        exact ⟨ret_bool (by simpa using hAB.out), HXr.out⟩
  · have HN := Lib.hid (show A ≠ B from fun e => hn (by rw [e]))
    have e0 : (((A.length : Nat) : Int) != ((B.length : Nat) : Int)) = true := by simp; omega
    have e1 : (A.length != B.length) = true := by simpa using hn
    clear hn
    go_enter Try.func31, Try.ntmps31
    go_wp2
    go_ret
    exact ⟨ret_bool (by simpa using HN.out), Ext.refl _ _⟩

end Go.Proofs.Ytkpnmknkimlnaaa
