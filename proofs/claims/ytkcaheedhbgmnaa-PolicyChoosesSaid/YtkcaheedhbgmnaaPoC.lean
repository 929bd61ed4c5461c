/-
  Policy: the library's slices.Grow, slices.Concat over rows of numbers (as many as there are).
-/
import Derived.Test.YtkcaheedhbgmnaaPoB
import Derived.Lib.AppendZeros
namespace Go.Proofs.Ytkcaheedhbgmnaa
set_option linter.unusedVariables false
set_option linter.unusedSimpArgs false
open Go.RowKit
set_option maxHeartbeats 1000000
set_option maxRecDepth 10000
set_option linter.unusedVariables false
set_option linter.unusedSimpArgs false

theorem owns_emptyI (w : World) {B g cap : Nat} {e : TypeId} {size : Nat} {cur : Array Value} (hB : B ≤ g) (hh : w.heap[g]? = some (.cells cur e (0, 0))) (hc : cap ≤ maxLen) (hs : cur.size = cap * size) : w.ownsRow B e size (.slice (some ⟨g, 0, none⟩) 0 cap) 0 [] :=
  ⟨by simp, .inr ⟨g, cap, cur, rfl, hB, hh, Nat.zero_le _, hc, hs, by simp⟩⟩
theorem zeroCells_sizeI (z : Array Value) (n : Nat) : (Builtin.zeroCells z n).size = n * z.size := by
  unfold Builtin.zeroCells; simp
theorem growI_c (n : Nat) (hn : n ≤ 100000) (w : World) : Calls Try.prog 87 #[.slice none 0 0, .int .i64 n] w (RetN w.heap.size [] w) := by
  rcases Nat.eq_zero_or_pos n with rfl | h0
  · go_enter Try.func87, Try.ntmps87
    go_wp2
    go_ret
    exact ⟨_, rfl, World.ownsRow_nil _ _ _ _, Ext.refl _ _⟩
  · have T := T_int
    obtain ⟨i, hi, hz0, hz1, hz2⟩ := info_parts T.info
    have hr := fun ty => Lib.run_append_nil_zeros (P := Try.prog) w 67 3 ty 3 i _ .i64 .i64 T.und Try.underlying3 hi hz0 n h0 (by rw [hz1]; decide) (by omega) (by rw [hz2]; omega)
    have hge := grownCap_ge w n 0 3
    have hle := grownCap_le_maxLen w n 0 3 (by unfold maxLen; omega)
    have hblk : (w.drew.alloc (.cells (Builtin.zeroCells (Value.int .i64 0).cells n ++ Builtin.zeroCells (Value.int .i64 0).cells (grownCap w n 0 3 - n)) 3)).heap[w.heap.size]? = some (.cells (Builtin.zeroCells (Value.int .i64 0).cells n ++ Builtin.zeroCells (Value.int .i64 0).cells (grownCap w n 0 3 - n)) 3 (0, 0)) := World.alloc_heap_new w.drew _
    have hsz : (Builtin.zeroCells (Value.int .i64 0).cells n ++ Builtin.zeroCells (Value.int .i64 0).cells (grownCap w n 0 3 - n)).size = grownCap w n 0 3 * 1 := by
      rw [Array.size_append, zeroCells_sizeI, zeroCells_sizeI, T.cells]; omega
    have hx : Ext [] w (w.drew.alloc (.cells (Builtin.zeroCells (Value.int .i64 0).cells n ++ Builtin.zeroCells (Value.int .i64 0).cells (grownCap w n 0 3 - n)) 3)) := (Ext.refl _ _).drew.alloc _
    have HO := Lib.hid (owns_emptyI _ (Nat.le_refl _) hblk hle hsz)
    have HX := Lib.hid hx
    have HR := Lib.hid hr
    clear hblk hsz hx hr hi hz0 hz1 hz2 T
    generalize (w.drew.alloc (.cells (Builtin.zeroCells (Value.int .i64 0).cells n ++ Builtin.zeroCells (Value.int .i64 0).cells (grownCap w n 0 3 - n)) 3)) = w2 at *
    generalize grownCap w n 0 3 = cap at *
    unfold maxLen at hle
    go_enter Try.func87, Try.ntmps87
    go_wp2_with (at_builtin; refine Lib.wpList_append_run _ rfl _ _ _ _ rfl _ _ rfl rfl _ _ (HR.out _) ?_)
    go_ret
    exact ⟨_, rfl, HO.out, HX.out⟩

theorem flat_take {P : List (List Nat)} {k : Nat} (h : k < P.length) : (P.take (k + 1)).flatten = (P.take k).flatten ++ P[k] := by
  rw [List.take_succ_eq_append_getElem h, List.flatten_append]; simp
theorem encN_app (a b : List Nat) : encN (a ++ b) = encN a ++ encN b := by simp [encN]
theorem encN_one (l : List Nat) : ∀ u ∈ encN l, u.oneCell' = true := by
  intro u hu
  simp [encN] at hu
  obtain ⟨x, _, rfl⟩ := hu
  rfl
theorem flat_len (P : List (List Nat)) (h : ∀ p, p ∈ P → p.length ≤ 64) : P.flatten.length ≤ 64 * P.length := by
  induction P with
  | nil => simp
  | cons p P ih =>
    have h1 := h p (by simp)
    have h2 := ih (fun q hq => h q (by simp [hq]))
    simp only [List.flatten_cons, List.length_append, List.length_cons]
    omega
theorem flat_take_len (P : List (List Nat)) (h : ∀ p, p ∈ P → p.length ≤ 64) (k : Nat) : (P.take k).flatten.length ≤ 64 * P.length := by
  exact Nat.le_trans (flat_len (P.take k) (fun p hp => h p (List.mem_of_mem_take hp))) (Nat.mul_le_mul_left _ (by rw [List.length_take]; exact Nat.min_le_right _ _))

/-- Rows of numbers, one behind the other. -/
structure Rows3 (w : World) (g : Nat) (vs : List Value) (P : List (List Nat)) : Prop where
  len : vs.length = P.length
  small : P.length ≤ 8
  blk : Blk w g vs 67
  each : ∀ k (h : k < P.length), ∃ a c, vs[k]? = some (.slice a P[k].length c) ∧ Sl w 1 (.slice a P[k].length c) (encN P[k])
  short : ∀ p, p ∈ P → p.length ≤ 64
theorem concatI_c (w : World) (g : Nat) (vs : List Value) (P : List (List Nat)) (h : Rows3 w g vs P) :
    Calls Try.prog 72 #[.slice (some ⟨g, 0, none⟩) P.length P.length] w (RetN w.heap.size P.flatten w) := by
  have HH := Lib.hid h
  have hsm := h.small
  have CG := Lib.hid (fun (n : Nat) (hn : n ≤ 100000) (w : World) => growI_c n hn w)
  have HFL := Lib.hid (flat_take_len P h.short)
  clear h
  go_enter Try.func72, Try.ntmps72
  go_wp2
  go_loop [3, 11] (fun s i => ∃ k : Nat, k ≤ P.length ∧ i = .int .i64 k ∧ s = .int .i64 (((P.take k).flatten.length : Nat) : Int)) (fun _ i => P.length - (intOf i).toNat)
  case atStart => exact ⟨0, by omega, rfl, rfl⟩
  case round =>
    obtain ⟨k, hk, rfl, rfl⟩ := hrel
    have hf := HFL.out k
    by_cases hlt : k < P.length
    · obtain ⟨a, c, hv, _⟩ := HH.out.each k hlt
      have hc := HH.out.blk.cell k
      rw [hv] at hc
      have hft := Lib.hid (flat_take hlt)
      have hp := HH.out.short _ (List.getElem_mem hlt)
      have i0 : (0 : Int) ≤ (k : Int) := by omega
      have i1 : (k : Int) < (P.length : Int) := by omega
      clear hv
      generalize P[k] = p at *
      have hfl := Lib.hid (show (P.take (k + 1)).flatten.length = (P.take k).flatten.length + p.length by rw [hft.out, List.length_append])
      generalize (P.take k).flatten.length = s at *
      have hs8 : s ≤ 512 := by omega
      go_wp2
      go_round
      case rel => exact ⟨k + 1, by omega, by go_num, by rw [hfl.out]; go_num⟩
      case measure => simp [intOf]; omega
    · obtain rfl : k = P.length := by omega
      rw [List.take_length] at hf ⊢
      have HF2 := Lib.hid hf
      generalize P.flatten.length = s at *
      go_wp2_with (go_at_call 87; refine (CG.out _ (by have := HF2.out; omega) _).mono ?_; rintro e w1 ⟨v0, rfl, hv0, hx0⟩; have HV := Lib.hid hv0; have HX := Lib.hid hx0; clear hv0 hx0)
      go_loopw [6, 27] (fun v i wr => ∃ k : Nat, k ≤ P.length ∧ i = .int .i64 k ∧ Ext [] w wr ∧ wr.ownsRow w.heap.size 3 1 v (P.take k).flatten.length (encN (P.take k).flatten)) (fun _ i _ => P.length - (intOf i).toNat)
      case atStart => exact ⟨0, by omega, rfl, HX.out, by simpa using HV.out⟩
      case round =>
        obtain ⟨k, hk, rfl, hx, ho⟩ := hrel
        have hf := HFL.out k
        have hsz := hx.size
        by_cases hlt : k < P.length
        · obtain ⟨a, c, hv, hs⟩ := HH.out.each k hlt
          have hc := (HH.out.blk.ext hx (by simp)).cell k
          rw [hv] at hc
          have h1 := hs.ext hx (by simp)
          have hft := Lib.hid (flat_take hlt)
          have hp := HH.out.short _ (List.getElem_mem hlt)
          have i0 : (0 : Int) ≤ (k : Int) := by omega
          have i1 : (k : Int) < (P.length : Int) := by omega
          have HXr := Lib.hid hx
          have ho0 := ho
          clear hv hs
          generalize P[k] = p at *
          generalize (P.take k).flatten = q at *
          have hp2 : p.length ≤ 64 := hp
          have hq2 : q.length ≤ 512 := by omega
          have hm1 : p.length ≤ maxLen := by unfold maxLen; omega
          have hm2 : q.length + p.length ≤ maxLen := by unfold maxLen; omega
          go_wp2_with (at_builtin; refine wpList_app (m := p.length) T_int ho h1 rfl rfl rfl rfl (by simp [encN]) (encN_one p) (by first | exact hm2 | (unfold maxLen; omega)) (by omega) (by omega) ?_; intro v' w' hown' hext' hnew')
          go_roundw
          case rel => exact ⟨k + 1, by omega, by go_num, HXr.out.step hext' (fun i hi => .inr (ho0.lt i (of_mem_own hi)).1), by rw [hft.out, List.length_append, encN_app]; exact hown'⟩
          case measure => simp [intOf]; omega
        · obtain rfl : k = P.length := by omega
          rw [List.take_length] at ho
          have HO := Lib.hid ho
          have HXr := Lib.hid hx
          clear ho hx
          go_wp2
          go_ret
          exact ⟨_, rfl, HO.out, HXr.out⟩
end Go.Proofs.Ytkcaheedhbgmnaa
