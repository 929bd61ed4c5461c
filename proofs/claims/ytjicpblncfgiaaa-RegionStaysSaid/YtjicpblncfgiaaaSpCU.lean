/-
  The library's slices.Grow and slices.Concat at elements spans.Span[basin/region.use], as far as they are called: a new row out of two.
-/
import Derived.Test.YtjicpblncfgiaaaSpBU
import Derived.Lib.AppendZeros
namespace Go.Proofs.Ytjicpblncfgiaaa.SpU
open Go.RowKit
set_option maxHeartbeats 1000000
set_option maxRecDepth 10000
set_option linter.unusedVariables false
set_option linter.unusedSimpArgs false
set_option linter.unusedSectionVars false

theorem owns_empty (w : World) {B g cap : Nat} {e : TypeId} {size : Nat} {cur : Array Value} (hB : B ≤ g) (hh : w.heap[g]? = some (.cells cur e (0, 0))) (hc : cap ≤ maxLen) (hs : cur.size = cap * size) : w.ownsRow B e size (.slice (some ⟨g, 0, none⟩) 0 cap) 0 [] :=
  ⟨by simp, .inr ⟨g, cap, cur, rfl, hB, hh, Nat.zero_le _, hc, hs, by simp⟩⟩
theorem zeroCells_size (z : Array Value) (n : Nat) : (Builtin.zeroCells z n).size = n * z.size := by
  unfold Builtin.zeroCells; simp

/-- A new row without elements. -/
def New0 (w : World) (e : Ending) (w' : World) : Prop := ∃ v, e = .returned v ∧ w'.ownsRow w.heap.size 97 5 v 0 [] ∧ Ext [] w w'

theorem grow_c (n : Nat) (hn : n ≤ 100000) (w : World) : Calls Try.prog 81 #[.slice none 0 0, .int .i64 n] w (New0 w) := by
  rcases Nat.eq_zero_or_pos n with rfl | h0
  · go_enter Try.func81, Try.ntmps81
    go_wp2
    go_ret
    exact ⟨_, rfl, World.ownsRow_nil _ _ _ _, Ext.refl _ _⟩
  · have T := T_span
    obtain ⟨i, hi, hz0, hz1, hz2⟩ := info_parts T.info
    have hr := fun ty => Lib.run_append_nil_zeros (P := Try.prog) w 119 3 ty 97 i _ .i64 .i64 T.und Try.underlying3 hi hz0 n h0 (by rw [hz1]; decide) (by omega) (by rw [hz2]; omega)
    have hge := grownCap_ge w n 0 97
    have hle := grownCap_le_maxLen w n 0 97 (by unfold maxLen; omega)
    have hblk : (w.drew.alloc (.cells (Builtin.zeroCells (.agg #[.int .i64 0, .int .i64 0, .int .i64 0, .int .i64 0, .int .i64 0] : Value).cells n ++ Builtin.zeroCells (.agg #[.int .i64 0, .int .i64 0, .int .i64 0, .int .i64 0, .int .i64 0] : Value).cells (grownCap w n 0 97 - n)) 97)).heap[w.heap.size]? = some (.cells (Builtin.zeroCells (.agg #[.int .i64 0, .int .i64 0, .int .i64 0, .int .i64 0, .int .i64 0] : Value).cells n ++ Builtin.zeroCells (.agg #[.int .i64 0, .int .i64 0, .int .i64 0, .int .i64 0, .int .i64 0] : Value).cells (grownCap w n 0 97 - n)) 97 (0, 0)) := World.alloc_heap_new w.drew _
    have hsz : (Builtin.zeroCells (.agg #[.int .i64 0, .int .i64 0, .int .i64 0, .int .i64 0, .int .i64 0] : Value).cells n ++ Builtin.zeroCells (.agg #[.int .i64 0, .int .i64 0, .int .i64 0, .int .i64 0, .int .i64 0] : Value).cells (grownCap w n 0 97 - n)).size = grownCap w n 0 97 * 5 := by
      rw [Array.size_append, zeroCells_size, zeroCells_size, T.cells]; omega
    have hx : Ext [] w (w.drew.alloc (.cells (Builtin.zeroCells (.agg #[.int .i64 0, .int .i64 0, .int .i64 0, .int .i64 0, .int .i64 0] : Value).cells n ++ Builtin.zeroCells (.agg #[.int .i64 0, .int .i64 0, .int .i64 0, .int .i64 0, .int .i64 0] : Value).cells (grownCap w n 0 97 - n)) 97)) := (Ext.refl _ _).drew.alloc _
    have HO := Lib.hid (owns_empty _ (Nat.le_refl _) hblk hle hsz)
    have HX := Lib.hid hx
    have HR := Lib.hid hr
    clear hblk hsz hx hr hi hz0 hz1 hz2 T
    generalize (w.drew.alloc (.cells (Builtin.zeroCells (.agg #[.int .i64 0, .int .i64 0, .int .i64 0, .int .i64 0, .int .i64 0] : Value).cells n ++ Builtin.zeroCells (.agg #[.int .i64 0, .int .i64 0, .int .i64 0, .int .i64 0, .int .i64 0] : Value).cells (grownCap w n 0 97 - n)) 97)) = w2 at *
    generalize grownCap w n 0 97 = cap at *
    unfold maxLen at hle
    go_enter Try.func81, Try.ntmps81
    go_wp2_with (at_builtin; refine Lib.wpList_append_run _ rfl _ _ _ _ rfl _ _ rfl rfl _ _ (HR.out _) ?_)
    go_ret
    exact ⟨_, rfl, HO.out, HX.out⟩

/-- A new row of both. -/
def Cat2 (w : World) (n : Nat) (xs : List Value) (e : Ending) (w' : World) : Prop := ∃ v, e = .returned v ∧ w'.ownsRow w.heap.size 97 5 v n xs ∧ Ext [] w w'

theorem concat_c (w : World) (g : Nat) (a1 a2 : Option Addr) (n1 c1 n2 c2 : Nat) (x1 x2 : List Value) (hb : Blk w g [.slice a1 n1 c1, .slice a2 n2 c2] 119)
    (h1 : Sl w 5 (.slice a1 n1 c1) x1) (h2 : Sl w 5 (.slice a2 n2 c2) x2) (l1 : x1.length = n1 * 5) (l2 : x2.length = n2 * 5) (o1 : ∀ u ∈ x1, u.oneCell' = true) (o2 : ∀ u ∈ x2, u.oneCell' = true) (hn1 : n1 ≤ 40000) (hn2 : n2 ≤ 40000) :
    Calls Try.prog 78 #[.slice (some ⟨g, 0, none⟩) 2 2] w (Cat2 w (n1 + n2) (x1 ++ x2)) := by
  have k0 := hb.cell 0
  have k1 := hb.cell 1
  have H1 := Lib.hid h1
  have H2 := Lib.hid h2
  have HB := Lib.hid hb
  have O1 := Lib.hid o1
  have O2 := Lib.hid o2
  have L1 := Lib.hid l1
  have L2 := Lib.hid l2
  have CG := Lib.hid (fun (n : Nat) (hn : n ≤ 100000) (w : World) => grow_c n hn w)
  clear h1 h2 hb o1 o2 l1 l2
  go_enter Try.func78, Try.ntmps78
  go_wp2
  go_loop [3, 11] (fun s i => ∃ k : Nat, k ≤ 2 ∧ i = .int .i64 k ∧ s = .int .i64 ((if k = 0 then 0 else if k = 1 then n1 else n1 + n2 : Nat) : Int)) (fun _ i => 2 - (intOf i).toNat)
  case atStart => exact ⟨0, by omega, rfl, rfl⟩
  case round =>
    obtain ⟨k, hk, rfl, rfl⟩ := hrel
    obtain rfl | rfl | rfl : k = 0 ∨ k = 1 ∨ k = 2 := by omega
    · go_wp2
      go_round
      case rel => exact ⟨1, by omega, rfl, by simp⟩
      case measure => simp [intOf]
    · go_wp2
      go_round
      case rel => exact ⟨2, by omega, rfl, by simp⟩
      case measure => simp [intOf]
    · have e2 : ((if 2 = 0 then 0 else if 2 = 1 then n1 else n1 + n2 : Nat) : Int) = ((n1 + n2 : Nat) : Int) := by simp
      rw [e2]
      generalize hs : n1 + n2 = s at *
      have hsb : s ≤ 80000 := by omega
      go_wp2_with (go_at_call 81; refine (CG.out s (by omega) _).mono ?_; rintro e w1 ⟨v0, rfl, hv0, hx0⟩; have HV := Lib.hid hv0; have HX := Lib.hid hx0; clear hv0 hx0 k0 k1)
      clear e2
      have HS := Lib.hid hs
      clear hs
      go_loopw [6, 27] (fun v i wr => ∃ k : Nat, k ≤ 2 ∧ i = .int .i64 k ∧ Ext [] w wr ∧ wr.ownsRow w.heap.size 97 5 v (if k = 0 then 0 else if k = 1 then n1 else s) (if k = 0 then [] else if k = 1 then x1 else x1 ++ x2)) (fun _ i _ => 2 - (intOf i).toNat)
      case atStart => exact ⟨0, by omega, rfl, HX.out, by simpa using HV.out⟩
      case round =>
        obtain ⟨k, hk, rfl, hx, ho⟩ := hrel
        have hsz := hx.size
        have HXr := Lib.hid hx
        have k0 := (HB.out.ext hx (by simp)).cell 0
        have k1 := (HB.out.ext hx (by simp)).cell 1
        have h1 := H1.out.ext hx (by simp)
        have h2 := H2.out.ext hx (by simp)
        have l1 := L1.out
        have l2 := L2.out
        have o1 := O1.out
        have o2 := O2.out
        have hs := HS.out
        obtain rfl | rfl | rfl : k = 0 ∨ k = 1 ∨ k = 2 := by omega
        · have ho : wr.ownsRow w.heap.size 97 5 _ 0 [] := ho
          go_wp2_with (at_builtin; refine wpList_app T_span ho h1 rfl rfl rfl rfl l1 o1 (by unfold maxLen; omega) (by omega) (by omega) ?_; intro v' w' hown' hext' hnew')
          go_roundw
          case rel => exact ⟨1, by omega, rfl, hx.step hext' (fun i hi => .inr (ho.lt i (of_mem_own hi)).1), by simpa using hown'⟩
          case measure => simp [intOf]
        · have ho : wr.ownsRow w.heap.size 97 5 _ n1 x1 := ho
          go_wp2_with (at_builtin; refine wpList_app T_span ho h2 rfl rfl rfl rfl l2 o2 (by unfold maxLen; omega) (by omega) (by omega) ?_; intro v' w' hown' hext' hnew')
          go_roundw
          case rel => exact ⟨2, by omega, rfl, hx.step hext' (fun i hi => .inr (ho.lt i (of_mem_own hi)).1), by rw [← hs]; simpa using hown'⟩
          case measure => simp [intOf]
        · have ho' : wr.ownsRow w.heap.size 97 5 _ s (x1 ++ x2) := ho
          clear h1 h2 l1 l2 o1 o2 hs ho
          go_wp2
          go_ret
          exact ⟨_, rfl, ho', HXr.out⟩

end Go.Proofs.Ytjicpblncfgiaaa.SpU
