/-
  Walks over package addr: masks.
-/
import Derived.Test.YtemmoabhlfbfcaaRows
import Derived.Test.YtemmoabhlfbfcaaBase
namespace Go.Proofs.Ytemmoabhlfbfcaa
set_option linter.unusedVariables false
set_option linter.unusedSimpArgs false
open Go.RowKit
set_option maxHeartbeats 400000
/-- Has a mask this bit, as the walk writes it. -/
def bitB (mask : Int) (k : Nat) : Bool := bits BinOp.and IntKind.i64 (mask / 2 ^ k) 1 == 1
def ints (l : List Nat) : List (Array Value) := l.map fun x => #[.int .i64 ((x : Nat) : Int)]

theorem nodes1 (B : Nat) (mask : Int) (w0 : World) (hB : Blk w0 B [.int .i64 mask] 3)  :
    Iter Try.prog 47 #[.pointer (some ⟨B, 0, none⟩)] [B] (ints (upto (bitB mask) 8)) w0 := by
  intro n l M J Jx W hn hs hK hM fJ fJx hY h0
  refine callsIn_of_wp Try.func47 rfl trivial ?_ rfl
  simp only [Try.ntmps47, List.size_toArray, List.length_cons, List.length_nil, Nat.reduceAdd, Nat.reduceSub, Array.replicate_succ, Array.replicate_zero, List.push_toArray, List.append_toArray, List.nil_append, List.cons_append]
  gi_wp2
  gi_loopw [4] (fun v wr => ∃ (k : Nat) (X : List Nat), k ≤ 8 ∧ v = .int .i64 k ∧ J (upto (bitB mask) k).length X wr ∧ Ext M W wr ∧ (∀ b, b ∈ X → W.heap.size ≤ b ∧ b < wr.heap.size)) (fun v _ => 8 - (intOf v).toNat)
  case atStart => exact ⟨0, [], by omega, rfl, by simpa [upto] using h0, Ext.refl _ _, by simp⟩
  case round =>
    obtain ⟨k, X, hk, rfl, hJ, hx, hX⟩ := hrel
    have hKB := hK B (by simp)
    have hMB : B ∉ M := fun h => (hM B h).1 (by simp)
    have hc : wr.cell? ⟨B, 0, none⟩ = some (.int .i64 mask) := by
      rw [hx.cell (p := ⟨B, 0, none⟩) (by have := hKB.1; show B < _; omega) hMB, World.cell?_of_block (w := w0) hKB.2]; exact hB.cell 0
    by_cases hlt : k < 8
    · by_cases hp : bitB mask k = true
      · obtain ⟨fn, tmps, assign, body, hy, hR⟩ := yield_at (a := #[.int .i64 k]) (by unfold ints; rw [List.getElem?_map, upto_at _ hp hlt]; rfl) (fun h => hY (upto (bitB mask) k).length h X wr hJ hx hX)
        have hpb : (bits BinOp.and IntKind.i64 (mask / 2 ^ k) 1 == 1) = true := hp
        clear hK hM fJ fJx hJ hY
        gi_wp2
        refine hR.mono ?_
        clear hR hy
        have hu := upto_succ (bitB mask) k
        rw [if_pos hp] at hu
        have Hu := Lib.hid hu
        have Hp := Lib.hid hp
        clear hu hp hpb
        rintro e W' ⟨hx', X', hX', (⟨rfl, hJ'⟩ | ⟨rfl, hJ'⟩)⟩
        · gi_wp2
          go_roundw
          case rel => exact ⟨k + 1, X', by omega, by go_num, by rw [Hu.out]; simpa using hJ', hx.step hx' (fun b hb => by rcases List.mem_append.1 hb with h | h; exact .inl h; exact .inr (hX b h).1),
            fun b hb => ⟨by rcases (hX' b hb).1 with h | h; exact (hX b h).1; have := hx.size; omega, (hX' b hb).2⟩⟩
          case measure => simp [intOf]; omega
        · gi_wp2
          refine bodyPost_ret (results_none rfl _ _ _) rfl ?_
          exact ⟨⟨_, rfl⟩, hx.step hx' (fun b hb => by rcases List.mem_append.1 hb with h | h; exact .inl h; exact .inr (hX b h).1), X',
            fun b hb => ⟨by rcases (hX' b hb).1 with h | h; exact (hX b h).1; have := hx.size; omega, (hX' b hb).2⟩, .inr ⟨_, by have := upto_len (bitB mask) (j := k + 1) (k := 8) (by omega); rw [Hu.out] at this; simpa [ints] using this, hJ'⟩⟩
      · have hpb : (bits BinOp.and IntKind.i64 (mask / 2 ^ k) 1 == 1) = false := by simpa [bitB] using hp
        have hu := upto_succ (bitB mask) k
        rw [if_neg hp] at hu
        have Hu := Lib.hid hu
        clear hp hu hK hM fJ fJx hY
        gi_wp2
        go_roundw
        case rel => exact ⟨k + 1, X, by omega, by go_num, by rw [Hu.out]; exact hJ, hx, hX⟩
        case measure => simp [intOf]; omega
    · have hk8 : k = 8 := by omega
      subst hk8
      clear hK hM fJ fJx hY
      gi_wp2
      go_end0
      exact ⟨⟨_, rfl⟩, hx, X, hX, .inl (by simpa [ints] using hJ)⟩

theorem nodes_c (mask : Int) (w : World) :
    Calls Try.prog 18 #[.int .i64 mask] w fun e w' => e = .returned (.func (.func 47) #[] #[.pointer (some ⟨w.heap.size, 0, none⟩)]) ∧ w' = w.alloc (.cells #[.int .i64 mask] 3) := by
  go_enter Try.func18, Try.ntmps18
  go_wp2
  go_ret
  exact ⟨rfl, rfl⟩

theorem nodes_it (mask : Int) (w : World) : Iter Try.prog 47 #[.pointer (some ⟨w.heap.size, 0, none⟩)] [w.heap.size] (ints (upto (bitB mask) 8)) (w.alloc (.cells #[.int .i64 mask] 3)) :=
  nodes1 w.heap.size mask _ (Blk.new w [.int .i64 mask] 3)

theorem upto_le (p : Nat → Bool) (k : Nat) : (upto p k).length ≤ k := by
  have := List.length_filter_le p (List.range k); simpa [upto] using this

theorem count_c (mask : Int) (w : World) :
    Calls Try.prog 19 #[.int .i64 mask] w fun e w' => e = .returned (.int .i64 ((upto (bitB mask) 8).length : Nat)) ∧ Ext [] w w' := by
  refine calls_of_callsIn 1000 ?_
  refine callsIn_of_wp_marks Try.func19 rfl trivial ?_ rfl
  simp only [Try.ntmps19, List.size_toArray, List.length_cons, List.length_nil, Nat.reduceAdd, Nat.reduceSub, Array.replicate_succ, Array.replicate_zero, List.push_toArray, List.append_toArray, List.nil_append, List.cons_append]
  gi_wp2_with (gi_at_call 18; refine (callsIn_of_calls (nodes_c _ _)).mono ?_; rintro e w' ⟨rfl, rfl⟩)
  have hit := nodes_it mask (w.alloc (Obj.cells #[Value.int IntKind.i64 0] 3))
  have hbn := (Blk.new w [.int .i64 0] 3).alloc (Obj.cells #[Value.int IntKind.i64 mask] 3)
  have hx0 : Ext [] w ((w.alloc (Obj.cells #[Value.int IntKind.i64 0] 3)).alloc (Obj.cells #[Value.int IntKind.i64 mask] 3)) := ((Ext.refl _ _).alloc _).alloc _
  simp only [World.size_alloc] at hit
  generalize hw1 : (w.alloc (Obj.cells #[Value.int IntKind.i64 0] 3)).alloc (Obj.cells #[Value.int IntKind.i64 mask] 3) = w1 at *
  have hs1 : w1.heap.size = w.heap.size + 2 := by rw [← hw1]; simp
  clear hw1
  have Hs1 := Lib.hid hs1
  clear hs1
  have hlen : (ints (upto (bitB mask) 8)).length ≤ 8 := by have := upto_le (bitB mask) 8; simpa [ints] using this
  refine wpIn_range (by omega) rfl (Go.Proofs.enters_of Try.func47 (by kernel_rfl) rfl) hit (by simp [ints]) [w.heap.size] (fun i _ W => Blk W w.heap.size [.int .i64 (i : Nat)] 3) (fun _ _ _ _ => False)
    (blk_foot (by simp)) no_foot ?hM (Nat.le_refl _) ?hK hbn ?round ?done ?stop
  case hM => intro b hb; have := Hs1.out; simp at hb ⊢; omega
  case hK => intro b hb; have := Hs1.out; simp at hb ⊢; omega
  case stop => intro D c i X W _ _ _ h; exact h.elim
  case round =>
    intro l i hi X W hI hx hX hl hlW
    refine wpIn_skip ?_
    refine ⟨Ext.refl _ _, fun W₂ r hx2 hs2 hr => ?_⟩
    have hne : w.heap.size ≠ l := by have := Hs1.out; omega
    have hb2 := hI.ext hx2 (by simpa using hne)
    have hc := hb2.cell 0
    have hf := hb2.frozen 0
    simp only [ints, List.getElem_map]
    gi_wp2
    exact ⟨X, RoundEnd.of (Ext.refl _ _) hx2 hr ((Ext.refl [w.heap.size] W₂).setCell _ _ (.inl (by simp))) (fun k hk => by simp at hk ⊢; subst hk; exact ⟨.inl rfl, hne⟩) (fun b hb => ⟨.inl hb, by have := (hX b hb).2.1; simp [World.setCell]; omega⟩),
      by have := hb2.set 0 (.int .i64 ((i + 1 : Nat) : Int)); simpa using this⟩
  case done =>
    intro D X W hD hE hI hx hX
    have hc := hI.cell 0
    gi_wp2
    refine leaves_marks [D] _ (by simpa using hE) (by simp) (fun w' hx' hs' => ⟨_, results_tmp rfl _ _ _, by simp [ints], ?_⟩)
    refine (hx0.step hx (fun i hi => .inr (by simp at hi; omega))).step hx' (fun i hi => .inr ?_)
    have := Hs1.out; simp at hi; omega

theorem is_c (a : Int) (w : World) : Calls Try.prog 48 #[.int .i64 a] w fun e w' => e = .returned (.bool (decide (0 ≤ a) && decide (a < 4096))) ∧ w = w' := by
  go_enter Try.func48, Try.ntmps48
  by_cases h : 0 ≤ a <;> go_wp2 <;> go_ret <;> exact ⟨by simp [h]; try omega, rfl⟩

end Go.Proofs.Ytemmoabhlfbfcaa
