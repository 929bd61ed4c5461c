/-
  Buddy's law: BuddyNobody.
-/
import Derived.Test.YtkpnmknkimlnaaaBlC
namespace Go.Proofs.Ytkpnmknkimlnaaa
set_option linter.unusedVariables false
set_option linter.unusedSimpArgs false
open Go.RowKit BuT
set_option maxHeartbeats 4000000
set_option maxRecDepth 100000
set_option linter.unusedVariables false
set_option linter.unusedSimpArgs false

theorem NoB.lt {w : World} {v : Value} {K : List Nat} (h : NoB w v K) : ∀ b, b ∈ K → b < w.heap.size := by
  rcases h with ⟨-, rfl⟩ | ⟨bp, -, rfl, hb⟩
  · simp
  · intro b hb'; have := hb.lt; simp at hb'; omega
theorem NoB.left_ (w : World) (p : Option Addr) (K : List Nat) (h : NoB w (.pointer p) K) :
    Calls Try.prog 32 #[.pointer p] w fun e w' => e = .returned (.int .i64 (0)) ∧ Ext [] w w' := by
  refine calls_of_callsIn 1000 ?_
  refine callsIn_of_wp_marks Try.func32 rfl trivial ?_ rfl
  simp only [Try.ntmps32, List.size_toArray, List.length_cons, List.length_nil, Nat.reduceAdd, Nat.reduceSub, Array.replicate_succ, Array.replicate_zero, List.push_toArray, List.append_toArray, List.nil_append, List.cons_append]
  gi_wp2_with (gi_at_call 63; refine (callsIn_of_calls (Bud.blocks_ _)).mono ?_; rintro e w' ⟨rfl, rfl⟩)
  have hbn := ((Blk.new w [.int .i64 (0)] 3).alloc (.cells #[.pointer p] 58)).alloc (.cells #[.int .i64 1] 3)
  have hb1 := (Blk.new (w.alloc (Obj.cells #[Value.int IntKind.i64 (0)] 3)) [.pointer p] 58).alloc (.cells #[.int .i64 1] 3)
  have hx0 : Ext [] w (((w.alloc (Obj.cells #[Value.int IntKind.i64 (0)] 3)).alloc (.cells #[.pointer p] 58)).alloc (.cells #[.int .i64 1] 3)) := (((Ext.refl _ _).alloc _).alloc _).alloc _
  have hit := NoB.it _ (w.heap.size + 1 + 1) (.pointer p) K 1 _ hb1 (h.ext hx0)
  have hlt := h.lt
  simp only [World.size_alloc] at hit
  generalize hw1 : (((w.alloc (Obj.cells #[Value.int IntKind.i64 (0)] 3)).alloc (.cells #[.pointer p] 58)).alloc (.cells #[.int .i64 1] 3)) = w1 at *
  have hs1 : w1.heap.size = w.heap.size + 3 := by rw [← hw1]; simp
  clear hw1 hb1
  have Hs1 := Lib.hid hs1
  have HLT := Lib.hid hlt
  clear hs1 hlt h
  refine wpIn_range (by omega) rfl (Go.Proofs.enters_of Try.func74 (by kernel_rfl) rfl) hit (by simp) [w.heap.size] (fun i _ W => Blk W w.heap.size [.int .i64 (0)] 3) (fun _ _ _ _ => False)
    (blk_foot (by simp)) no_foot ?hM (Nat.le_refl _) ?hK hbn ?round ?done ?stop
  case hM =>
    intro b hb
    have := Hs1.out
    obtain rfl : b = w.heap.size := by simpa using hb
    refine ⟨by omega, fun hm => ?_⟩
    rcases List.mem_cons.1 hm with e | hm
    · omega
    · have := HLT.out _ hm; omega
  case hK =>
    intro b hb
    have := Hs1.out
    rcases List.mem_cons.1 hb with rfl | hm
    · exact ⟨by omega, rfl⟩
    · have := HLT.out _ hm; exact ⟨by omega, rfl⟩
  case stop => intro D c i X W _ _ _ h; exact h.elim
  case round => intro l i hi; exact absurd hi (by simp)
  case done =>
    intro D X W hD hE hI hx hX
    have hc := hI.cell 0
    clear hbn hit
    gi_wp2
    refine leaves_marks [D] _ (by simpa using hE) (by simp) (fun w' hx' hs' => ⟨_, results_tmp rfl _ _ _, rfl, ?_⟩)
    refine (hx0.step hx (fun i hi => .inr (by simp at hi; omega))).step hx' (fun i hi => .inr ?_)
    have := Hs1.out; simp at hi; omega
theorem NoB.most_ (w : World) (p : Option Addr) (K : List Nat) (h : NoB w (.pointer p) K) :
    Calls Try.prog 35 #[.pointer p] w fun e w' => e = .returned (.int .i64 (-1)) ∧ Ext [] w w' := by
  refine calls_of_callsIn 1000 ?_
  refine callsIn_of_wp_marks Try.func35 rfl trivial ?_ rfl
  simp only [Try.ntmps35, List.size_toArray, List.length_cons, List.length_nil, Nat.reduceAdd, Nat.reduceSub, Array.replicate_succ, Array.replicate_zero, List.push_toArray, List.append_toArray, List.nil_append, List.cons_append]
  gi_wp2_with (gi_at_call 63; refine (callsIn_of_calls (Bud.blocks_ _)).mono ?_; rintro e w' ⟨rfl, rfl⟩)
  have hbn := ((Blk.new w [.int .i64 (-1)] 3).alloc (.cells #[.pointer p] 58)).alloc (.cells #[.int .i64 1] 3)
  have hb1 := (Blk.new (w.alloc (Obj.cells #[Value.int IntKind.i64 (-1)] 3)) [.pointer p] 58).alloc (.cells #[.int .i64 1] 3)
  have hx0 : Ext [] w (((w.alloc (Obj.cells #[Value.int IntKind.i64 (-1)] 3)).alloc (.cells #[.pointer p] 58)).alloc (.cells #[.int .i64 1] 3)) := (((Ext.refl _ _).alloc _).alloc _).alloc _
  have hit := NoB.it _ (w.heap.size + 1 + 1) (.pointer p) K 1 _ hb1 (h.ext hx0)
  have hlt := h.lt
  simp only [World.size_alloc] at hit
  generalize hw1 : (((w.alloc (Obj.cells #[Value.int IntKind.i64 (-1)] 3)).alloc (.cells #[.pointer p] 58)).alloc (.cells #[.int .i64 1] 3)) = w1 at *
  have hs1 : w1.heap.size = w.heap.size + 3 := by rw [← hw1]; simp
  clear hw1 hb1
  have Hs1 := Lib.hid hs1
  have HLT := Lib.hid hlt
  clear hs1 hlt h
  refine wpIn_range (by omega) rfl (Go.Proofs.enters_of Try.func74 (by kernel_rfl) rfl) hit (by simp) [w.heap.size] (fun i _ W => Blk W w.heap.size [.int .i64 (-1)] 3) (fun _ _ _ _ => False)
    (blk_foot (by simp)) no_foot ?hM (Nat.le_refl _) ?hK hbn ?round ?done ?stop
  case hM =>
    intro b hb
    have := Hs1.out
    obtain rfl : b = w.heap.size := by simpa using hb
    refine ⟨by omega, fun hm => ?_⟩
    rcases List.mem_cons.1 hm with e | hm
    · omega
    · have := HLT.out _ hm; omega
  case hK =>
    intro b hb
    have := Hs1.out
    rcases List.mem_cons.1 hb with rfl | hm
    · exact ⟨by omega, rfl⟩
    · have := HLT.out _ hm; exact ⟨by omega, rfl⟩
  case stop => intro D c i X W _ _ _ h; exact h.elim
  case round => intro l i hi; exact absurd hi (by simp)
  case done =>
    intro D X W hD hE hI hx hX
    have hc := hI.cell 0
    clear hbn hit
    gi_wp2
    refine leaves_marks [D] _ (by simpa using hE) (by simp) (fun w' hx' hs' => ⟨_, results_tmp rfl _ _ _, rfl, ?_⟩)
    refine (hx0.step hx (fun i hi => .inr (by simp at hi; omega))).step hx' (fun i hi => .inr ?_)
    have := Hs1.out; simp at hi; omega
end Go.Proofs.Ytkpnmknkimlnaaa
