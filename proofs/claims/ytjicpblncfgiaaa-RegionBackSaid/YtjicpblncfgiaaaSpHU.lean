/-
  Spans of values (basin/region.use): the iterator All.
-/
import Derived.Test.YtjicpblncfgiaaaSpFU
namespace Go.Proofs.Ytjicpblncfgiaaa.SpU
open Go.RowKit SpT
set_option maxHeartbeats 2000000
set_option maxRecDepth 10000
set_option linter.unusedVariables false
set_option linter.unusedSimpArgs false
set_option linter.unusedSectionVars false

/-- What All yields. -/
def vals (l : List Spn) : List (Array Value) := l.map fun x => #[.agg (cells x).toArray]

theorem all1 (Bm bm : Nat) (v b : Value) (L : List Spn) (w0 : World) (h0 : Blk w0 Bm [.pointer (some ⟨bm, 0, none⟩)] 51) (h1 : Blk w0 bm [v, b] 121) (h2 : SRow w0 0 v L) (hL : L.length ≤ 4096) :
    Iter Try.prog 73 #[.pointer (some ⟨Bm, 0, none⟩)] (Bm :: bm :: own v) (vals L) w0 := by
  obtain ⟨va, vc, rfl, hvc, hvm⟩ := ownsRow_form h2
  intro n l M J Jx W hn hs hK hM fJ fJx hY hj0
  refine callsIn_of_wp Try.func73 rfl trivial ?_ rfl
  simp only [Try.ntmps73, List.size_toArray, List.length_cons, List.length_nil, Nat.reduceAdd, Nat.reduceSub, Array.replicate_succ, Array.replicate_zero, List.push_toArray, List.append_toArray, List.nil_append, List.cons_append]
  have c0 := ((It.refl M W).blk hK hM (by simp) h0).cell 0
  have c1 := ((It.refl M W).blk hK hM (by simp) h1).cell 0
  have hrow := fun X wr (h : It M X W wr) => ownsRow_of_block h2 (w' := wr) (fun b hb => by
    have hm : b ∈ Bm :: bm :: own (Value.slice va L.length vc) := by simp [own, hb]
    rw [h.ext.block b (by have := (hK b hm).1; omega) (fun hm' => (hM b hm').1 hm)]; exact (hK b hm).2)
  have HR := Lib.hid hrow
  have HF := Lib.hid fJ
  have HY := Lib.hid hY
  have hlen : (vals L).length = L.length := by simp [vals]
  have HL := Lib.hid hlen
  clear h0 h1 h2 hK hM fJ fJx hY hrow hlen
  gi_wp2
  gi_loopw [12] (fun i wr => ∃ (k : Nat) (X : List Nat), k ≤ L.length ∧ i = .int .i64 k ∧ J k X wr ∧ It M X W wr) (fun i _ => L.length - (intOf i).toNat)
  case atStart => exact ⟨0, [], by omega, rfl, hj0, It.refl _ _⟩
  case round =>
    obtain ⟨k, X, hk, rfl, hJ, hit⟩ := hrel
    by_cases hlt : k < L.length
    · obtain ⟨m, hm⟩ : ∃ m, L.length = m + 1 := ⟨L.length - 1, by omega⟩
      have hR1 := HR.out _ _ hit
      have hR1' := hR1
      rw [hm] at hR1'
      obtain ⟨g, cap, he⟩ := ownsRow_succ hR1'
      injection he with he1 he2 he3
      subst he1 he3
      have hcell : ∀ j, j < 5 → wr.cell? ⟨g, k * 5 + j, none⟩ = (cells L[k])[j]? := fun j hj => by
        have h1 := hR1.cellAt (k * 5 + j) (by rw [hm]; omega)
        rw [encS_at hlt hj] at h1; exact h1
      obtain ⟨x, hxd⟩ : ∃ x, x = L[k] := ⟨_, rfl⟩
      rw [← hxd] at hcell
      have hc0 : wr.cell? ⟨g, k * 5, none⟩ = _ := hcell 0 (by omega)
      have hc1 := hcell 1 (by omega)
      have hc2 := hcell 2 (by omega)
      have hc3 := hcell 3 (by omega)
      have hc4 := hcell 4 (by omega)
      have hat : (vals L)[k]? = some #[.agg (cells x).toArray] := by simp [vals, hxd, hlt]
      have hi0 : (0 : Int) ≤ (k : Int) := by omega
      have hi1 : (k : Int) < (L.length : Int) := by omega
      obtain ⟨xf, xt, xv⟩ := x
      unfold cells at hc0 hc1 hat
      unfold cells at hc2
      unfold cells at hc3
      unfold cells at hc4
      have hit2 := hit.step (D := []) ((Ext.refl [] wr).alloc (.cells #[.int .i64 (xf : Int), .int .i64 (xt : Int), .int .i64 (xv).1, .int .i64 (xv).2.1, .int .i64 (xv).2.2] 97)) (by simp)
      have hJ2 := HF.out k X wr (wr.alloc (.cells #[.int .i64 (xf : Int), .int .i64 (xt : Int), .int .i64 (xv).1, .int .i64 (xv).2.1, .int .i64 (xv).2.2] 97)) hJ (fun b _ hb => Below.heap_alloc _ _ _ hb)
      obtain ⟨fn, tmps, assign, body, hy, hR⟩ := yield_at hat (fun h => HY.out _ h X _ hJ2 hit2.ext hit2.new)
      clear hcell hxd hR1 hR1' hat hJ hJ2 hm c0 c1
      gi_wp2
      refine hR.mono ?_
      clear hR hy
      rintro e W' ⟨hx', X', hX', (⟨rfl, hJ'⟩ | ⟨rfl, hJ'⟩)⟩
      · gi_wp2
        go_roundw
        case rel => exact ⟨k + 1, X', by omega, by go_num, hJ', hit2.yield hx' hX'⟩
        case measure => simp [intOf]; omega
      · gi_wp2
        refine bodyPost_ret (results_none rfl _ _ _) rfl ?_
        exact ⟨⟨_, rfl⟩, (hit2.yield hx' hX').ext, X', (hit2.yield hx' hX').new, .inr ⟨k + 1, by have := HL.out; omega, hJ'⟩⟩
    · obtain rfl : k = L.length := by omega
      clear c0 c1
      gi_wp2
      go_end0
      exact ⟨⟨_, rfl⟩, hit.ext, X, hit.new, .inl (by rw [HL.out]; exact hJ)⟩

theorem all1_nil (Bm : Nat) (w0 : World) (h0 : Blk w0 Bm [.pointer none] 51) : Iter Try.prog 73 #[.pointer (some ⟨Bm, 0, none⟩)] [Bm] [] w0 := by
  intro n l M J Jx W hn hs hK hM fJ fJx hY hj0
  refine callsIn_of_wp Try.func73 rfl trivial ?_ rfl
  simp only [Try.ntmps73, List.size_toArray, List.length_cons, List.length_nil, Nat.reduceAdd, Nat.reduceSub, Array.replicate_succ, Array.replicate_zero, List.push_toArray, List.append_toArray, List.nil_append, List.cons_append]
  have c0 := ((It.refl M W).blk hK hM (by simp) h0).cell 0
  clear hK hM fJ fJx hY
  gi_wp2
  refine bodyPost_ret (results_none rfl _ _ _) rfl ?_
  exact ⟨⟨_, rfl⟩, Ext.refl _ _, [], by simp, .inl hj0⟩

theorem all_c (m : Option Addr) (w : World) : Calls Try.prog 60 #[.pointer m] w fun e w' => e = .returned (.func (.func 73) #[] #[.pointer (some ⟨w.heap.size, 0, none⟩)]) ∧ w' = w.alloc (.cells #[.pointer m] 51) := by
  go_enter Try.func60, Try.ntmps60
  go_wp2
  go_ret
  exact ⟨rfl, rfl⟩

/-- What All goes through, of a map (p; nil, not made, or made), that leans on the blocks Kq. -/
structure AllIs (w0 : World) (p : Option Addr) (Kq : List Nat) (L : List Spn) : Prop where
  lt : ∀ b, b ∈ Kq → b < w0.heap.size
  le : L.length ≤ 4096
  it : ∀ w' Bq, (∀ b, b ∈ Kq → w'.heap[b]? = w0.heap[b]?) → Blk w' Bq [.pointer p] 51 → Iter Try.prog 73 #[.pointer (some ⟨Bq, 0, none⟩)] (Bq :: Kq) (vals L) w'
theorem AllIs.later {w w' : World} {p : Option Addr} {Kq : List Nat} {L : List Spn} (h : AllIs w p Kq L) (hx : ∀ b, b ∈ Kq → w'.heap[b]? = w.heap[b]?) (hs : w.heap.size ≤ w'.heap.size) : AllIs w' p Kq L :=
  ⟨fun b hb => Nat.lt_of_lt_of_le (h.lt b hb) hs, h.le, fun w2 Bq h2 hb => h.it w2 Bq (fun b hb => (h2 b hb).trans (hx b hb)) hb⟩
theorem AllIs.ext {M : List Nat} {w w' : World} {p : Option Addr} {Kq : List Nat} {L : List Spn} (h : AllIs w p Kq L) (hx : Ext M w w') (hM : ∀ b, b ∈ M → b ∉ Kq) : AllIs w' p Kq L :=
  h.later (fun b hb => hx.block b (h.lt b hb) (fun hm => hM b hm hb)) hx.size
theorem AllIs.nil (w : World) : AllIs w none [] [] := ⟨by simp, by simp, fun w' Bq _ hb => all1_nil Bq w' hb⟩
theorem AllIs.raw {w : World} {bm : Nat} {v b : Value} {L : List Spn} (h1 : Blk w bm [v, b] 121) (h2 : SRow w 0 v L) (hL : L.length ≤ 4096) : AllIs w (some ⟨bm, 0, none⟩) (bm :: own v) L := by
  refine ⟨fun q hq => ?_, hL, fun w' Bq hk hb => ?_⟩
  · rcases List.mem_cons.1 hq with rfl | hq
    · exact h1.lt
    · exact (h2.lt q (of_mem_own hq)).2
  · exact all1 Bq bm v b L w' hb ((hk bm (by simp)).trans h1) (ownsRow_of_block h2 (fun q hq => hk q (by simp [own, hq]))) hL
/-- The blocks that a map leans on. -/
theorem MapIs.all {w : World} {bm : Nat} {l : List Spn} (h : MapIs w bm l) (hl : l.length ≤ 4096) : ∃ Kq, AllIs w (some ⟨bm, 0, none⟩) Kq l := by
  obtain ⟨v, h1, h2⟩ := h
  exact ⟨_, AllIs.raw h1 h2 hl⟩

end Go.Proofs.Ytjicpblncfgiaaa.SpU
