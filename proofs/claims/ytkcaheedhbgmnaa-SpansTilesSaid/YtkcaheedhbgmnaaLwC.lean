/-
  Spans' laws: goes.
-/
import Derived.Test.YtkcaheedhbgmnaaLwB
import Derived.Test.YtkcaheedhbgmnaaQuietR
namespace Go.Proofs.Ytkcaheedhbgmnaa
set_option linter.unusedVariables false
set_option linter.unusedSimpArgs false
open Go.RowKit SpT
set_option maxHeartbeats 4000000
set_option maxRecDepth 100000
set_option linter.unusedSectionVars false

theorem fn_nil8 (g : FuncId) (lb : Array Value) (w : World) : (binOp .eql 31 (.func (.func g) #[] lb) .nilFunc).run Try.prog w = .ok (.bool false) w := by kernel_rfl

def GoesI (B most : Nat) (j : Nat) (X : List Nat) (W : World) : Prop := j ≤ most ∧ Blk W (B + 3) [.int .i64 (j : Int)] 3 ∧ Blk W (B + 2) [.bool false] 4
def GoesX (B most : Nat) (c : Code) (j : Nat) (X : List Nat) (W : World) : Prop := c = .exit 0 ∧ most < j ∧ Blk W (B + 3) [.int .i64 (most : Int)] 3 ∧ Blk W (B + 2) [.bool false] 4

theorem goes_c (g : FuncId) (lb : Array Value) (Kp : List Nat) (L : List (Sp Int)) (w0 : World) (hit : Iter Try.prog g lb Kp (SpI.vals L) w0) (eg : Enters Try.prog g) (hL : L.length ≤ 4096) (hv : ∀ x, x ∈ L → -128 ≤ x.v ∧ x.v ≤ 127) (most : Nat) (hmost : most ≤ 100000) (w : World)
    (hs : w0.heap.size ≤ w.heap.size) (hK : ∀ b, b ∈ Kp → b < w0.heap.size ∧ w.heap[b]? = w0.heap[b]?) (B0 : Nat) (v : Value) (hrow : SpR.SRow w B0 v L) :
    Calls Try.prog 15 #[.func (.func g) #[] lb, v, .int .i64 most] w fun e w' => e = .returned (.bool true) ∧ Ext [] w w' := by
  have hfn := fn_nil8 g lb
  obtain ⟨va, vc, rfl, _, _⟩ := ownsRow_form hrow
  refine calls_of_callsIn 1000 ?_
  refine callsIn_of_wp_marks Try.func15 rfl trivial ?_ rfl
  simp only [Try.ntmps15, List.size_toArray, List.length_cons, List.length_nil, Nat.reduceAdd, Nat.reduceSub, Array.replicate_succ, Array.replicate_zero, List.push_toArray, List.append_toArray, List.nil_append, List.cons_append]
  gi_wp2
  have hx0 : Ext [] w ((((w.alloc (.cells #[.slice va L.length vc] 27)).alloc (.cells #[.int .i64 (most : Int)] 3)).alloc (.cells #[.bool false] 4)).alloc (.cells #[.int .i64 0] 3)) := ((((Ext.refl _ _).alloc _).alloc _).alloc _).alloc _
  have b0 := (((Blk.new w [.slice va L.length vc] 27).alloc (.cells #[.int .i64 (most : Int)] 3)).alloc (.cells #[.bool false] 4)).alloc (.cells #[.int .i64 0] 3)
  have b1 := ((Blk.new (w.alloc (.cells #[.slice va L.length vc] 27)) [.int .i64 (most : Int)] 3).alloc (.cells #[.bool false] 4)).alloc (.cells #[.int .i64 0] 3)
  have b2 := (Blk.new ((w.alloc (.cells #[.slice va L.length vc] 27)).alloc (.cells #[.int .i64 (most : Int)] 3)) [.bool false] 4).alloc (.cells #[.int .i64 0] 3)
  have b3 := Blk.new (((w.alloc (.cells #[.slice va L.length vc] 27)).alloc (.cells #[.int .i64 (most : Int)] 3)).alloc (.cells #[.bool false] 4)) [.int .i64 0] 3
  have hs0 : ((((w.alloc (.cells #[.slice va L.length vc] 27)).alloc (.cells #[.int .i64 (most : Int)] 3)).alloc (.cells #[.bool false] 4)).alloc (.cells #[.int .i64 0] 3)).heap.size = w.heap.size + 4 := by simp
  have hr0 := ownsRow_ext hrow hx0 (by simp)
  simp only [World.size_alloc] at b1 b2 b3
  generalize hw1 : ((((w.alloc (.cells #[.slice va L.length vc] 27)).alloc (.cells #[.int .i64 (most : Int)] 3)).alloc (.cells #[.bool false] 4)).alloc (.cells #[.int .i64 0] 3)) = w1 at *
  clear hw1 hfn
  have hvl : (SpI.vals L).length = L.length := by simp [SpI.vals]
  have hg : ∀ q, (Value.slice va L.length vc).ownBlock = some q → q < w.heap.size := fun q hq => (hrow.lt q hq).2
  clear hrow
  refine wpIn_range (by omega) rfl eg hit (SpI.vals_size _) [w.heap.size + 2, w.heap.size + 3] (GoesI w.heap.size most) (GoesX w.heap.size most) ?fI ?fIx ?hM (by omega) ?hK ?h0 ?round ?done ?stop
  case fI => exact fun i X A C h hk => ⟨h.1, (hk _ (.inl (by simp)) h.2.1.lt).trans h.2.1, (hk _ (.inl (by simp)) h.2.2.lt).trans h.2.2⟩
  case fIx => exact fun c i X A C h hk => ⟨h.1, h.2.1, (hk _ (.inl (by simp)) h.2.2.1.lt).trans h.2.2.1, (hk _ (.inl (by simp)) h.2.2.2.lt).trans h.2.2.2⟩
  case hM =>
    intro q hq
    have hq' : q = w.heap.size + 2 ∨ q = w.heap.size + 3 := by simpa using hq
    exact ⟨by omega, fun h => by have := (hK _ h).1; omega⟩
  case hK => exact fun q hq => ⟨(hK q hq).1, (hx0.block q (by have := (hK q hq).1; omega) (by simp)).trans (hK q hq).2⟩
  case h0 => exact ⟨Nat.zero_le _, b3, b2⟩
  case round =>
    rintro l' i hi X Wr ⟨him, hB3, hB2⟩ hx hX hl' hlW
    have hiL : i < L.length := by omega
    rw [show (SpI.vals L)[i] = #[.agg (SpI.cells L[i]).toArray] by simp [SpI.vals]]
    have hvx := hv L[i] (List.getElem_mem hiL)
    have hrx := fun (W' : World) (hW : Ext [l', w.heap.size + 2, w.heap.size + 3] w1 W') => (ownsRow_ext hr0 hW (fun q hq => by have := hg q hq; simp; omega))
    obtain ⟨x, hxd⟩ : ∃ x, x = L[i] := ⟨_, rfl⟩
    have hcl := fun j (hj : j < 3) => SpR.encS_at hiL hj
    rw [← hxd] at hcl hvx ⊢
    have hxr : Ext [] Wr (Wr.alloc (.cells (SpI.cells x).toArray 70)) := (Ext.refl _ _).alloc _
    have hbx := Blk.new Wr (SpI.cells x) 70
    obtain ⟨xf, xt, xv⟩ := x
    unfold SpI.cells at hxr hbx ⊢
    have HXR := Lib.hid hxr
    clear hxd hxr
    unfold RoundX
    gi_wp2
    refine ⟨HXR.out, fun W₂ r hx2 hs2 hr => ?_⟩
    have hxr := HXR.out
    have HR := Lib.hid hr
    have hs3 : W₂.heap.size = Wr.heap.size + 1 := by simpa using hs2
    have h12 : Ext [l', w.heap.size + 2, w.heap.size + 3] w1 W₂ := ((hx.mono (fun k hk => .inl (List.mem_cons_of_mem _ hk))).trans (hxr.mono (by simp))).trans (hx2.mono (by simp))
    have k0 := (b0.ext h12 (by simp; omega)).cell 0
    have k1 := (b1.ext h12 (by simp; omega)).cell 0
    have h32 := (hB3.ext hxr (by simp)).ext hx2 (by simp; omega)
    have h22 := (hB2.ext hxr (by simp)).ext hx2 (by simp; omega)
    have k3 := h32.cell 0
    have f3 := h32.frozen 0
    have hbx2 := hbx.ext hx2 (by simp; omega)
    have kx0 := hbx2.cell 0
    have kx1 := hbx2.cell 1
    have kx2 := hbx2.cell 2
    have H32 := Lib.hid h32
    have H22 := Lib.hid h22
    have HX2 := Lib.hid hx2
    by_cases hm : most ≤ i
    · obtain rfl : i = most := by omega
      clear hrx hcl hbx hbx2 hr hxr h32 h22 hB3 hB2 hit b0 b1 b2 b3 hr0
      gi_wp2
      refine ⟨X, RoundEnd.of (N := []) HXR.out HX2.out HR.out (Ext.refl _ _) (by simp) (fun q hq => ⟨.inl hq, by have := (hX q hq).2.1; omega⟩), rfl, Nat.lt_succ_self _, H32.out, H22.out⟩
    · have hrow2 := hrx W₂ h12
      obtain ⟨m, hmm⟩ : ∃ m, L.length = m + 1 := ⟨L.length - 1, by omega⟩
      have hrow3 := hrow2
      rw [hmm] at hrow3
      obtain ⟨g', cap', he⟩ := ownsRow_succ hrow3
      injection he with he1 he2 he3
      subst he1 he3
      have hw0 := hrow2.cellAt (i * 3 + 0) (by omega)
      rw [hcl 0 (by omega)] at hw0
      have hw0 : W₂.cell? ⟨g', i * 3, none⟩ = _ := hw0
      have hw1 := hrow2.cellAt (i * 3 + 1) (by omega)
      rw [hcl 1 (by omega)] at hw1
      have hw2 := hrow2.cellAt (i * 3 + 2) (by omega)
      rw [hcl 2 (by omega)] at hw2
      unfold SpR.cells at hw0 hw1 hw2
      have i0 : (0 : Int) ≤ (i : Int) := by omega
      have i1 : (i : Int) < (L.length : Int) := by omega
      have q1 : decide ((L.length : Int) ≤ (i : Int)) = false := by simp; omega
      have q1' : decide (L.length ≤ i) = false := by simp; omega
      have q2 : IntKind.i64.wrap xv = xv := by rw [IntKind.wrap_i64]; omega
      have q3 : decide ((most : Int) ≤ (i : Int)) = false := by simp; omega
      clear hrx hcl hbx hbx2 hr hxr h32 h22 hB3 hB2 hit b0 b1 b2 b3 hr0 hrow2 hrow3 hmm
      gi_wp2
      refine wpIn_quiet_R (by kernel_rfl) (by kernel_rfl) (by kernel_rfl) ?_
      repeat (gi_big_quiet_step (fail))
      refine wpQuietIn_nil ?_
      intro _ hw'
      obtain ⟨nq, hw''⟩ := hw'
      subst hw''
      gi_wp2
      refine ⟨X, RoundEnd.of (N := [w.heap.size + 3]) HXR.out HX2.out HR.out (((Ext.refl _ _).drewN _).setCell _ _ (.inl (by simp))) (fun k hk => ⟨.inl (by simp at hk; simp [hk]), by simp at hk; omega⟩) (fun q hq => ⟨.inl hq, by rw [size_setCell]; show q < W₂.heap.size; have := (hX q hq).2.1; omega⟩), by omega, ?_, ?_⟩
      · have h := (H32.out.ext ((Ext.refl [] W₂).drewN nq) (by simp)).set 0 (.int .i64 ((i : Int) + 1))
        exact h
      · exact (H22.out.ext ((Ext.refl [] W₂).drewN nq) (by simp)).set_ne _ (by simp)
  case done =>
    rintro D X Wd hD hE ⟨him, hB3, hB2⟩ hx hX
    rw [hvl] at him hB3
    have k0 := (b0.ext hx (by simp)).cell 0
    have k1 := (b1.ext hx (by simp)).cell 0
    have k3 := hB3.cell 0
    have k2 := hB2.cell 0
    have f2 := hB2.frozen 0
    have hmn : mnI (most : Int) (L.length : Int) = (L.length : Int) := by unfold mnI; omega
    have HB2 := Lib.hid hB2
    clear hit hB3 hB2 b0 b1 b2 b3 hr0
    gi_wp2
    refine leaves_marks [D] _ (fun q hq => by
      obtain rfl : q = D := by simpa using hq
      exact (Below.heap_setCell _ _ _ _ (show q ≠ w.heap.size + 2 by omega)).trans hE) (by simp) (fun w' hx' hs' => ⟨_, ?_, rfl, ?_⟩)
    · have hc := ((HB2.out.set 0 (.bool true)).ext hx' (by simp; omega)).cell 0
      rw [results_cell1 rfl]
      simp [go_sem, hc]
    · exact ((hx0.step hx (fun k hk => .inr (by simp at hk; omega))).setCell _ _ (.inr (by show w.heap.size ≤ w.heap.size + 2; omega))).step hx' (fun k hk => .inr (by simp at hk; omega))
  case stop =>
    rintro D c i X Wd hD hE hi ⟨rfl, hm, hB3, hB2⟩ hx hX
    rw [hvl] at hi
    have k0 := (b0.ext hx (by simp)).cell 0
    have k1 := (b1.ext hx (by simp)).cell 0
    have k3 := hB3.cell 0
    have k2 := hB2.cell 0
    have f2 := hB2.frozen 0
    have hmn : mnI (most : Int) (L.length : Int) = (most : Int) := by unfold mnI; omega
    have HB2 := Lib.hid hB2
    clear hit hB3 hB2 b0 b1 b2 b3 hr0
    gi_wp2
    refine leaves_marks [D] _ (fun q hq => by
      obtain rfl : q = D := by simpa using hq
      exact (Below.heap_setCell _ _ _ _ (show q ≠ w.heap.size + 2 by omega)).trans hE) (by simp) (fun w' hx' hs' => ⟨_, ?_, rfl, ?_⟩)
    · have hc := ((HB2.out.set 0 (.bool true)).ext hx' (by simp; omega)).cell 0
      rw [results_cell1 rfl]
      simp [go_sem, hc]
    · exact ((hx0.step hx (fun k hk => .inr (by simp at hk; omega))).setCell _ _ (.inr (by show w.heap.size ≤ w.heap.size + 2; omega))).step hx' (fun k hk => .inr (by simp at hk; omega))

end Go.Proofs.Ytkcaheedhbgmnaa
