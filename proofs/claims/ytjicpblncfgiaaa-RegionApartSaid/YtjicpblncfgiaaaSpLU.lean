/-
  Spans of values (basin/region.use): Find.
-/
import Derived.Test.YtjicpblncfgiaaaSpKU
namespace Go.Proofs.Ytjicpblncfgiaaa.SpU
open Go.RowKit SpT
set_option maxHeartbeats 2000000
set_option maxRecDepth 10000
set_option linter.unusedVariables false
set_option linter.unusedSimpArgs false
set_option linter.unusedSectionVars false

def findIn (page : Int) (x : Spn) : Bool := decide ((x.f : Int) ≤ page) && decide (page < (x.t : Int))
def findC (o : Option Spn) : List Value := match o with
  | some x => cells x
  | none => [.int .i64 0, .int .i64 0, .int .i64 0, .int .i64 0, .int .i64 0]
def FndI (B : Nat) (page : Int) (L : List Spn) (i : Nat) (X : List Nat) (W : World) : Prop := (∀ x, x ∈ L.take i → findIn page x = false) ∧ Blk W (B + 1) [.int .i64 0, .int .i64 0, .int .i64 0, .int .i64 0, .int .i64 0] 97 ∧ Blk W (B + 1 + 1) [.bool false] 4
def FndX (B : Nat) (page : Int) (L : List Spn) (c : Code) (i : Nat) (X : List Nat) (W : World) : Prop := c = .ret ∧ ∃ x, L.find? (findIn page) = some x ∧ Blk W (B + 1) (cells x) 97 ∧ Blk W (B + 1 + 1) [.bool true] 4

theorem find_c (w : World) (p : Option Addr) (Kq : List Nat) (L : List Spn) (hA : AllIs w p Kq L) (page : Int) :
    Calls Try.prog 43 #[.pointer p, .int .i64 page] w fun e w' => e = .returned (.tuple #[.agg (findC (L.find? (findIn page))).toArray, .bool (L.find? (findIn page)).isSome]) ∧ Ext [] w w' := by
  refine calls_of_callsIn 1000 ?_
  refine callsIn_of_wp_marks Try.func43 rfl trivial ?_ rfl
  simp only [Try.ntmps43, List.size_toArray, List.length_cons, List.length_nil, Nat.reduceAdd, Nat.reduceSub, Array.replicate_succ, Array.replicate_zero, List.push_toArray, List.append_toArray, List.nil_append, List.cons_append]
  gi_wp2_with (gi_at_call 60; refine CallsIn.mono (callsIn_of_calls (all_c _ _)) ?_; rintro e w' ⟨rfl, rfl⟩)
  have hbp := ((Blk.new w [.int .i64 page] 3).alloc (.cells #[.int .i64 0, .int .i64 0, .int .i64 0, .int .i64 0, .int .i64 0] 97)).alloc (.cells #[.bool false] 4)
  have hb4 := (Blk.new (w.alloc (.cells #[.int .i64 page] 3)) [.int .i64 0, .int .i64 0, .int .i64 0, .int .i64 0, .int .i64 0] 97).alloc (.cells #[.bool false] 4)
  have hb5 := Blk.new ((w.alloc (.cells #[.int .i64 page] 3)).alloc (.cells #[.int .i64 0, .int .i64 0, .int .i64 0, .int .i64 0, .int .i64 0] 97)) [.bool false] 4
  have hx0 : Ext [] w (((w.alloc (.cells #[.int .i64 page] 3)).alloc (.cells #[.int .i64 0, .int .i64 0, .int .i64 0, .int .i64 0, .int .i64 0] 97)).alloc (.cells #[.bool false] 4)) := (((Ext.refl _ _).alloc _).alloc _).alloc _
  have hs0 : (((w.alloc (.cells #[.int .i64 page] 3)).alloc (.cells #[.int .i64 0, .int .i64 0, .int .i64 0, .int .i64 0, .int .i64 0] 97)).alloc (.cells #[.bool false] 4)).heap.size = w.heap.size + 3 := by simp
  have hA0 := hA.ext hx0 (by simp)
  simp only [World.size_alloc] at hb4 hb5
  generalize hw0 : (((w.alloc (.cells #[.int .i64 page] 3)).alloc (.cells #[.int .i64 0, .int .i64 0, .int .i64 0, .int .i64 0, .int .i64 0] 97)).alloc (.cells #[.bool false] 4)) = W0 at *
  clear hw0
  have hkl := hA.lt
  have hx1 : Ext [] W0 (W0.alloc (.cells #[.pointer p] 51)) := (Ext.refl _ _).alloc _
  have hit := (hA0.ext hx1 (by simp)).it _ W0.heap.size (fun _ _ => rfl) (Blk.new W0 [.pointer p] 51)
  have hs1 : (W0.alloc (.cells #[.pointer p] 51)).heap.size = W0.heap.size + 1 := by simp
  replace hbp := hbp.ext hx1 (by simp)
  replace hb4 := hb4.ext hx1 (by simp)
  replace hb5 := hb5.ext hx1 (by simp)
  simp only [hs0] at hit hs1 ⊢
  generalize W0.alloc (.cells #[.pointer p] 51) = W1 at *
  have hvl : (vals L).length = L.length := by simp [vals]
  have HX := Lib.hid (hx0.trans hx1)
  clear hx0 hA0 hA
  refine wpIn_range (by omega) rfl (Go.Proofs.enters_of Try.func73 (by kernel_rfl) rfl) hit (vals_size _) [w.heap.size + 1, w.heap.size + 1 + 1] (FndI w.heap.size page L) (FndX w.heap.size page L) ?fI ?fIx ?hM (Nat.le_refl _) ?hK ?h0 ?round ?done ?stop
  case fI => exact fun i X A B h hk => ⟨h.1, (hk _ (.inl (by simp)) h.2.1.lt).trans h.2.1, (hk _ (.inl (by simp)) h.2.2.lt).trans h.2.2⟩
  case fIx => rintro c i X A B ⟨rfl, x, h1, h2, h3⟩ hk; exact ⟨rfl, x, h1, (hk _ (.inl (by simp)) h2.lt).trans h2, (hk _ (.inl (by simp)) h3.lt).trans h3⟩
  case hM =>
    intro q hq
    have hq' : q = w.heap.size + 1 ∨ q = w.heap.size + 1 + 1 := by simpa using hq
    refine ⟨by omega, fun h => ?_⟩
    rcases List.mem_cons.1 h with h | h
    · omega
    · have := hkl _ h; omega
  case hK =>
    intro q hq
    rcases List.mem_cons.1 hq with rfl | h
    · exact ⟨by omega, rfl⟩
    · have := hkl _ h; exact ⟨by omega, rfl⟩
  case h0 => exact ⟨by simp, hb4, hb5⟩
  case round =>
    rintro l' i hi X Wr ⟨hno, hB4, hB5⟩ hx hX hl' hlW
    have hiL : i < L.length := by omega
    rw [show (vals L)[i] = #[.agg (cells L[i]).toArray] by simp [vals]]
    have hts := take_snoc hiL
    have hfx : findIn page L[i] = true → L.find? (findIn page) = some L[i] := fun h => by
      have e : L = L.take i ++ (L[i] :: L.drop (i + 1)) := by rw [← List.drop_eq_getElem_cons hiL, List.take_append_drop]
      have hn : (L.take i).find? (findIn page) = none := List.find?_eq_none.2 (fun x hx => by simp [hno x hx])
      have h3 : (L.take i ++ (L[i] :: L.drop (i + 1))).find? (findIn page) = some L[i] := by
        rw [List.find?_append, hn, List.find?_cons_of_pos h]; rfl
      rwa [← e] at h3
    obtain ⟨x, hxd⟩ : ∃ x, x = L[i] := ⟨_, rfl⟩
    rw [← hxd] at hts hfx ⊢
    have hnn : findIn page x = false → ∀ y, y ∈ L.take (i + 1) → findIn page y = false := fun h y hy => by
      rw [hts] at hy
      rcases List.mem_append.1 hy with hy | hy
      · exact hno y hy
      · obtain rfl : y = x := by simpa using hy
        exact h
    have hxr : Ext [] Wr (Wr.alloc (.cells (cells x).toArray 97)) := (Ext.refl _ _).alloc _
    have hbx := Blk.new Wr (cells x) 97
    have HF := Lib.hid hfx
    have HN := Lib.hid hnn
    obtain ⟨xf, xt, xv⟩ := x
    unfold cells at hxr hbx ⊢
    have HXR := Lib.hid hxr
    clear hxd hts hxr hfx hnn hno
    unfold RoundX
    gi_wp2
    refine ⟨HXR.out, fun W₂ r hx2 hs2 hr => ?_⟩
    have hxr := HXR.out
    have HR := Lib.hid hr
    have hs3 : W₂.heap.size = Wr.heap.size + 1 := by simpa using hs2
    have hp2 := ((hbp.ext hx (by simp; omega)).ext hxr (by simp)).ext hx2 (by simp; omega)
    have h42 := (hB4.ext hxr (by simp)).ext hx2 (by simp; omega)
    have h52 := (hB5.ext hxr (by simp)).ext hx2 (by simp; omega)
    have hbx2 := hbx.ext hx2 (by simp; omega)
    have kp := hp2.cell 0
    have k40 := h42.cell 0
    have k41 := h42.cell 1
    have k42 := h42.cell 2
    have k43 := h42.cell 3
    have k44 := h42.cell 4
    have f40 := h42.frozen 0
    have f41 := h42.frozen 1
    have f42 := h42.frozen 2
    have f43 := h42.frozen 3
    have f44 := h42.frozen 4
    have k5 := h52.cell 0
    have f5 := h52.frozen 0
    have kx0 := hbx2.cell 0
    have kx1 := hbx2.cell 1
    have kx2 := hbx2.cell 2
    have kx3 := hbx2.cell 3
    have kx4 := hbx2.cell 4
    have H42 := Lib.hid h42
    have H52 := Lib.hid h52
    have HX2 := Lib.hid hx2
    have ht : findIn page ⟨xf, xt, xv⟩ = (decide ((xf : Int) ≤ page) && decide (page < (xt : Int))) := rfl
    have HT := Lib.hid ht
    clear ht h42 h52 hbx2 hp2 hbx hr hxr hB4 hB5 hit hb4 hb5 hbp
    by_cases h1 : (xf : Int) ≤ page
    · by_cases h2 : page < (xt : Int)
      · have HY := Lib.hid (HF.out (by rw [HT.out]; simp [h1, h2]))
        gi_wp2
        refine ⟨X, RoundEnd.of (N := [w.heap.size + 1, w.heap.size + 1 + 1]) HXR.out HX2.out HR.out ?_ (fun k hk => ⟨.inl hk, by simp at hk; omega⟩) (fun q hq => ⟨.inl hq, ?_⟩), rfl, _, HY.out, ?_, ?_⟩
        · repeat' (first | exact Ext.refl _ _ | refine Ext.setCell ?_ _ _ (.inl (by simp)))
        · simp only [size_setCell]; have := (hX q hq).2.1; omega
        · refine Blk.set_ne ?_ _ (by simp)
          have h := H42.out
          exact (((((h.set 0 _).set 1 _).set 2 _).set 3 _).set 4 _)
        · refine (show Blk _ _ ([Value.bool false].set 0 (.bool true)) 4 from Blk.set ?_ 0 _)
          have h := H52.out
          repeat' (first | with_reducible exact h | refine Blk.set_ne ?_ _ (by simp))
      · have HY := Lib.hid (HN.out (by rw [HT.out]; simp [h2]))
        gi_wp2
        refine ⟨X, RoundEnd.of (N := []) HXR.out HX2.out HR.out (Ext.refl _ _) (by simp) (fun q hq => ⟨.inl hq, by have := (hX q hq).2.1; omega⟩), HY.out, H42.out, H52.out⟩
    · have HY := Lib.hid (HN.out (by rw [HT.out]; simp [h1]))
      gi_wp2
      refine ⟨X, RoundEnd.of (N := []) HXR.out HX2.out HR.out (Ext.refl _ _) (by simp) (fun q hq => ⟨.inl hq, by have := (hX q hq).2.1; omega⟩), HY.out, H42.out, H52.out⟩
  case done =>
    rintro D X Wd hD hE ⟨hno, hB4, hB5⟩ hx hX
    have hnone : L.find? (findIn page) = none := List.find?_eq_none.2 (fun x hx' => by
      rw [hvl, List.take_length] at hno
      simp [hno x hx'])
    have HFX := Lib.hid hnone
    have k40 := hB4.cell 0
    have k41 := hB4.cell 1
    have k42 := hB4.cell 2
    have k43 := hB4.cell 3
    have k44 := hB4.cell 4
    have f40 := hB4.frozen 0
    have f41 := hB4.frozen 1
    have f42 := hB4.frozen 2
    have f43 := hB4.frozen 3
    have f44 := hB4.frozen 4
    have k5 := hB5.cell 0
    have f5 := hB5.frozen 0
    have H4 := Lib.hid hB4
    have H5 := Lib.hid hB5
    clear hB4 hB5 hit hnone hno hbp hb4 hb5
    gi_wp2
    refine leaves_marks [D] _ (fun q hq => ?_) (by simp) (fun w' hx' hs' => ⟨_, ?_, rfl, ?_⟩)
    · obtain rfl : q = D := by simpa using hq
      have hp1 : q ≠ w.heap.size + 1 := by omega
      have hp2 : q ≠ w.heap.size + 1 + 1 := by omega
      have h := hE
      repeat' (first | with_reducible exact h | (refine (Below.heap_setCell _ _ _ _ (by assumption)).trans ?_))
    · have h4 : Blk w' (w.heap.size + 1) [.int .i64 0, .int .i64 0, .int .i64 0, .int .i64 0, .int .i64 0] 97 := by
        refine Blk.ext ?_ hx' (by simp; omega)
        refine Blk.set_ne ?_ _ (by simp)
        have h := H4.out
        exact (((((h.set 0 _).set 1 _).set 2 _).set 3 _).set 4 _)
      have h5 : Blk w' (w.heap.size + 1 + 1) [.bool false] 4 := by
        refine Blk.ext ?_ hx' (by simp; omega)
        refine (show Blk _ _ ([Value.bool false].set 0 (.bool false)) 4 from Blk.set ?_ 0 _)
        have h := H5.out
        repeat' (first | with_reducible exact h | refine Blk.set_ne ?_ _ (by simp))
      have k40 := h4.cell 0
      have k41 := h4.cell 1
      have k42 := h4.cell 2
      have k43 := h4.cell 3
      have k44 := h4.cell 4
      have k5 := h5.cell 0
      rw [results_cell2 rfl, HFX.out]
      simp [go_sem, k40, k41, k42, k43, k44, k5, findC]
    · refine Ext.step ?_ hx' (fun k hk => .inr (by simp at hk; omega))
      have h := HX.out.step hx (fun k hk => .inr (by simp at hk; omega))
      repeat' (first | with_reducible exact h | refine Ext.setCell ?_ _ _ (.inr (by simp <;> omega)))
  case stop =>
    rintro D c i X Wd hD hE hi ⟨rfl, x, hfx, hB4, hB5⟩ hx hX
    have HFX := Lib.hid hfx
    have H4 := Lib.hid hB4
    have H5 := Lib.hid hB5
    clear hB4 hB5 hit hfx hbp hb4 hb5
    gi_wp2
    refine leaves_marks [D] _ (by simpa using hE) (by simp) (fun w' hx' hs' => ⟨_, ?_, rfl, ?_⟩)
    · have h4 := H4.out.ext hx' (by simp; omega)
      have h5 := H5.out.ext hx' (by simp; omega)
      have k40 := h4.cell 0
      have k41 := h4.cell 1
      have k42 := h4.cell 2
      have k43 := h4.cell 3
      have k44 := h4.cell 4
      have k5 := h5.cell 0
      unfold cells at *
      rw [results_cell2 rfl, HFX.out]
      simp [go_sem, k40, k41, k42, k43, k44, k5, findC, cells]
    · exact (HX.out.step hx (fun k hk => .inr (by simp at hk; omega))).step hx' (fun k hk => .inr (by simp at hk; omega))

end Go.Proofs.Ytjicpblncfgiaaa.SpU
