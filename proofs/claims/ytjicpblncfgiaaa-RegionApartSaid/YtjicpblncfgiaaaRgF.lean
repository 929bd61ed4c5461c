/-
  Region's reference: Copy.
-/
import Derived.Test.YtjicpblncfgiaaaRgE
namespace Go.Proofs.Ytjicpblncfgiaaa
set_option linter.unusedVariables false
set_option linter.unusedSimpArgs false
open Go.RowKit RgT
set_option maxHeartbeats 4000000
set_option maxRecDepth 100000
set_option linter.unusedVariables false
set_option linter.unusedSimpArgs false

/-- The first k pages. -/
def cpF (f : Nat → Option U) (k : Nat) : Nat → Option U := fun p => if p < k then f p else none
theorem cp_isB (f : Nat → Option U) (k q : Nat) : upd (isB (cpF f k)) k (isB f k) q = isB (cpF f (k + 1)) q := by
  unfold isB cpF upd
  by_cases e : q = k
  · subst e; simp
  · rw [if_neg e]
    by_cases h : q < k
    · simp [h, show q < k + 1 by omega]
    · simp [h, show ¬ q < k + 1 by omega]
theorem cp_pmI (f : Nat → Option U) (k q : Nat) : upd (pmI (cpF f k)) k (pmI f k) q = pmI (cpF f (k + 1)) q := by
  unfold pmI cpF upd
  by_cases e : q = k
  · subst e; simp
  · rw [if_neg e]
    by_cases h : q < k
    · simp [h, show q < k + 1 by omega]
    · simp [h, show ¬ q < k + 1 by omega]
theorem cp_plI (f : Nat → Option U) (k q : Nat) : upd (plI (cpF f k)) k (plI f k) q = plI (cpF f (k + 1)) q := by
  unfold plI cpF upd
  by_cases e : q = k
  · subst e; simp
  · rw [if_neg e]
    by_cases h : q < k
    · simp [h, show q < k + 1 by omega]
    · simp [h, show ¬ q < k + 1 by omega]
def RCopied (w : World) (nodes : Int) (f : Nat → Option U) (e : Ending) (w' : World) : Prop :=
  ∃ rp bi bp bq, e = .returned (.pointer (some ⟨rp, 0, none⟩)) ∧ Ext [] w w' ∧ RefIs w' rp bi bp bq nodes f ∧ w.heap.size ≤ rp ∧ w.heap.size ≤ bi ∧ w.heap.size ≤ bp ∧ w.heap.size ≤ bq

theorem rcopy_c (w : World) (rp bi bp bq : Nat) (nodes : Int) (f : Nat → Option U) (h : RefIs w rp bi bp bq nodes f) (h1 : 1 ≤ nodes) (h8 : nodes ≤ 8) (hb : ∀ p, 4096 ≤ p → f p = none) :
    Calls Try.prog 57 #[.pointer (some ⟨rp, 0, none⟩)] w (RCopied w nodes f) := by
  have r0 := h.head.cell 0
  have CN := Lib.hid (fun w => rnew_is nodes w h1 h8)
  have H := Lib.hid h
  have HB := Lib.hid hb
  have l0 := h.head.lt
  have l1 := h.is_.lt
  have l2 := h.perm.lt
  have l3 := h.pol.lt
  clear h hb
  go_enter Try.func57, Try.ntmps57
  go_wp2_with (go_at_call 36; refine (CN.out _).mono ?_; rintro e w1 ⟨cp, ci, cq, cr, rfl, hx, hr, q1, q2, q3, q4⟩; have HX1 := Lib.hid hx; have HR1 := Lib.hid hr; have H1 := Lib.hid (H.out.ext0 hx); clear hx hr r0)
  go_loopw [5] (fun i cur => ∃ k : Nat, k ≤ 4096 ∧ i = .int .i64 k ∧ Ext [] w cur ∧ RefIs cur cp ci cq cr nodes (cpF f k)) (fun i _ => 4096 - (intOf i).toNat)
  case atStart => exact ⟨0, by omega, rfl, HX1.out, HR1.out.congr (fun p => rfl) (fun p => rfl) (fun p => rfl)⟩
  case round =>
    obtain ⟨k, hk, rfl, hX, hR⟩ := hrel
    have HX := Lib.hid hX
    have HR := Lib.hid hR
    have HO := Lib.hid (H.out.ext0 hX)
    by_cases hlt : k < 4096
    · have p0 : (0 : Int) ≤ (k : Int) := by omega
      have p1 : (k : Int) < 4096 := by omega
      obtain ⟨d1, d2, d3⟩ := hR.d1
      obtain ⟨d4, d5, d6⟩ := hR.d2
      have d1' := d1.symm
      have d2' := d2.symm
      have d3' := d3.symm
      have n1 : ci ≠ rp := by omega
      have n2 : ci ≠ bi := by omega
      have n3 : cq ≠ rp := by omega
      have n4 : cq ≠ bp := by omega
      have n5 : cr ≠ rp := by omega
      have n6 : cr ≠ bq := by omega
      have c1 := hR.head.cell 1
      have o1 := HO.out.head.cell 1
      have i0 := hR.is_.cell hlt
      have i1 := hR.is_.fr hlt
      have j0 := HO.out.is_.cell hlt
      clear hX hR
      go_wp2
      go_region_held3 (fun cur => cur.cell? ⟨cp, 1, none⟩ = some (.slice (some ⟨ci, 0, none⟩) 4096 4096) ∧ cur.cell? ⟨rp, 1, none⟩ = some (.slice (some ⟨bi, 0, none⟩) 4096 4096) ∧ cur.cell? ⟨bi, k, none⟩ = some (.bool (isB f k))) (go_keep) (fail)
      have hr1 := (HR.out.setI hlt (isB f k)).ext0 (Ext.refl [] _).drew
      have hx1 : Ext [] w (wr.setCell ⟨ci, k, none⟩ (.bool (isB f k))).drew := (HX.out.setCell _ _ (.inr (by show w.heap.size ≤ ci; omega))).drew
      have ho1 := HO.out.ext ((Ext.refl [ci] wr).setCell ⟨ci, k, none⟩ (.bool (isB f k)) (.inl (by simp))).drew (by simpa using n1.symm) (by simpa using n2.symm) (by simp; omega) (by simp; omega)
      have HR1 := Lib.hid hr1
      have HX1 := Lib.hid hx1
      have HO1 := Lib.hid ho1
      clear hr1 hx1 ho1 c1 o1 i0 i1 j0
      go_wp2
      generalize (wr.setCell ⟨ci, k, none⟩ (.bool (isB f k))).drew = W1 at *
      have c1 := HR1.out.head.cell 2
      have o1 := HO1.out.head.cell 2
      have i0 := HR1.out.perm.cell hlt
      have i1 := HR1.out.perm.fr hlt
      have j0 := HO1.out.perm.cell hlt
      go_region_held3 (fun cur => cur.cell? ⟨cp, 2, none⟩ = some (.slice (some ⟨cq, 0, none⟩) 4096 4096) ∧ cur.cell? ⟨rp, 2, none⟩ = some (.slice (some ⟨bp, 0, none⟩) 4096 4096) ∧ cur.cell? ⟨bp, k, none⟩ = some (.int .i64 (pmI f k))) (go_keep) (fail)
      have hr2 := (HR1.out.setP hlt (pmI f k)).ext0 (Ext.refl [] _).drew
      have hx2 : Ext [] w (W1.setCell ⟨cq, k, none⟩ (.int .i64 (pmI f k))).drew := (HX1.out.setCell _ _ (.inr (by show w.heap.size ≤ cq; omega))).drew
      have ho2 := HO1.out.ext ((Ext.refl [cq] W1).setCell ⟨cq, k, none⟩ (.int .i64 (pmI f k)) (.inl (by simp))).drew (by simpa using n3.symm) (by simp; omega) (by simpa using n4.symm) (by simp; omega)
      have HR2 := Lib.hid hr2
      have HX2 := Lib.hid hx2
      have HO2 := Lib.hid ho2
      clear hr2 hx2 ho2 c1 o1 i0 i1 j0
      go_wp2
      generalize (W1.setCell ⟨cq, k, none⟩ (.int .i64 (pmI f k))).drew = W2 at *
      have c1 := HR2.out.head.cell 3
      have o1 := HO2.out.head.cell 3
      have i0 := HR2.out.pol.cell (k := k * 2) (by omega)
      have i1 := HR2.out.pol.fr (k := k * 2) (by omega)
      have i2 := HR2.out.pol.cell (k := k * 2 + 1) (by omega)
      have i3 := HR2.out.pol.fr (k := k * 2 + 1) (by omega)
      have j0 := HO2.out.pol.cell (k := k * 2) (by omega)
      have j1 := HO2.out.pol.cell (k := k * 2 + 1) (by omega)
      rw [polF_0] at i0 j0
      rw [polF_1] at i2 j1
      go_region_held3 (fun cur => cur.cell? ⟨cp, 3, none⟩ = some (.slice (some ⟨cr, 0, none⟩) 4096 4096) ∧ cur.cell? ⟨rp, 3, none⟩ = some (.slice (some ⟨bq, 0, none⟩) 4096 4096) ∧ cur.cell? ⟨bq, k * 2, none⟩ = some (.int .i64 (plI f k).1) ∧ cur.cell? ⟨bq, k * 2 + 1, none⟩ = some (.int .i64 (plI f k).2)) (go_keep) (fail)
      have hr3 := (HR2.out.setQ hlt (plI f k).1 (plI f k).2).ext0 (Ext.refl [] _).drew
      have hx3 : Ext [] w ((W2.setCell ⟨cr, k * 2, none⟩ (.int .i64 (plI f k).1)).setCell ⟨cr, k * 2 + 1, none⟩ (.int .i64 (plI f k).2)).drew := ((HX2.out.setCell _ _ (.inr (by show w.heap.size ≤ cr; omega))).setCell _ _ (.inr (by show w.heap.size ≤ cr; omega))).drew
      have HR3 := Lib.hid hr3
      have HX3 := Lib.hid hx3
      clear hr3 hx3 c1 o1 i0 i1 i2 i3 j0 j1
      go_wp2
      go_roundw
      case rel => exact ⟨k + 1, by omega, by go_num, HX3.out, HR3.out.congr (cp_isB f k) (cp_pmI f k) (cp_plI f k)⟩
      case measure => simp [intOf]; omega
    · obtain rfl : k = 4096 := by omega
      clear hX hR
      have hf : cpF f 4096 = f := by
        funext q
        unfold cpF
        split
        · rfl
        · exact (HB.out q (by omega)).symm
      rw [hf] at HR
      clear hf
      go_wp2
      go_ret
      exact ⟨cp, ci, cq, cr, rfl, HX.out, HR.out, q1, q2, q3, q4⟩

end Go.Proofs.Ytjicpblncfgiaaa
