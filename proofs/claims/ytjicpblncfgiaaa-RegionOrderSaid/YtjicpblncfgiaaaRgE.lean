/-
  Region's reference: a page is turned.
-/
import Derived.Test.YtjicpblncfgiaaaRgD
import Derived.Test.YtjicpblncfgiaaaRgB0
namespace Go.Proofs.Ytjicpblncfgiaaa
set_option linter.unusedVariables false
set_option linter.unusedSimpArgs false
open Go.RowKit RgT
set_option maxHeartbeats 4000000
set_option maxRecDepth 100000
set_option linter.unusedVariables false
set_option linter.unusedSimpArgs false

/-- What a call makes of a page's use, and what it tells. -/
def turnR (k pm pk pn : Int) (o : Option U) : Int × Option U :=
  if k = 1 then (match o with | some u => (8, some u) | none => (0, some (pm, pk, pn)))
  else if k = 2 then (0, none)
  else (match o with | none => (7, none) | some u => (0, some (if k = 4 then u.1 else pm, if k = 3 then u.2 else (pk, pn))))
def TurnRet (w : World) (rp bi bp bq : Nat) (nodes : Int) (f : Nat → Option U) (p : Nat) (r : Int × Option U) (e : Ending) (w' : World) : Prop :=
  e = .returned (.int .i64 r.1) ∧ Ext [bi, bp, bq] w w' ∧ RefIs w' rp bi bp bq nodes (upd f p r.2)
theorem isB_upd (f : Nat → Option U) (p : Nat) (v : Option U) (q : Nat) : upd (isB f) p v.isSome q = isB (upd f p v) q := by unfold isB upd; split <;> rfl
theorem pmI_upd (f : Nat → Option U) (p : Nat) (v : Option U) (q : Nat) : upd (pmI f) p (v.getD (0, 0, 0)).1 q = pmI (upd f p v) q := by unfold pmI upd; split <;> rfl
theorem plI_upd (f : Nat → Option U) (p : Nat) (v : Option U) (q : Nat) : upd (plI f) p (v.getD (0, 0, 0)).2 q = plI (upd f p v) q := by unfold plI upd; split <;> rfl

theorem turn1_none (w : World) (rp bi bp bq : Nat) (nodes : Int) (f : Nat → Option U) (h : RefIs w rp bi bp bq nodes f) (pg n pm pk pn ad by_ : Int) (p : Nat) (hp : p < 4096) (hf : f p = none) :
    Calls Try.prog 58 #[.pointer (some ⟨rp, 0, none⟩), .agg #[.int .i64 1, .int .i64 pg, .int .i64 n, .int .i64 pm, .int .i64 pk, .int .i64 pn, .int .i64 ad, .int .i64 by_], .int .i64 (p : Int)] w (TurnRet w rp bi bp bq nodes f p (0, some (pm, pk, pn))) := by
  have hx0 : Ext [] w (w.alloc (.cells #[.int .i64 1, .int .i64 pg, .int .i64 n, .int .i64 pm, .int .i64 pk, .int .i64 pn, .int .i64 ad, .int .i64 by_] 39)) := (Ext.refl _ _).alloc _
  have hb := Blk.new w [.int .i64 1, .int .i64 pg, .int .i64 n, .int .i64 pm, .int .i64 pk, .int .i64 pn, .int .i64 ad, .int .i64 by_] 39
  have h0 := h.ext0 hx0
  have c0 := hb.cell 0
  have c3 := hb.cell 3
  have c4 := hb.cell 4
  have c5 := hb.cell 5
  have r1 := h0.head.cell 1
  have r2 := h0.head.cell 2
  have r3 := h0.head.cell 3
  have i0 := h0.is_.cell hp
  have i1 := h0.is_.fr hp
  have j0 := h0.perm.cell hp
  have j1 := h0.perm.fr hp
  have k0 := h0.pol.cell (k := p * 2) (by omega)
  have k1 := h0.pol.fr (k := p * 2) (by omega)
  have k2 := h0.pol.cell (k := p * 2 + 1) (by omega)
  have k3 := h0.pol.fr (k := p * 2 + 1) (by omega)
  rw [polF_0] at k0
  rw [polF_1] at k2
  have e : isB f p = false := by simp [isB, hf]
  rw [e] at i0
  obtain ⟨d1, d2, d3⟩ := h.d1
  obtain ⟨d4, d5, d6⟩ := h.d2
  have d1' := d1.symm
  have d2' := d2.symm
  have d3' := d3.symm
  have l0 := h.head.lt
  have l1 := h.is_.lt
  have l2 := h.perm.lt
  have l3 := h.pol.lt
  have n0 : rp ≠ w.heap.size := by omega
  have n1 : bi ≠ w.heap.size := by omega
  have n2 : bp ≠ w.heap.size := by omega
  have n3 : bq ≠ w.heap.size := by omega
  have p0 : (0 : Int) ≤ (p : Int) := by omega
  have p1 : (p : Int) < 4096 := by omega
  have hr1 := (h.setI hp true).ext0 ((Ext.refl [] _).alloc (.cells #[.int .i64 1, .int .i64 pg, .int .i64 n, .int .i64 pm, .int .i64 pk, .int .i64 pn, .int .i64 ad, .int .i64 by_] 39))
  have hb1 := Blk.new (w.setCell ⟨bi, p, none⟩ (.bool true)) [.int .i64 1, .int .i64 pg, .int .i64 n, .int .i64 pm, .int .i64 pk, .int .i64 pn, .int .i64 ad, .int .i64 by_] 39
  rw [size_setCell] at hb1
  have hx1 : Ext [bi, bp, bq] w ((w.setCell ⟨bi, p, none⟩ (.bool true)).alloc (.cells #[.int .i64 1, .int .i64 pg, .int .i64 n, .int .i64 pm, .int .i64 pk, .int .i64 pn, .int .i64 ad, .int .i64 by_] 39)) := ((Ext.refl _ _).setCell _ _ (.inl (by simp))).alloc _
  have HR1 := Lib.hid hr1
  have HB1 := Lib.hid hb1
  have HX1 := Lib.hid hx1
  have HF := Lib.hid hf
  clear h hb h0 e hf hx0 hr1 hb1 hx1
  go_enter Try.func58, Try.ntmps58
  go_wp2
  generalize (w.setCell ⟨bi, p, none⟩ (.bool true)).alloc (.cells #[.int .i64 1, .int .i64 pg, .int .i64 n, .int .i64 pm, .int .i64 pk, .int .i64 pn, .int .i64 ad, .int .i64 by_] 39) = W1 at *
  clear c0 c3 c4 c5 r1 r2 r3 i0 i1 j0 j1 k0 k1 k2 k3
  have c0 := HB1.out.cell 0
  have c3 := HB1.out.cell 3
  have r2 := HR1.out.head.cell 2
  have j0 := HR1.out.perm.cell hp
  have j1 := HR1.out.perm.fr hp
  go_region_held3 (fun cur => cur.cell? ⟨rp, 2, none⟩ = some (.slice (some ⟨bp, 0, none⟩) 4096 4096) ∧ cur.cell? ⟨w.heap.size, 3, none⟩ = some (.int .i64 pm)) (go_keep) (fail)
  have hr2 := (HR1.out.setP hp pm).ext0 (Ext.refl [] _).drew
  have hb2 := (HB1.out.set_ne (p := ⟨bp, p, none⟩) (.int .i64 pm) (by simpa using n2.symm)).ext (Ext.refl [] _).drew (by simp)
  have hx2 : Ext [bi, bp, bq] w (W1.setCell ⟨bp, p, none⟩ (.int .i64 pm)).drew := (HX1.out.setCell _ _ (.inl (by simp))).drew
  clear c0 c3 r2 j0 j1
  have HR2 := Lib.hid hr2
  have HB2 := Lib.hid hb2
  have HX2 := Lib.hid hx2
  have c0 := hb2.cell 0
  clear hr2 hb2 hx2
  go_wp2
  generalize (W1.setCell ⟨bp, p, none⟩ (.int .i64 pm)).drew = W2 at *
  clear c0
  have c4 := HB2.out.cell 4
  have c5 := HB2.out.cell 5
  have r3 := HR2.out.head.cell 3
  have k0 := HR2.out.pol.cell (k := p * 2) (by omega)
  have k1 := HR2.out.pol.fr (k := p * 2) (by omega)
  have k2 := HR2.out.pol.cell (k := p * 2 + 1) (by omega)
  have k3 := HR2.out.pol.fr (k := p * 2 + 1) (by omega)
  rw [polF_0] at k0
  rw [polF_1] at k2
  generalize plI f p = b1 at *
  go_region_held3 (fun cur => cur.cell? ⟨rp, 3, none⟩ = some (.slice (some ⟨bq, 0, none⟩) 4096 4096) ∧ cur.cell? ⟨w.heap.size, 4, none⟩ = some (.int .i64 pk) ∧ cur.cell? ⟨w.heap.size, 5, none⟩ = some (.int .i64 pn)) (go_keep) (fail)
  have hr3 := (HR2.out.setQ hp pk pn).ext0 (Ext.refl [] _).drew
  have HR3 := Lib.hid hr3
  clear c4 c5 r3 k0 k1 k2 k3 hr3
  go_wp2
  go_ret
  exact ⟨rfl, ((HX2.out.setCell _ _ (.inl (by simp))).setCell _ _ (.inl (by simp))).drew, HR3.out.congr (isB_upd f p (some (pm, pk, pn))) (pmI_upd f p (some (pm, pk, pn))) (plI_upd f p (some (pm, pk, pn)))⟩

theorem turn1_busy (w : World) (rp bi bp bq : Nat) (nodes : Int) (f : Nat → Option U) (h : RefIs w rp bi bp bq nodes f) (pg n pm pk pn ad by_ : Int) (p : Nat) (hp : p < 4096) (u : U) (hf : f p = some u) :
    Calls Try.prog 58 #[.pointer (some ⟨rp, 0, none⟩), .agg #[.int .i64 1, .int .i64 pg, .int .i64 n, .int .i64 pm, .int .i64 pk, .int .i64 pn, .int .i64 ad, .int .i64 by_], .int .i64 (p : Int)] w (TurnRet w rp bi bp bq nodes f p (8, some u)) := by
  have hx0 : Ext [] w (w.alloc (.cells #[.int .i64 1, .int .i64 pg, .int .i64 n, .int .i64 pm, .int .i64 pk, .int .i64 pn, .int .i64 ad, .int .i64 by_] 39)) := (Ext.refl _ _).alloc _
  have hb := Blk.new w [.int .i64 1, .int .i64 pg, .int .i64 n, .int .i64 pm, .int .i64 pk, .int .i64 pn, .int .i64 ad, .int .i64 by_] 39
  have h0 := h.ext0 hx0
  have c0 := hb.cell 0
  have c3 := hb.cell 3
  have c4 := hb.cell 4
  have c5 := hb.cell 5
  have r1 := h0.head.cell 1
  have r2 := h0.head.cell 2
  have r3 := h0.head.cell 3
  have i0 := h0.is_.cell hp
  have i1 := h0.is_.fr hp
  have j0 := h0.perm.cell hp
  have j1 := h0.perm.fr hp
  have k0 := h0.pol.cell (k := p * 2) (by omega)
  have k1 := h0.pol.fr (k := p * 2) (by omega)
  have k2 := h0.pol.cell (k := p * 2 + 1) (by omega)
  have k3 := h0.pol.fr (k := p * 2 + 1) (by omega)
  rw [polF_0] at k0
  rw [polF_1] at k2
  have e : isB f p = true := by simp [isB, hf]
  rw [e] at i0
  obtain ⟨d1, d2, d3⟩ := h.d1
  obtain ⟨d4, d5, d6⟩ := h.d2
  have d1' := d1.symm
  have d2' := d2.symm
  have d3' := d3.symm
  have l0 := h.head.lt
  have l1 := h.is_.lt
  have l2 := h.perm.lt
  have l3 := h.pol.lt
  have n0 : rp ≠ w.heap.size := by omega
  have n1 : bi ≠ w.heap.size := by omega
  have n2 : bp ≠ w.heap.size := by omega
  have n3 : bq ≠ w.heap.size := by omega
  have p0 : (0 : Int) ≤ (p : Int) := by omega
  have p1 : (p : Int) < 4096 := by omega
  have HX0 := Lib.hid hx0
  have H0 := Lib.hid h0
  have HF := Lib.hid hf
  clear h hb h0 e hf hx0
  go_enter Try.func58, Try.ntmps58
  go_wp2
  go_ret
  exact ⟨rfl, HX0.out.mono (by simp), H0.out.congr (fun q => by unfold isB upd; split; (subst_vars; rw [HF.out]); rfl) (fun q => by unfold pmI upd; split; (subst_vars; rw [HF.out]); rfl) (fun q => by unfold plI upd; split; (subst_vars; rw [HF.out]); rfl)⟩

theorem turn3_none (w : World) (rp bi bp bq : Nat) (nodes : Int) (f : Nat → Option U) (h : RefIs w rp bi bp bq nodes f) (pg n pm pk pn ad by_ : Int) (p : Nat) (hp : p < 4096) (hf : f p = none) :
    Calls Try.prog 58 #[.pointer (some ⟨rp, 0, none⟩), .agg #[.int .i64 3, .int .i64 pg, .int .i64 n, .int .i64 pm, .int .i64 pk, .int .i64 pn, .int .i64 ad, .int .i64 by_], .int .i64 (p : Int)] w (TurnRet w rp bi bp bq nodes f p (7, none)) := by
  have hx0 : Ext [] w (w.alloc (.cells #[.int .i64 3, .int .i64 pg, .int .i64 n, .int .i64 pm, .int .i64 pk, .int .i64 pn, .int .i64 ad, .int .i64 by_] 39)) := (Ext.refl _ _).alloc _
  have hb := Blk.new w [.int .i64 3, .int .i64 pg, .int .i64 n, .int .i64 pm, .int .i64 pk, .int .i64 pn, .int .i64 ad, .int .i64 by_] 39
  have h0 := h.ext0 hx0
  have c0 := hb.cell 0
  have c3 := hb.cell 3
  have c4 := hb.cell 4
  have c5 := hb.cell 5
  have r1 := h0.head.cell 1
  have r2 := h0.head.cell 2
  have r3 := h0.head.cell 3
  have i0 := h0.is_.cell hp
  have i1 := h0.is_.fr hp
  have j0 := h0.perm.cell hp
  have j1 := h0.perm.fr hp
  have k0 := h0.pol.cell (k := p * 2) (by omega)
  have k1 := h0.pol.fr (k := p * 2) (by omega)
  have k2 := h0.pol.cell (k := p * 2 + 1) (by omega)
  have k3 := h0.pol.fr (k := p * 2 + 1) (by omega)
  rw [polF_0] at k0
  rw [polF_1] at k2
  have e : isB f p = false := by simp [isB, hf]
  rw [e] at i0
  obtain ⟨d1, d2, d3⟩ := h.d1
  obtain ⟨d4, d5, d6⟩ := h.d2
  have d1' := d1.symm
  have d2' := d2.symm
  have d3' := d3.symm
  have l0 := h.head.lt
  have l1 := h.is_.lt
  have l2 := h.perm.lt
  have l3 := h.pol.lt
  have n0 : rp ≠ w.heap.size := by omega
  have n1 : bi ≠ w.heap.size := by omega
  have n2 : bp ≠ w.heap.size := by omega
  have n3 : bq ≠ w.heap.size := by omega
  have p0 : (0 : Int) ≤ (p : Int) := by omega
  have p1 : (p : Int) < 4096 := by omega
  have HX0 := Lib.hid hx0
  have H0 := Lib.hid h0
  have HF := Lib.hid hf
  clear h hb h0 e hf hx0
  go_enter Try.func58, Try.ntmps58
  go_wp2
  go_ret
  exact ⟨rfl, HX0.out.mono (by simp), H0.out.congr (fun q => by unfold isB upd; split; (subst_vars; rw [HF.out]); rfl) (fun q => by unfold pmI upd; split; (subst_vars; rw [HF.out]); rfl) (fun q => by unfold plI upd; split; (subst_vars; rw [HF.out]); rfl)⟩

theorem turn4_none (w : World) (rp bi bp bq : Nat) (nodes : Int) (f : Nat → Option U) (h : RefIs w rp bi bp bq nodes f) (pg n pm pk pn ad by_ : Int) (p : Nat) (hp : p < 4096) (hf : f p = none) :
    Calls Try.prog 58 #[.pointer (some ⟨rp, 0, none⟩), .agg #[.int .i64 4, .int .i64 pg, .int .i64 n, .int .i64 pm, .int .i64 pk, .int .i64 pn, .int .i64 ad, .int .i64 by_], .int .i64 (p : Int)] w (TurnRet w rp bi bp bq nodes f p (7, none)) := by
  have hx0 : Ext [] w (w.alloc (.cells #[.int .i64 4, .int .i64 pg, .int .i64 n, .int .i64 pm, .int .i64 pk, .int .i64 pn, .int .i64 ad, .int .i64 by_] 39)) := (Ext.refl _ _).alloc _
  have hb := Blk.new w [.int .i64 4, .int .i64 pg, .int .i64 n, .int .i64 pm, .int .i64 pk, .int .i64 pn, .int .i64 ad, .int .i64 by_] 39
  have h0 := h.ext0 hx0
  have c0 := hb.cell 0
  have c3 := hb.cell 3
  have c4 := hb.cell 4
  have c5 := hb.cell 5
  have r1 := h0.head.cell 1
  have r2 := h0.head.cell 2
  have r3 := h0.head.cell 3
  have i0 := h0.is_.cell hp
  have i1 := h0.is_.fr hp
  have j0 := h0.perm.cell hp
  have j1 := h0.perm.fr hp
  have k0 := h0.pol.cell (k := p * 2) (by omega)
  have k1 := h0.pol.fr (k := p * 2) (by omega)
  have k2 := h0.pol.cell (k := p * 2 + 1) (by omega)
  have k3 := h0.pol.fr (k := p * 2 + 1) (by omega)
  rw [polF_0] at k0
  rw [polF_1] at k2
  have e : isB f p = false := by simp [isB, hf]
  rw [e] at i0
  obtain ⟨d1, d2, d3⟩ := h.d1
  obtain ⟨d4, d5, d6⟩ := h.d2
  have d1' := d1.symm
  have d2' := d2.symm
  have d3' := d3.symm
  have l0 := h.head.lt
  have l1 := h.is_.lt
  have l2 := h.perm.lt
  have l3 := h.pol.lt
  have n0 : rp ≠ w.heap.size := by omega
  have n1 : bi ≠ w.heap.size := by omega
  have n2 : bp ≠ w.heap.size := by omega
  have n3 : bq ≠ w.heap.size := by omega
  have p0 : (0 : Int) ≤ (p : Int) := by omega
  have p1 : (p : Int) < 4096 := by omega
  have HX0 := Lib.hid hx0
  have H0 := Lib.hid h0
  have HF := Lib.hid hf
  clear h hb h0 e hf hx0
  go_enter Try.func58, Try.ntmps58
  go_wp2
  go_ret
  exact ⟨rfl, HX0.out.mono (by simp), H0.out.congr (fun q => by unfold isB upd; split; (subst_vars; rw [HF.out]); rfl) (fun q => by unfold pmI upd; split; (subst_vars; rw [HF.out]); rfl) (fun q => by unfold plI upd; split; (subst_vars; rw [HF.out]); rfl)⟩

theorem turn3_some (w : World) (rp bi bp bq : Nat) (nodes : Int) (f : Nat → Option U) (h : RefIs w rp bi bp bq nodes f) (pg n pm pk pn ad by_ : Int) (p : Nat) (hp : p < 4096) (u : U) (hf : f p = some u) :
    Calls Try.prog 58 #[.pointer (some ⟨rp, 0, none⟩), .agg #[.int .i64 3, .int .i64 pg, .int .i64 n, .int .i64 pm, .int .i64 pk, .int .i64 pn, .int .i64 ad, .int .i64 by_], .int .i64 (p : Int)] w (TurnRet w rp bi bp bq nodes f p (0, some (pm, u.2))) := by
  have hx0 : Ext [] w (w.alloc (.cells #[.int .i64 3, .int .i64 pg, .int .i64 n, .int .i64 pm, .int .i64 pk, .int .i64 pn, .int .i64 ad, .int .i64 by_] 39)) := (Ext.refl _ _).alloc _
  have hb := Blk.new w [.int .i64 3, .int .i64 pg, .int .i64 n, .int .i64 pm, .int .i64 pk, .int .i64 pn, .int .i64 ad, .int .i64 by_] 39
  have h0 := h.ext0 hx0
  have c0 := hb.cell 0
  have c3 := hb.cell 3
  have c4 := hb.cell 4
  have c5 := hb.cell 5
  have r1 := h0.head.cell 1
  have r2 := h0.head.cell 2
  have r3 := h0.head.cell 3
  have i0 := h0.is_.cell hp
  have i1 := h0.is_.fr hp
  have j0 := h0.perm.cell hp
  have j1 := h0.perm.fr hp
  have k0 := h0.pol.cell (k := p * 2) (by omega)
  have k1 := h0.pol.fr (k := p * 2) (by omega)
  have k2 := h0.pol.cell (k := p * 2 + 1) (by omega)
  have k3 := h0.pol.fr (k := p * 2 + 1) (by omega)
  rw [polF_0] at k0
  rw [polF_1] at k2
  have e : isB f p = true := by simp [isB, hf]
  rw [e] at i0
  obtain ⟨d1, d2, d3⟩ := h.d1
  obtain ⟨d4, d5, d6⟩ := h.d2
  have d1' := d1.symm
  have d2' := d2.symm
  have d3' := d3.symm
  have l0 := h.head.lt
  have l1 := h.is_.lt
  have l2 := h.perm.lt
  have l3 := h.pol.lt
  have n0 : rp ≠ w.heap.size := by omega
  have n1 : bi ≠ w.heap.size := by omega
  have n2 : bp ≠ w.heap.size := by omega
  have n3 : bq ≠ w.heap.size := by omega
  have p0 : (0 : Int) ≤ (p : Int) := by omega
  have p1 : (p : Int) < 4096 := by omega
  have hr1 := (h.setI hp true).ext0 ((Ext.refl [] _).alloc (.cells #[.int .i64 3, .int .i64 pg, .int .i64 n, .int .i64 pm, .int .i64 pk, .int .i64 pn, .int .i64 ad, .int .i64 by_] 39))
  have hb1 := Blk.new (w.setCell ⟨bi, p, none⟩ (.bool true)) [.int .i64 3, .int .i64 pg, .int .i64 n, .int .i64 pm, .int .i64 pk, .int .i64 pn, .int .i64 ad, .int .i64 by_] 39
  rw [size_setCell] at hb1
  have hx1 : Ext [bi, bp, bq] w ((w.setCell ⟨bi, p, none⟩ (.bool true)).alloc (.cells #[.int .i64 3, .int .i64 pg, .int .i64 n, .int .i64 pm, .int .i64 pk, .int .i64 pn, .int .i64 ad, .int .i64 by_] 39)) := ((Ext.refl _ _).setCell _ _ (.inl (by simp))).alloc _
  have HR1 := Lib.hid hr1
  have HB1 := Lib.hid hb1
  have HX1 := Lib.hid hx1
  have HF := Lib.hid hf
  clear h hb h0 e hf hx0 hr1 hb1 hx1
  go_enter Try.func58, Try.ntmps58
  go_wp2
  generalize (w.setCell ⟨bi, p, none⟩ (.bool true)).alloc (.cells #[.int .i64 3, .int .i64 pg, .int .i64 n, .int .i64 pm, .int .i64 pk, .int .i64 pn, .int .i64 ad, .int .i64 by_] 39) = W1 at *
  clear c0 c3 c4 c5 r1 r2 r3 i0 i1 j0 j1 k0 k1 k2 k3
  have c0 := HB1.out.cell 0
  have c3 := HB1.out.cell 3
  have r2 := HR1.out.head.cell 2
  have j0 := HR1.out.perm.cell hp
  have j1 := HR1.out.perm.fr hp
  go_region_held3 (fun cur => cur.cell? ⟨rp, 2, none⟩ = some (.slice (some ⟨bp, 0, none⟩) 4096 4096) ∧ cur.cell? ⟨w.heap.size, 3, none⟩ = some (.int .i64 pm)) (go_keep) (fail)
  have hr2 := (HR1.out.setP hp pm).ext0 (Ext.refl [] _).drew
  have hb2 := (HB1.out.set_ne (p := ⟨bp, p, none⟩) (.int .i64 pm) (by simpa using n2.symm)).ext (Ext.refl [] _).drew (by simp)
  have hx2 : Ext [bi, bp, bq] w (W1.setCell ⟨bp, p, none⟩ (.int .i64 pm)).drew := (HX1.out.setCell _ _ (.inl (by simp))).drew
  clear c0 c3 r2 j0 j1
  have HR2 := Lib.hid hr2
  have HB2 := Lib.hid hb2
  have HX2 := Lib.hid hx2
  have c0 := hb2.cell 0
  clear hr2 hb2 hx2
  go_wp2
  go_ret
  exact ⟨rfl, HX2.out, HR2.out.congr (isB_upd f p (some (pm, u.2))) (pmI_upd f p (some (pm, u.2))) (fun q => by unfold plI upd; split; (subst_vars; rw [HF.out]; rfl); rfl)⟩

theorem turn4_some (w : World) (rp bi bp bq : Nat) (nodes : Int) (f : Nat → Option U) (h : RefIs w rp bi bp bq nodes f) (pg n pm pk pn ad by_ : Int) (p : Nat) (hp : p < 4096) (u : U) (hf : f p = some u) :
    Calls Try.prog 58 #[.pointer (some ⟨rp, 0, none⟩), .agg #[.int .i64 4, .int .i64 pg, .int .i64 n, .int .i64 pm, .int .i64 pk, .int .i64 pn, .int .i64 ad, .int .i64 by_], .int .i64 (p : Int)] w (TurnRet w rp bi bp bq nodes f p (0, some (u.1, pk, pn))) := by
  have hx0 : Ext [] w (w.alloc (.cells #[.int .i64 4, .int .i64 pg, .int .i64 n, .int .i64 pm, .int .i64 pk, .int .i64 pn, .int .i64 ad, .int .i64 by_] 39)) := (Ext.refl _ _).alloc _
  have hb := Blk.new w [.int .i64 4, .int .i64 pg, .int .i64 n, .int .i64 pm, .int .i64 pk, .int .i64 pn, .int .i64 ad, .int .i64 by_] 39
  have h0 := h.ext0 hx0
  have c0 := hb.cell 0
  have c3 := hb.cell 3
  have c4 := hb.cell 4
  have c5 := hb.cell 5
  have r1 := h0.head.cell 1
  have r2 := h0.head.cell 2
  have r3 := h0.head.cell 3
  have i0 := h0.is_.cell hp
  have i1 := h0.is_.fr hp
  have j0 := h0.perm.cell hp
  have j1 := h0.perm.fr hp
  have k0 := h0.pol.cell (k := p * 2) (by omega)
  have k1 := h0.pol.fr (k := p * 2) (by omega)
  have k2 := h0.pol.cell (k := p * 2 + 1) (by omega)
  have k3 := h0.pol.fr (k := p * 2 + 1) (by omega)
  rw [polF_0] at k0
  rw [polF_1] at k2
  have e : isB f p = true := by simp [isB, hf]
  rw [e] at i0
  obtain ⟨d1, d2, d3⟩ := h.d1
  obtain ⟨d4, d5, d6⟩ := h.d2
  have d1' := d1.symm
  have d2' := d2.symm
  have d3' := d3.symm
  have l0 := h.head.lt
  have l1 := h.is_.lt
  have l2 := h.perm.lt
  have l3 := h.pol.lt
  have n0 : rp ≠ w.heap.size := by omega
  have n1 : bi ≠ w.heap.size := by omega
  have n2 : bp ≠ w.heap.size := by omega
  have n3 : bq ≠ w.heap.size := by omega
  have p0 : (0 : Int) ≤ (p : Int) := by omega
  have p1 : (p : Int) < 4096 := by omega
  have hr1 := (h.setI hp true).ext0 ((Ext.refl [] _).alloc (.cells #[.int .i64 4, .int .i64 pg, .int .i64 n, .int .i64 pm, .int .i64 pk, .int .i64 pn, .int .i64 ad, .int .i64 by_] 39))
  have hb1 := Blk.new (w.setCell ⟨bi, p, none⟩ (.bool true)) [.int .i64 4, .int .i64 pg, .int .i64 n, .int .i64 pm, .int .i64 pk, .int .i64 pn, .int .i64 ad, .int .i64 by_] 39
  rw [size_setCell] at hb1
  have hx1 : Ext [bi, bp, bq] w ((w.setCell ⟨bi, p, none⟩ (.bool true)).alloc (.cells #[.int .i64 4, .int .i64 pg, .int .i64 n, .int .i64 pm, .int .i64 pk, .int .i64 pn, .int .i64 ad, .int .i64 by_] 39)) := ((Ext.refl _ _).setCell _ _ (.inl (by simp))).alloc _
  have HR1 := Lib.hid hr1
  have HB1 := Lib.hid hb1
  have HX1 := Lib.hid hx1
  have HF := Lib.hid hf
  clear h hb h0 e hf hx0 hr1 hb1 hx1
  go_enter Try.func58, Try.ntmps58
  go_wp2
  generalize (w.setCell ⟨bi, p, none⟩ (.bool true)).alloc (.cells #[.int .i64 4, .int .i64 pg, .int .i64 n, .int .i64 pm, .int .i64 pk, .int .i64 pn, .int .i64 ad, .int .i64 by_] 39) = W1 at *
  clear c0 c3 c4 c5 r1 r2 r3 i0 i1 j0 j1 k0 k1 k2 k3
  have HR2 := HR1
  have HB2 := HB1
  have HX2 := HX1
  have c4 := HB2.out.cell 4
  have c5 := HB2.out.cell 5
  have r3 := HR2.out.head.cell 3
  have k0 := HR2.out.pol.cell (k := p * 2) (by omega)
  have k1 := HR2.out.pol.fr (k := p * 2) (by omega)
  have k2 := HR2.out.pol.cell (k := p * 2 + 1) (by omega)
  have k3 := HR2.out.pol.fr (k := p * 2 + 1) (by omega)
  rw [polF_0] at k0
  rw [polF_1] at k2
  generalize plI f p = b1 at *
  go_region_held3 (fun cur => cur.cell? ⟨rp, 3, none⟩ = some (.slice (some ⟨bq, 0, none⟩) 4096 4096) ∧ cur.cell? ⟨w.heap.size, 4, none⟩ = some (.int .i64 pk) ∧ cur.cell? ⟨w.heap.size, 5, none⟩ = some (.int .i64 pn)) (go_keep) (fail)
  have hr3 := (HR2.out.setQ hp pk pn).ext0 (Ext.refl [] _).drew
  have HR3 := Lib.hid hr3
  clear c4 c5 r3 k0 k1 k2 k3 hr3
  go_wp2
  go_ret
  exact ⟨rfl, ((HX2.out.setCell _ _ (.inl (by simp))).setCell _ _ (.inl (by simp))).drew, HR3.out.congr (isB_upd f p (some (u.1, pk, pn))) (fun q => by unfold pmI upd; split; (subst_vars; rw [HF.out]; rfl); rfl) (plI_upd f p (some (u.1, pk, pn)))⟩

theorem turn2_any (w : World) (rp bi bp bq : Nat) (nodes : Int) (f : Nat → Option U) (h : RefIs w rp bi bp bq nodes f) (pg n pm pk pn ad by_ : Int) (p : Nat) (hp : p < 4096) :
    Calls Try.prog 58 #[.pointer (some ⟨rp, 0, none⟩), .agg #[.int .i64 2, .int .i64 pg, .int .i64 n, .int .i64 pm, .int .i64 pk, .int .i64 pn, .int .i64 ad, .int .i64 by_], .int .i64 (p : Int)] w (TurnRet w rp bi bp bq nodes f p (0, none)) := by
  have hx0 : Ext [] w (w.alloc (.cells #[.int .i64 2, .int .i64 pg, .int .i64 n, .int .i64 pm, .int .i64 pk, .int .i64 pn, .int .i64 ad, .int .i64 by_] 39)) := (Ext.refl _ _).alloc _
  have hb := Blk.new w [.int .i64 2, .int .i64 pg, .int .i64 n, .int .i64 pm, .int .i64 pk, .int .i64 pn, .int .i64 ad, .int .i64 by_] 39
  have h0 := h.ext0 hx0
  have c0 := hb.cell 0
  have c3 := hb.cell 3
  have c4 := hb.cell 4
  have c5 := hb.cell 5
  have r1 := h0.head.cell 1
  have r2 := h0.head.cell 2
  have r3 := h0.head.cell 3
  have i0 := h0.is_.cell hp
  have i1 := h0.is_.fr hp
  have j0 := h0.perm.cell hp
  have j1 := h0.perm.fr hp
  have k0 := h0.pol.cell (k := p * 2) (by omega)
  have k1 := h0.pol.fr (k := p * 2) (by omega)
  have k2 := h0.pol.cell (k := p * 2 + 1) (by omega)
  have k3 := h0.pol.fr (k := p * 2 + 1) (by omega)
  rw [polF_0] at k0
  rw [polF_1] at k2
  obtain ⟨d1, d2, d3⟩ := h.d1
  obtain ⟨d4, d5, d6⟩ := h.d2
  have d1' := d1.symm
  have d2' := d2.symm
  have d3' := d3.symm
  have l0 := h.head.lt
  have l1 := h.is_.lt
  have l2 := h.perm.lt
  have l3 := h.pol.lt
  have n0 : rp ≠ w.heap.size := by omega
  have n1 : bi ≠ w.heap.size := by omega
  have n2 : bp ≠ w.heap.size := by omega
  have n3 : bq ≠ w.heap.size := by omega
  have p0 : (0 : Int) ≤ (p : Int) := by omega
  have p1 : (p : Int) < 4096 := by omega
  have R1 := h.head.cell 1
  have R2 := h.head.cell 2
  have R3 := h.head.cell 3
  have J0 := h.perm.cell hp
  have J1 := h.perm.fr hp
  have K0 := h.pol.cell (k := p * 2) (by omega)
  have K1 := h.pol.fr (k := p * 2) (by omega)
  have K2 := h.pol.cell (k := p * 2 + 1) (by omega)
  have K3 := h.pol.fr (k := p * 2 + 1) (by omega)
  rw [polF_0] at K0
  rw [polF_1] at K2
  have hr := (((h.setI hp false).setP hp 0).setQ hp 0 0).ext0 ((Ext.refl [] _).alloc (.cells #[.int .i64 2, .int .i64 pg, .int .i64 n, .int .i64 pm, .int .i64 pk, .int .i64 pn, .int .i64 ad, .int .i64 by_] 39))
  have hx : Ext [bi, bp, bq] w (((((w.setCell ⟨bi, p, none⟩ (.bool false)).setCell ⟨bp, p, none⟩ (.int .i64 0)).setCell ⟨bq, p * 2, none⟩ (.int .i64 0)).setCell ⟨bq, p * 2 + 1, none⟩ (.int .i64 0)).alloc (.cells #[.int .i64 2, .int .i64 pg, .int .i64 n, .int .i64 pm, .int .i64 pk, .int .i64 pn, .int .i64 ad, .int .i64 by_] 39)) :=
    (((((Ext.refl _ _).setCell _ _ (.inl (by simp))).setCell _ _ (.inl (by simp))).setCell _ _ (.inl (by simp))).setCell _ _ (.inl (by simp))).alloc _
  have HR := Lib.hid hr
  have HX := Lib.hid hx
  generalize isB f p = e0 at *
  generalize pmI f p = e1 at *
  generalize plI f p = e2 at *
  clear h hb h0 hx0 hr hx
  go_enter Try.func58, Try.ntmps58
  go_wp2
  go_ret
  exact ⟨rfl, HX.out, HR.out.congr (isB_upd f p none) (pmI_upd f p none) (plI_upd f p none)⟩

theorem turn_c (w : World) (rp bi bp bq : Nat) (nodes : Int) (f : Nat → Option U) (h : RefIs w rp bi bp bq nodes f) (k pg n pm pk pn ad by_ : Int) (p : Nat) (hp : p < 4096) (hk : 1 ≤ k ∧ k ≤ 4) :
    Calls Try.prog 58 #[.pointer (some ⟨rp, 0, none⟩), .agg #[.int .i64 k, .int .i64 pg, .int .i64 n, .int .i64 pm, .int .i64 pk, .int .i64 pn, .int .i64 ad, .int .i64 by_], .int .i64 (p : Int)] w (TurnRet w rp bi bp bq nodes f p (turnR k pm pk pn (f p))) := by
  have hk : k = 1 ∨ k = 2 ∨ k = 3 ∨ k = 4 := by omega
  cases hf : f p with
  | none =>
    rcases hk with rfl | rfl | rfl | rfl
    · exact turn1_none w rp bi bp bq nodes f h pg n pm pk pn ad by_ p hp hf
    · exact turn2_any w rp bi bp bq nodes f h pg n pm pk pn ad by_ p hp
    · exact turn3_none w rp bi bp bq nodes f h pg n pm pk pn ad by_ p hp hf
    · exact turn4_none w rp bi bp bq nodes f h pg n pm pk pn ad by_ p hp hf
  | some u =>
    rcases hk with rfl | rfl | rfl | rfl
    · exact turn1_busy w rp bi bp bq nodes f h pg n pm pk pn ad by_ p hp u hf
    · exact turn2_any w rp bi bp bq nodes f h pg n pm pk pn ad by_ p hp
    · exact turn3_some w rp bi bp bq nodes f h pg n pm pk pn ad by_ p hp u hf
    · exact turn4_some w rp bi bp bq nodes f h pg n pm pk pn ad by_ p hp u hf

end Go.Proofs.Ytjicpblncfgiaaa
