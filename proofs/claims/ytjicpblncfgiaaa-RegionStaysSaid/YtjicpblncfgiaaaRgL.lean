/-
  Region's reference: Apply.
-/
import Derived.Test.YtjicpblncfgiaaaRgI
import Derived.Test.YtjicpblncfgiaaaRgU
import Derived.Test.YtjicpblncfgiaaaRgC
namespace Go.Proofs.Ytjicpblncfgiaaa
set_option linter.unusedVariables false
set_option linter.unusedSimpArgs false
open Go.RowKit RgT SpT
set_option maxHeartbeats 4000000
set_option maxRecDepth 100000
set_option linter.unusedVariables false
set_option linter.unusedSimpArgs false

theorem applyF_bad {nodes : Int} {c : Cl} {f : Nat → Option U} (h : c.chk nodes = 1) : applyF nodes c f = (1, f) := by unfold applyF; rw [if_pos (by omega)]
theorem applyF_fail {nodes : Int} {c : Cl} {f : Nat → Option U} (h : c.chk nodes = 0) {p : Nat} (h1 : lo c ≤ p) (h2 : p < hi c) (hp : (c.turn (f p)).1 ≠ 0) : applyF nodes c f = (failC c.k, f) := by
  unfold applyF; rw [if_neg (by omega), if_pos (fun ho => hp (ho p h1 h2))]
theorem applyF_full {nodes : Int} {c : Cl} {f : Nat → Option U} (h : c.chk nodes = 0) (ho : okF c f (lo c) (hi c)) (hl : 64 < (allK (turnF c f (lo c) (hi c)) 4096).length) : applyF nodes c f = (2, f) := by
  unfold applyF; rw [if_neg (by omega), if_neg (fun x => x ho), if_pos hl]
theorem applyF_done {nodes : Int} {c : Cl} {f : Nat → Option U} (h : c.chk nodes = 0) (ho : okF c f (lo c) (hi c)) (hl : ¬ 64 < (allK (turnF c f (lo c) (hi c)) 4096).length) : applyF nodes c f = (0, turnF c f (lo c) (hi c)) := by
  unfold applyF; rw [if_neg (by omega), if_neg (fun x => x ho), if_neg hl]
/-- The reference's space, wherever its rows lie. -/
def RB9 (w : World) (rp : Nat) (nodes : Int) (f : Nat → Option U) : Prop := ∃ bi bp bq, RefIs w rp bi bp bq nodes f
def RApp (w : World) (rp : Nat) (nodes : Int) (r : Int × (Nat → Option U)) (e : Ending) (w' : World) : Prop :=
  e = .returned (.agg #[.int .i64 r.1, .int .i64 0]) ∧ Ext [rp] w w' ∧ RB9 w' rp nodes r.2
/-- What lies in the reference's memory hangs on no other block. -/
theorem RefIs.off {w : World} {rp bi bp bq : Nat} {nodes : Int} {f : Nat → Option U} (h : RefIs w rp bi bp bq nodes f) {b : Nat} {cs : List Value} {t : TypeId} (hb : Blk w b cs t) (hl : cs.length < 4) : rp ≠ b ∧ bi ≠ b ∧ bp ≠ b ∧ bq ≠ b := by
  refine ⟨fun e => ?_, fun e => ?_, fun e => ?_, fun e => ?_⟩
  · subst e
    have h1 := h.head.cell 3
    rw [hb.cell 3, List.getElem?_eq_none (by omega)] at h1
    cases h1
  · subst e
    have h1 := h.is_.cell (k := 100) (by omega)
    rw [hb.cell 100, List.getElem?_eq_none (by omega)] at h1
    cases h1
  · subst e
    have h1 := h.perm.cell (k := 100) (by omega)
    rw [hb.cell 100, List.getElem?_eq_none (by omega)] at h1
    cases h1
  · subst e
    have h1 := h.pol.cell (k := 100) (by omega)
    rw [hb.cell 100, List.getElem?_eq_none (by omega)] at h1
    cases h1

theorem rapply_bad (w : World) (rp bi bp bq : Nat) (nodes : Int) (f : Nat → Option U) (h : RefIs w rp bi bp bq nodes f) (h1 : 1 ≤ nodes) (h8 : nodes ≤ 8) (hb : ∀ p, 4096 ≤ p → f p = none) (k pg n pm pk pn ad by_ : Int) (hk : Cl.chk nodes ⟨k, pg, n, pm, pk, pn, ad, by_⟩ = 1) :
    Calls Try.prog 38 #[.pointer (some ⟨rp, 0, none⟩), .agg #[.int .i64 k, .int .i64 pg, .int .i64 n, .int .i64 pm, .int .i64 pk, .int .i64 pn, .int .i64 ad, .int .i64 by_]] w (RApp w rp nodes (applyF nodes ⟨k, pg, n, pm, pk, pn, ad, by_⟩ f)) := by
  have hxA : Ext [] w ((w.alloc (.cells #[.int .i64 k, .int .i64 pg, .int .i64 n, .int .i64 pm, .int .i64 pk, .int .i64 pn, .int .i64 ad, .int .i64 by_] 39)).alloc (.cells #[.int .i64 0, .int .i64 0] 42)) := ((Ext.refl _ _).alloc _).alloc _
  have hsA : ((w.alloc (.cells #[.int .i64 k, .int .i64 pg, .int .i64 n, .int .i64 pm, .int .i64 pk, .int .i64 pn, .int .i64 ad, .int .i64 by_] 39)).alloc (.cells #[.int .i64 0, .int .i64 0] 42)).heap.size = w.heap.size + 1 + 1 := by simp
  have BC := (Blk.new w [.int .i64 k, .int .i64 pg, .int .i64 n, .int .i64 pm, .int .i64 pk, .int .i64 pn, .int .i64 ad, .int .i64 by_] 39).alloc (.cells #[.int .i64 0, .int .i64 0] 42)
  have BR := Blk.new (w.alloc (.cells #[.int .i64 k, .int .i64 pg, .int .i64 n, .int .i64 pm, .int .i64 pk, .int .i64 pn, .int .i64 ad, .int .i64 by_] 39)) [.int .i64 0, .int .i64 0] 42
  rw [World.size_alloc] at BR
  have hA := h.ext0 hxA
  have lt0 := h.head.lt
  have lt1 := h.is_.lt
  have lt2 := h.perm.lt
  have lt3 := h.pol.lt
  have c0 := BC.cell 0
  have c1 := BC.cell 1
  have c2 := BC.cell 2
  have c3 := BC.cell 3
  have c4 := BC.cell 4
  have c5 := BC.cell 5
  have c6 := BC.cell 6
  have c7 := BC.cell 7
  have r0 := BR.cell 0
  have r1 := BR.cell 1
  have f0 := BR.frozen 0
  have f1 := BR.frozen 1
  have cc := rcheck_c _ rp _ _ _ nodes k pg n pm pk pn ad by_ hA.head
  rw [show chkS nodes k pg n pm pk pn = Cl.chk nodes ⟨k, pg, n, pm, pk, pn, ad, by_⟩ from rfl] at cc
  have HBC := Lib.hid BC
  have HBR := Lib.hid BR
  have HXA := Lib.hid hxA
  have HR := Lib.hid hA
  have HFB := Lib.hid hb
  have HSA := Lib.hid hsA
  clear h hb hxA BC BR hA hsA
  have HAP := Lib.hid (applyF_bad (f := f) hk)
  rw [hk] at cc
  have CC := Lib.hid cc
  clear cc hk
  rw [HAP.out]
  go_enter Try.func38, Try.ntmps38
  go_wp2_with (go_at_call 37; refine (CC.out).mono ?_; rintro e w1 ⟨rfl, hx⟩; have HX1 := Lib.hid hx; have HBR1 := Lib.hid (HBR.out.ext hx (by simp)); have HR1 := Lib.hid (HR.out.ext0 hx); clear hx c0 c1 c2 c3 c4 c5 c6 c7 r0 r1 f0 f1; have r0 := HBR1.out.cell 0; have r1 := HBR1.out.cell 1; have f0 := HBR1.out.frozen 0; have f1 := HBR1.out.frozen 1)
  have F := (HBR1.out.set 0 (.int .i64 1)).set 1 (.int .i64 0)
  have t0 := F.cell 0
  have t1 := F.cell 1
  simp only [List.set_cons_zero, List.set_cons_succ, List.getElem?_cons_zero, List.getElem?_cons_succ] at t0 t1
  (try simp only [Exit.inBlock, Exit.then])
  refine bodyPost_ret (?_ : (results _ _).run _ _ = .ok (.agg #[.int .i64 1, .int .i64 0]) _) rfl ?_
  · rw [results_cell1 rfl]
    simp [go_sem, t0, t1]
  exact ⟨rfl, (((HXA.out.trans HX1.out).mono (by simp)).setCell _ _ (.inr (by simp))).setCell _ _ (.inr (by simp)), _, _, _, HR1.out.ext (((Ext.refl [w.heap.size + 1] _).setCell ⟨w.heap.size + 1, 0, none⟩ _ (.inl (by simp))).setCell ⟨w.heap.size + 1, 1, none⟩ _ (.inl (by simp))) (by simp; omega) (by simp; omega) (by simp; omega) (by simp; omega)⟩

theorem rapply_ok (w : World) (rp bi bp bq : Nat) (nodes : Int) (f : Nat → Option U) (h : RefIs w rp bi bp bq nodes f) (h1 : 1 ≤ nodes) (h8 : nodes ≤ 8) (hb : ∀ p, 4096 ≤ p → f p = none) (k : Int) (a m : Nat) (pm pk pn ad by_ : Int) (hk : Cl.chk nodes ⟨k, (a : Int), (m : Int), pm, pk, pn, ad, by_⟩ = 0) (hm : 1 ≤ m) (ham : a + m ≤ 4096) :
    Calls Try.prog 38 #[.pointer (some ⟨rp, 0, none⟩), .agg #[.int .i64 k, .int .i64 (a : Int), .int .i64 (m : Int), .int .i64 pm, .int .i64 pk, .int .i64 pn, .int .i64 ad, .int .i64 by_]] w (RApp w rp nodes (applyF nodes ⟨k, (a : Int), (m : Int), pm, pk, pn, ad, by_⟩ f)) := by
  have hxA : Ext [] w ((w.alloc (.cells #[.int .i64 k, .int .i64 (a : Int), .int .i64 (m : Int), .int .i64 pm, .int .i64 pk, .int .i64 pn, .int .i64 ad, .int .i64 by_] 39)).alloc (.cells #[.int .i64 0, .int .i64 0] 42)) := ((Ext.refl _ _).alloc _).alloc _
  have hsA : ((w.alloc (.cells #[.int .i64 k, .int .i64 (a : Int), .int .i64 (m : Int), .int .i64 pm, .int .i64 pk, .int .i64 pn, .int .i64 ad, .int .i64 by_] 39)).alloc (.cells #[.int .i64 0, .int .i64 0] 42)).heap.size = w.heap.size + 1 + 1 := by simp
  have BC := (Blk.new w [.int .i64 k, .int .i64 (a : Int), .int .i64 (m : Int), .int .i64 pm, .int .i64 pk, .int .i64 pn, .int .i64 ad, .int .i64 by_] 39).alloc (.cells #[.int .i64 0, .int .i64 0] 42)
  have BR := Blk.new (w.alloc (.cells #[.int .i64 k, .int .i64 (a : Int), .int .i64 (m : Int), .int .i64 pm, .int .i64 pk, .int .i64 pn, .int .i64 ad, .int .i64 by_] 39)) [.int .i64 0, .int .i64 0] 42
  rw [World.size_alloc] at BR
  have hA := h.ext0 hxA
  have lt0 := h.head.lt
  have lt1 := h.is_.lt
  have lt2 := h.perm.lt
  have lt3 := h.pol.lt
  have c0 := BC.cell 0
  have c1 := BC.cell 1
  have c2 := BC.cell 2
  have c3 := BC.cell 3
  have c4 := BC.cell 4
  have c5 := BC.cell 5
  have c6 := BC.cell 6
  have c7 := BC.cell 7
  have r0 := BR.cell 0
  have r1 := BR.cell 1
  have f0 := BR.frozen 0
  have f1 := BR.frozen 1
  have cc := rcheck_c _ rp _ _ _ nodes k (a : Int) (m : Int) pm pk pn ad by_ hA.head
  rw [show chkS nodes k (a : Int) (m : Int) pm pk pn = Cl.chk nodes ⟨k, (a : Int), (m : Int), pm, pk, pn, ad, by_⟩ from rfl] at cc
  have HBC := Lib.hid BC
  have HBR := Lib.hid BR
  have HXA := Lib.hid hxA
  have HR := Lib.hid hA
  have HFB := Lib.hid hb
  have HSA := Lib.hid hsA
  clear h hb hxA BC BR hA hsA
  rw [hk] at cc
  obtain ⟨c, hc⟩ : ∃ c : Cl, c = ⟨k, (a : Int), (m : Int), pm, pk, pn, ad, by_⟩ := ⟨_, rfl⟩
  rw [← hc] at hk ⊢
  have HKK := Lib.hid (chk_yes hk).1
  have HL1 : Hid (lo c = a) := by show _ = _; rw [hc]; unfold lo; simp
  have HL2 : Hid (hi c = a + m) := by show _ = _; rw [hc]; unfold hi; simp only []; omega
  have HTT : Hid (∀ o, turnR k pm pk pn o = c.turn o) := by show ∀ o, _; intro o; rw [hc]; rfl
  have HCK : Hid (c.k = k) := by show _ = _; rw [hc]
  have CC := Lib.hid cc
  have HK := Lib.hid hk
  clear cc hk hc
  have hAPf := fun p h1 h2 hp => applyF_fail (f := f) HK.out (p := p) h1 h2 hp
  rw [HL1.out, HL2.out] at hAPf
  have hAPu := fun ho hl => applyF_full (f := f) HK.out ho hl
  have hAPd := fun ho hl => applyF_done (f := f) HK.out ho hl
  rw [HL1.out, HL2.out] at hAPu hAPd
  have HAPf := Lib.hid hAPf
  have HAPu := Lib.hid hAPu
  have HAPd := Lib.hid hAPd
  clear hAPf hAPu hAPd
  have g0 : (0 : Int) ≤ (a : Int) := by omega
  have g1 : (a : Int) + (m : Int) ≤ 4096 := by omega
  go_enter Try.func38, Try.ntmps38
  go_wp2_with (first
    | (go_at_call 37; refine (CC.out).mono ?_; rintro e w1 ⟨rfl, hx⟩; have HX1 := Lib.hid hx; have HBC1 := Lib.hid (HBC.out.ext hx (by simp)); have HBR1 := Lib.hid (HBR.out.ext hx (by simp)); have HR1 := Lib.hid (HR.out.ext0 hx); have HS1 := Lib.hid hx.size; clear hx c0 c1 c2 c3 c4 c5 c6 c7 r0 r1 f0 f1)
    | (go_at_call 57; refine (rcopy_c _ rp bi bp bq nodes f HR1.out h1 h8 HFB.out).mono ?_; rintro e w2 ⟨cp, ci, cq, cr, rfl, hx, hr, q1, q2, q3, q4⟩; have HX2 := Lib.hid hx; have HBC2 := Lib.hid (HBC1.out.ext hx (by simp)); have HBR2 := Lib.hid (HBR1.out.ext hx (by simp)); have HR2 := Lib.hid (HR1.out.ext0 hx); have HT2 := Lib.hid hr; have HQ := Lib.hid (⟨q1, q2, q3, q4⟩ : w1.heap.size ≤ cp ∧ w1.heap.size ≤ ci ∧ w1.heap.size ≤ cq ∧ w1.heap.size ≤ cr); have c1 := HBC2.out.cell 1; clear hx hr q1 q2 q3 q4))
  go_wp2
  have HS := Lib.hid (show w.heap.size + 1 + 1 ≤ w1.heap.size by have := HS1.out; rw [HSA.out] at this; exact this)
  obtain ⟨wz, hwz⟩ : ∃ wz : World, wz = w2 := ⟨_, rfl⟩
  go_loopw [5, 7] (fun e5 p wr => ∃ j : Nat, j ≤ m ∧ p = .int .i64 ((a + j : Nat) : Int) ∧ Ext [ci, cq, cr] w2 wr ∧ RefIs wr cp ci cq cr nodes (turnF c f a (a + j)) ∧ okF c f a (a + j)) (fun _ p _ => (a + m) - (intOf p).toNat)
  case atStart => exact ⟨0, by omega, rfl, Ext.refl _ _, by rw [turnF_zero]; exact HT2.out, fun p h1 h2 => by omega⟩
  case round =>
    obtain ⟨j, hj, rfl, hX, hR, hO⟩ := hrel
    have HX3 := Lib.hid hX
    have HR3 := Lib.hid hR
    have HO := Lib.hid hO
    have hBC := HBC2.out.ext hX (by have := HQ.out; have := HS.out; simp; omega)
    have hBR := HBR2.out.ext hX (by have := HQ.out; have := HS.out; simp; omega)
    have c0 := hBC.cell 0
    have c1 := hBC.cell 1
    have c2 := hBC.cell 2
    have c3 := hBC.cell 3
    have c4 := hBC.cell 4
    have c5 := hBC.cell 5
    have c6 := hBC.cell 6
    have c7 := hBC.cell 7
    have HBR3 := Lib.hid hBR
    have HRo := Lib.hid (HR2.out.ext hX (by have := HQ.out; have := HS.out; simp; omega) (by have := HQ.out; have := HS.out; simp; omega) (by have := HQ.out; have := HS.out; simp; omega) (by have := HQ.out; have := HS.out; simp; omega))
    clear hX hR hO hBC hBR
    by_cases hlt : j < m
    · have hd : ((a + j : Nat) : Int) < (a : Int) + (m : Int) := by omega
      have hp4 : a + j < 4096 := by omega
      rcases turn_code c (f (a + j)) with hc0 | ⟨hc1, hc2⟩
      · have ht : Hid (TurnRet wr cp ci cq cr nodes (turnF c f a (a + j)) (a + j) (turnR k pm pk pn (turnF c f a (a + j) (a + j))) = fun e w' => e = .returned (.int .i64 0) ∧ Ext [ci, cq, cr] wr w' ∧ RefIs w' cp ci cq cr nodes (turnF c f a (a + (j + 1)))) := by
          show _ = _
          funext e w'
          unfold TurnRet
          rw [turnF_at, HTT.out, hc0, turnF_snoc]
        have ct := turn_c wr cp ci cq cr nodes _ HR3.out k (a : Int) (m : Int) pm pk pn ad by_ (a + j) hp4 (by have := HKK.out; rw [HCK.out] at this; exact this)
        rw [ht.out] at ct
        have CT := Lib.hid ct
        have HC0 := Lib.hid hc0
        clear ht ct hc0
        go_wp2_with (go_at_call 58; refine (CT.out).mono ?_; rintro e w4 ⟨rfl, hx, hr⟩; have HX4 := Lib.hid hx; have HR4 := Lib.hid hr; clear hx hr)
        go_roundw
        case rel =>
          refine ⟨j + 1, by omega, by go_num, HX3.out.trans HX4.out, HR4.out, fun p h1 h2 => ?_⟩
          by_cases e : p = a + j
          · rw [e]; exact HC0.out
          · exact HO.out p h1 (by omega)
        case measure => simp [intOf]; omega
      · have hap := HAPf.out (a + j) (by omega) (by omega) (by rw [hc1]; exact hc2)
        rw [hap]
        generalize failC c.k = fc at *
        have ct := turn_c wr cp ci cq cr nodes _ HR3.out k (a : Int) (m : Int) pm pk pn ad by_ (a + j) hp4 (by have := HKK.out; rw [HCK.out] at this; exact this)
        have ht : Hid (TurnRet wr cp ci cq cr nodes (turnF c f a (a + j)) (a + j) (turnR k pm pk pn (turnF c f a (a + j) (a + j))) = fun e w' => e = .returned (.int .i64 fc) ∧ Ext [ci, cq, cr] wr w' ∧ RefIs w' cp ci cq cr nodes (upd (turnF c f a (a + j)) (a + j) (c.turn (f (a + j))).2)) := by
          show _ = _
          funext e w'
          unfold TurnRet
          rw [turnF_at, HTT.out, hc1]
        rw [ht.out] at ct
        have CT := Lib.hid ct
        have hfc : (fc != 0) = true := by simpa using hc2
        clear ht ct hc1 hc2 hap
        go_wp2_with (go_at_call 58; refine (CT.out).mono ?_; rintro e w4 ⟨rfl, hx, hr⟩; have HX4 := Lib.hid hx; have HBR4 := Lib.hid (HBR3.out.ext hx (by have := HQ.out; have := HS.out; simp; omega)); have HRo4 := Lib.hid (HRo.out.ext hx (by have := HQ.out; have := HS.out; simp; omega) (by have := HQ.out; have := HS.out; simp; omega) (by have := HQ.out; have := HS.out; simp; omega) (by have := HQ.out; have := HS.out; simp; omega)); have r0 := HBR4.out.cell 0; have r1 := HBR4.out.cell 1; have f0 := HBR4.out.frozen 0; have f1 := HBR4.out.frozen 1; clear hx hr)
        have F := (HBR4.out.set 0 (.int .i64 fc)).set 1 (.int .i64 0)
        have t0 := F.cell 0
        have t1 := F.cell 1
        simp only [List.set_cons_zero, List.set_cons_succ, List.getElem?_cons_zero, List.getElem?_cons_succ] at t0 t1
        (try simp only [Exit.inBlock, Exit.then])
        refine bodyPost_ret (?_ : (results _ _).run _ _ = .ok (.agg #[.int .i64 fc, .int .i64 0]) _) rfl ?_
        · rw [results_cell1 rfl]
          simp [go_sem, t0, t1]
        have hQ := HQ.out
        have hS := HS.out
        exact ⟨rfl, ((((((HXA.out.trans HX1.out).trans HX2.out).mono (by simp)).step (HX3.out.trans HX4.out) (fun q hq => .inr (by simp at hq; omega))).setCell _ _ (.inr (by simp)))).setCell _ _ (.inr (by simp)), _, _, _, HRo4.out.ext (((Ext.refl [w.heap.size + 1] _).setCell ⟨w.heap.size + 1, 0, none⟩ _ (.inl (by simp))).setCell ⟨w.heap.size + 1, 1, none⟩ _ (.inl (by simp))) (by simp; omega) (by simp; omega) (by simp; omega) (by simp; omega)⟩
    · obtain rfl : j = m := by omega
      have hd : decide (((a + j : Nat) : Int) < (a : Int) + (j : Int)) = false := by simp
      have CA := Lib.hid (rall_c _ cp ci cq cr nodes _ HR3.out)
      by_cases hl : 64 < (allK (turnF c f a (a + j)) 4096).length
      · have hap := HAPu.out HO.out hl
        have HAp := Lib.hid hap
        clear hap
        generalize allK (turnF c f a (a + j)) 4096 = LL at *
        have hl' : (64 : Int) < (LL.length : Int) := by omega
        go_wp2_with (go_at_call 17; refine (CA.out).mono ?_; rintro e w5 ⟨v, rfl, hr, hx⟩; obtain ⟨va, vc, rfl, _, _⟩ := ownsRow_form hr; have HX4 := Lib.hid hx; have HBR4 := Lib.hid (HBR3.out.ext hx (by simp)); have HRo4 := Lib.hid (HRo.out.ext0 hx); have r0 := HBR4.out.cell 0; have r1 := HBR4.out.cell 1; have f0 := HBR4.out.frozen 0; have f1 := HBR4.out.frozen 1; clear hx hr)
        have F := (HBR4.out.set 0 (.int .i64 2)).set 1 (.int .i64 0)
        have t0 := F.cell 0
        have t1 := F.cell 1
        simp only [List.set_cons_zero, List.set_cons_succ, List.getElem?_cons_zero, List.getElem?_cons_succ] at t0 t1
        (try simp only [Exit.inBlock, Exit.then])
        refine bodyPost_ret (?_ : (results _ _).run _ _ = .ok (.agg #[.int .i64 2, .int .i64 0]) _) rfl ?_
        · rw [results_cell1 rfl]
          simp [go_sem, t0, t1]
        have hQ := HQ.out
        have hS := HS.out
        rw [HAp.out]
        exact ⟨rfl, ((((((HXA.out.trans HX1.out).trans HX2.out).mono (by simp)).step HX3.out (fun q hq => .inr (by simp at hq; omega))).trans (HX4.out.mono (by simp))).setCell _ _ (.inr (by simp))).setCell _ _ (.inr (by simp)), _, _, _, HRo4.out.ext (((Ext.refl [w.heap.size + 1] _).setCell ⟨w.heap.size + 1, 0, none⟩ _ (.inl (by simp))).setCell ⟨w.heap.size + 1, 1, none⟩ _ (.inl (by simp))) (by simp; omega) (by simp; omega) (by simp; omega) (by simp; omega)⟩
      · have hap := HAPd.out HO.out hl
        have HAp := Lib.hid hap
        clear hap
        generalize allK (turnF c f a (a + j)) 4096 = LL at *
        have hl' : ¬ (64 : Int) < (LL.length : Int) := by omega
        generalize turnF c f a (a + j) = f' at *
        go_wp2_with (go_at_call 17; refine (CA.out).mono ?_; rintro e w5 ⟨v, rfl, hr, hx⟩; obtain ⟨va, vc, rfl, _, _⟩ := ownsRow_form hr; have HX4 := Lib.hid hx; have HBR4 := Lib.hid (HBR3.out.ext hx (by simp)); have HRo4 := Lib.hid (HRo.out.ext0 hx); have HR4 := Lib.hid (HR3.out.ext0 hx); have r0 := HBR4.out.cell 0; have r1 := HBR4.out.cell 1; have f0 := HBR4.out.frozen 0; have f1 := HBR4.out.frozen 1; have s1 := HR4.out.head.cell 1; have s2 := HR4.out.head.cell 2; have s3 := HR4.out.head.cell 3; have o1 := HRo4.out.head.cell 1; have o2 := HRo4.out.head.cell 2; have o3 := HRo4.out.head.cell 3; have p1 := HRo4.out.head.frozen 1; have p2 := HRo4.out.head.frozen 2; have p3 := HRo4.out.head.frozen 3; have n1 : cp ≠ rp := (by have := HQ.out; have := HS.out; omega); have n2 : w.heap.size + 1 ≠ rp := (by omega); clear hx hr)
        have hQ := HQ.out
        have hS := HS.out
        have F0 := ((((HBR4.out.set_ne (p := ⟨rp, 1, none⟩) (.slice (some ⟨ci, 0, none⟩) 4096 4096) n2).set_ne (p := ⟨rp, 2, none⟩) (.slice (some ⟨cq, 0, none⟩) 4096 4096) n2).set_ne (p := ⟨rp, 3, none⟩) (.slice (some ⟨cr, 0, none⟩) 4096 4096) n2).set 0 (.int .i64 0)).set 1 (.int .i64 0)
        have t0 := F0.cell 0
        have t1 := F0.cell 1
        simp only [List.set_cons_zero, List.set_cons_succ, List.getElem?_cons_zero, List.getElem?_cons_succ] at t0 t1
        (try simp only [Exit.inBlock, Exit.then])
        refine bodyPost_ret (?_ : (results _ _).run _ _ = .ok (.agg #[.int .i64 0, .int .i64 0]) _) rfl ?_
        · rw [results_cell1 rfl]
          simp [go_sem, t0, t1]
        have hx6 : Ext [rp, w.heap.size + 1] w5 (((((w5.setCell ⟨rp, 1, none⟩ (.slice (some ⟨ci, 0, none⟩) 4096 4096)).setCell ⟨rp, 2, none⟩ (.slice (some ⟨cq, 0, none⟩) 4096 4096)).setCell ⟨rp, 3, none⟩ (.slice (some ⟨cr, 0, none⟩) 4096 4096)).setCell ⟨w.heap.size + 1, 0, none⟩ (.int .i64 0)).setCell ⟨w.heap.size + 1, 1, none⟩ (.int .i64 0)) :=
          (((((Ext.refl _ _).setCell _ _ (.inl (by simp))).setCell _ _ (.inl (by simp))).setCell _ _ (.inl (by simp))).setCell _ _ (.inl (by simp))).setCell _ _ (.inl (by simp))
        rw [HAp.out]
        refine ⟨rfl, (((((HXA.out.trans HX1.out).trans HX2.out).mono (by simp)).step HX3.out (fun q hq => .inr (by simp at hq; omega))).trans (HX4.out.mono (by simp))).step hx6 (fun q hq => by simp at hq; rcases hq with rfl | rfl; exact .inl (by simp); exact .inr (by omega)), ci, cq, cr, ?_, HR4.out.is_.ext hx6 (by simp; omega), HR4.out.perm.ext hx6 (by simp; omega), HR4.out.pol.ext hx6 (by simp; omega), ⟨by omega, by omega, by omega⟩, HR4.out.d2⟩
        exact ((((HRo4.out.head.set 1 _).set 2 _).set 3 _).set_ne (p := ⟨w.heap.size + 1, 0, none⟩) _ (by show rp ≠ w.heap.size + 1; omega)).set_ne (p := ⟨w.heap.size + 1, 1, none⟩) _ (by show rp ≠ w.heap.size + 1; omega)

theorem rapply_c (w : World) (rp bi bp bq : Nat) (nodes : Int) (f : Nat → Option U) (h : RefIs w rp bi bp bq nodes f) (h1 : 1 ≤ nodes) (h8 : nodes ≤ 8) (hb : ∀ p, 4096 ≤ p → f p = none) (c : Cl) :
    Calls Try.prog 38 #[.pointer (some ⟨rp, 0, none⟩), .agg #[.int .i64 c.k, .int .i64 c.pg, .int .i64 c.n, .int .i64 c.pm, .int .i64 c.pk, .int .i64 c.pn, .int .i64 c.ad, .int .i64 c.by_]] w (RApp w rp nodes (applyF nodes c f)) := by
  obtain ⟨k, pg, n, pm, pk, pn, ad, by_⟩ := c
  rcases chk_two nodes ⟨k, pg, n, pm, pk, pn, ad, by_⟩ with hk | hk
  · obtain ⟨a, b, e1, e2, hab, hb4⟩ := range_nat (chk_yes hk).2
    obtain rfl : pg = (a : Int) := e1
    obtain rfl : n = ((b - a : Nat) : Int) := by simp only [] at e2; omega
    exact rapply_ok w rp bi bp bq nodes f h h1 h8 hb k a (b - a) pm pk pn ad by_ hk (by omega) (by omega)
  · exact rapply_bad w rp bi bp bq nodes f h h1 h8 hb k pg n pm pk pn ad by_ hk

end Go.Proofs.Ytjicpblncfgiaaa
