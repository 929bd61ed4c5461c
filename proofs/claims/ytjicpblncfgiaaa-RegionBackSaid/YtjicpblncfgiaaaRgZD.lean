/-
  Region's laws: RegionBack, walked. WRITTEN BY gen_rgzd.py.
-/
import Derived.Test.YtjicpblncfgiaaaRgZB
namespace Go.Proofs.Ytjicpblncfgiaaa
set_option linter.unusedVariables false
set_option linter.unusedSimpArgs false
open Go.RowKit RgT SpT
set_option maxHeartbeats 4000000
set_option maxRecDepth 100000
set_option linter.unusedVariables false
set_option linter.unusedSimpArgs false

theorem NoRow.call9 {w : World} {b : Nat} {cs : List Value} (h : Blk w b cs 39) : SpU.NoRow w b := fun cur e => by
  unfold Blk at h; rw [h] at e; injection e with e; injection e with _ e; exact absurd e (by decide)
theorem TS.call {w w' : World} {sp b : Nat} {nodes : Int} {f : Nat → Option U} {cs : List Value} (h : TS w sp nodes f) (hb : Blk w b cs 39) (hx : Ext [b] w w') : TS w' sp nodes f := by
  obtain ⟨mp, h1, h2, h3⟩ := h
  have n1 : sp ≠ b := by
    rintro rfl
    have k1 := h1.head
    unfold Blk at k1 hb
    rw [k1] at hb; injection hb with hb; injection hb with _ hb; exact absurd hb (by decide)
  have n2 : mp ≠ b := by
    rintro rfl
    obtain ⟨v, k1, _⟩ := h1.map
    unfold Blk at k1 hb
    rw [k1] at hb; injection hb with hb; injection hb with _ hb; exact absurd hb (by decide)
  exact ⟨mp, ⟨h1.head.ext hx (by simpa using n1), h1.map.ext hx (by simpa using n2) (fun q hq => by rw [List.mem_singleton.1 hq]; exact NoRow.call9 hb), h1.len⟩, h2, h3⟩
theorem regionBack_c (nodes : Int) (v : Value) (l : List Cl) (k0 pg n pm pk pn ad by_ : Int) (w : World) (hl : RCalls w v l) : Calls Try.prog 5 #[.int .i64 nodes, v, .agg #[.int .i64 k0, .int .i64 pg, .int .i64 n, .int .i64 pm, .int .i64 pk, .int .i64 pn, .int .i64 ad, .int .i64 by_]] w fun e w' => e = .returned (.bool true) ∧ Ext [] w w' := by
  have CW := Lib.hid (fun w => awake_c w)
  have hx0 : Ext [] w (w.alloc (.cells #[.int .i64 k0, .int .i64 pg, .int .i64 n, .int .i64 pm, .int .i64 pk, .int .i64 pn, .int .i64 ad, .int .i64 by_] 39)) := (Ext.refl _ _).alloc _
  have HX0 := Lib.hid hx0
  have HB0 := Lib.hid (Blk.new w [.int .i64 k0, .int .i64 pg, .int .i64 n, .int .i64 pm, .int .i64 pk, .int .i64 pn, .int .i64 ad, .int .i64 by_] 39)
  have hs0 : (w.alloc (.cells #[.int .i64 k0, .int .i64 pg, .int .i64 n, .int .i64 pm, .int .i64 pk, .int .i64 pn, .int .i64 ad, .int .i64 by_] 39)).heap.size = w.heap.size + 1 := by simp
  have HS0 := Lib.hid hs0
  have hl' := hl.ext_new hx0 (by simp)
  clear hl hs0 hx0
  rcases nodes_cases nodes with hn | ⟨h1, h8⟩
  · have CM := Lib.hid (made_bad nodes v l _ hl' hn)
    clear hn hl'
    go_enter Try.func5, Try.ntmps5
    go_wp2_with (first
      | (go_at_call 14; refine (CM.out).mono ?_; rintro e w1 ⟨rfl, hx⟩; have HX1 := Lib.hid hx; clear hx)
      | (go_at_call 19; refine (CW.out _).mono ?_; rintro e w2 ⟨rfl, hx⟩; have HX2 := Lib.hid hx; clear hx))
    go_ret
    exact ⟨rfl, (HX0.out.trans HX1.out).trans HX2.out⟩
  · have CM := Lib.hid (made_ok nodes v l _ hl' h1 h8)
    clear hl' h1 h8
    go_enter Try.func5, Try.ntmps5
    go_wp2_with (first
      | (go_at_call 14; refine (CM.out).mono ?_; rintro e w1 ⟨sp, mp, rp, L, f, rfl, hx, hJ, n1, n2⟩; have HX1 := Lib.hid (HX0.out.trans hx); have HB1 := Lib.hid (HB0.out.ext hx (by simp)); have HS1 := Lib.hid hJ.ts; have HN := Lib.hid n1; have HOK := Lib.hid hJ.ok; have HLT := Lib.hid hJ.ts.lt; clear hx hJ n1 n2)
      | (go_at_call 16; refine (TS.regions HS1.out).mono ?_; rintro e w2 ⟨v2, rfl, hr, hx⟩; obtain ⟨a2, d2, rfl, _, _⟩ := ownsRow_form hr; have HR2 := Lib.hid hr; have HRN := Lib.hid (fun b (h : Value.ownBlock _ = some b) => (show sp < b ∧ w.heap.size < b by have h2 := (hr.lt b h).1; have h3 := HLT.out; have h4 := HX1.out.size; have h5 := HN.out; rw [HS0.out] at h5; omega)); have HX2 := Lib.hid (HX1.out.trans hx); have hb2 := HB1.out.ext hx (by simp); have HB1x := Lib.hid hb2; have HB2 := Lib.hid (hb2.set 0 (.int .i64 1)); have HS2 := Lib.hid (HS1.out.ext0 hx); have c0 := hb2.cell 0; have c1 := hb2.cell 1; have c2 := hb2.cell 2; have c3 := hb2.cell 3; have c4 := hb2.cell 4; have c5 := hb2.cell 5; have c6 := hb2.cell 6; have c7 := hb2.cell 7; have f0 := hb2.frozen 0; clear hx hr hb2))
    have HS2c := Lib.hid (HS2.out.call (HB1x.out) ((Ext.refl [w.heap.size] w2).setCell ⟨w.heap.size, 0, none⟩ (.int .i64 1) (.inl (by simp))))
    have HR2c := Lib.hid (ownsRow_ext HR2.out ((Ext.refl [w.heap.size] w2).setCell ⟨w.heap.size, 0, none⟩ (.int .i64 1) (.inl (by simp))) (fun b hb => by have := (HRN.out b hb).2; simp; omega))
    have HX2c := Lib.hid (HX2.out.setCell ⟨w.heap.size, 0, none⟩ (.int .i64 1) (.inr (Nat.le_refl _)))
    have hspw : w.heap.size < sp := by have h5 := HN.out; rw [HS0.out] at h5; omega
    have HSPW := Lib.hid hspw
    clear hspw
    by_cases hz : (applyF nodes ⟨1, pg, n, pm, pk, pn, ad, by_⟩ f).1 = 0
    · have HL2 := Lib.hid (show (allK f 4096).length ≤ 64 by obtain ⟨_, _, _, h⟩ := HS2.out; exact h)
      have hbu := back_unmap (nodes := nodes) (f := f) HL2.out hz
      have C1 := Lib.hid (fun w' (h : TS w' sp nodes f) => (by
        have h1 := TS.apply h ⟨1, pg, n, pm, pk, pn, ad, by_⟩
        rw [hz] at h1
        exact h1 : Calls Try.prog 20 #[.pointer (some ⟨sp, 0, none⟩), .agg #[.int .i64 1, .int .i64 pg, .int .i64 n, .int .i64 pm, .int .i64 pk, .int .i64 pn, .int .i64 ad, .int .i64 by_]] w' fun e w'' => e = .returned (.agg #[.int .i64 0, .int .i64 0]) ∧ Ext [sp] w' w'' ∧ TS w'' sp nodes (applyF nodes ⟨1, pg, n, pm, pk, pn, ad, by_⟩ f).2))
      have C2 := Lib.hid (fun w' (h : TS w' sp nodes (applyF nodes ⟨1, pg, n, pm, pk, pn, ad, by_⟩ f).2) => (by
        have h1 := TS.apply h ⟨2, pg, n, pm, pk, pn, ad, by_⟩
        rw [hbu] at h1
        exact h1 : Calls Try.prog 20 #[.pointer (some ⟨sp, 0, none⟩), .agg #[.int .i64 2, .int .i64 pg, .int .i64 n, .int .i64 pm, .int .i64 pk, .int .i64 pn, .int .i64 ad, .int .i64 by_]] w' fun e w'' => e = .returned (.agg #[.int .i64 0, .int .i64 0]) ∧ Ext [sp] w' w'' ∧ TS w'' sp nodes f))
      generalize (applyF nodes ⟨1, pg, n, pm, pk, pn, ad, by_⟩ f).2 = f1 at *
      have hfl := fld_res 0
      clear hz hbu
      go_wp2_with (first
        | (go_at_call 20; (with_reducible refine (C1.out _ HS2c.out).mono ?_); rintro e w3 ⟨rfl, hx, hs⟩; have HX3 := Lib.hid (HX2c.out.step hx (by have := HSPW.out; simp; omega)); have hb3 := HB2.out.ext hx (by have := HSPW.out; simp; omega); have HS3c := Lib.hid (hs.call hb3 ((Ext.refl [w.heap.size] w3).setCell ⟨w.heap.size, 0, none⟩ (.int .i64 2) (.inl (by simp)))); have HR3c := Lib.hid (ownsRow_ext (ownsRow_ext HR2c.out hx (fun b hb => by have := (HRN.out b hb).1; simp; omega)) ((Ext.refl [w.heap.size] w3).setCell ⟨w.heap.size, 0, none⟩ (.int .i64 2) (.inl (by simp))) (fun b hb => by have := (HRN.out b hb).2; simp; omega)); clear c0 c1 c2 c3 c4 c5 c6 c7 f0; have c0 := hb3.cell 0; have c1 := hb3.cell 1; have c2 := hb3.cell 2; have c3 := hb3.cell 3; have c4 := hb3.cell 4; have c5 := hb3.cell 5; have c6 := hb3.cell 6; have c7 := hb3.cell 7; have f0 := hb3.frozen 0; clear hx hs hb3)
        | (go_at_call 20; (with_reducible refine (C2.out _ HS3c.out).mono ?_); rintro e w4 ⟨rfl, hx, hs⟩; have HX4 := Lib.hid ((HX3.out.setCell ⟨w.heap.size, 0, none⟩ (.int .i64 2) (.inr (Nat.le_refl _))).step hx (by have := HSPW.out; simp; omega)); have HS4 := Lib.hid hs; have HR4 := Lib.hid (ownsRow_ext HR3c.out hx (fun b hb => by have := (HRN.out b hb).1; simp; omega)); clear hx hs c0 c1 c2 c3 c4 c5 c6 c7 f0)
        | (go_at_call 16; refine (TS.regions HS4.out).mono ?_; rintro e w5 ⟨v5, rfl, hr, hx⟩; obtain ⟨a5, d5, rfl, _, _⟩ := ownsRow_form hr; have HR5 := Lib.hid hr; have HX5 := Lib.hid (HX4.out.trans hx); have HS5 := Lib.hid (HS4.out.ext0 hx); have HR4b := Lib.hid (ownsRow_ext HR4.out hx (by simp)); clear hx hr)
        | (go_at_call 15; have cs := rsame_c _ _ _ _ _ _ _ HR5.out HR4b.out (by have := HL2.out; omega) (by have := HL2.out; omega); rw [sameB_yes rfl] at cs; refine cs.mono ?_; clear cs; rintro e w6 ⟨rfl, hx⟩; have HX6 := Lib.hid (HX5.out.trans hx); have HS6 := Lib.hid (HS5.out.ext0 hx); have HR6 := Lib.hid (ownsRow_ext HR4b.out hx (by simp)); clear hx))
      have HW := Lib.hid (HR6.out)
      obtain ⟨wz, hwz⟩ : ∃ wz : World, wz = w6 := ⟨_, rfl⟩
      go_loopw [12] (fun i wr => ∃ k : Nat, k ≤ (allK f 4096).length ∧ i = .int .i64 k ∧ Ext [sp] w6 wr ∧ TS wr sp nodes f) (fun i _ => (allK f 4096).length - (intOf i).toNat)
      case atStart => exact ⟨0, by omega, rfl, Ext.refl _ _, HS6.out⟩
      case round =>
        obtain ⟨k, hk, rfl, hx, ht⟩ := hrel
        have HXr := Lib.hid hx
        have HTr := Lib.hid ht
        have hrow := ownsRow_ext HW.out hx (by have := HRN.out; intro b hb; simp; have := this b hb; omega)
        have HROW := Lib.hid hrow
        by_cases hlt : k < (allK f 4096).length
        · obtain ⟨g1, d1, he1, hg, _, hc1⟩ := GRow.at_ hrow hlt
          injection he1 with he1 _ he1c
          subst he1 he1c
          obtain ⟨m9, _, ht9, hl9⟩ := ht
          have hn64 : k < 64 := by omega
          have hsm := back_same (nodes := nodes) ht9 HOK.out hl9 (List.getElem_mem hlt)
          have hbm := back_bound (nodes := nodes) ht9 HOK.out hl9 (List.getElem_mem hlt)
          have hbd := ht9.1.1 _ (List.getElem_mem hlt)
          have x0 : wr.cell? ⟨g1, k * 5, none⟩ = _ := hc1 0 (by omega)
          have x1 := hc1 1 (by omega)
          have x2 := hc1 2 (by omega)
          have x3 := hc1 3 (by omega)
          have x4 := hc1 4 (by omega)
          unfold SpU.cells at x0 x1
          unfold SpU.cells at x2
          unfold SpU.cells at x3
          unfold SpU.cells at x4
          have i0 : (0 : Int) ≤ (k : Int) := by omega
          have i1 : (k : Int) < ((allK f 4096).length : Int) := by omega
          generalize (allK f 4096)[k] = x at *
          obtain ⟨xf, xt, xp, xk, xn⟩ := x
          simp only [] at hsm hbm hbd
          have CA := Lib.hid (fun w' (h : TS w' sp nodes f) => (by
            have h1 := TS.apply h ⟨3, (xf : Int), (xt : Int) - (xf : Int), xp, 0, 0, 0, 0⟩
            rw [hsm] at h1
            exact h1 : Calls Try.prog 20 #[.pointer (some ⟨sp, 0, none⟩), .agg #[.int .i64 3, .int .i64 (xf : Int), .int .i64 ((xt : Int) - (xf : Int)), .int .i64 xp, .int .i64 0, .int .i64 0, .int .i64 0, .int .i64 0]] w' fun e w'' => e = .returned (.agg #[.int .i64 0, .int .i64 0]) ∧ Ext [sp] w' w'' ∧ TS w'' sp nodes f))
          have CB := Lib.hid (fun w' (h : TS w' sp nodes f) => (by
            have h1 := TS.apply h ⟨4, (xf : Int), (xt : Int) - (xf : Int), 0, xk, xn, 0, 0⟩
            rw [hbm] at h1
            exact h1 : Calls Try.prog 20 #[.pointer (some ⟨sp, 0, none⟩), .agg #[.int .i64 4, .int .i64 (xf : Int), .int .i64 ((xt : Int) - (xf : Int)), .int .i64 0, .int .i64 xk, .int .i64 xn, .int .i64 0, .int .i64 0]] w' fun e w'' => e = .returned (.agg #[.int .i64 0, .int .i64 0]) ∧ Ext [sp] w' w'' ∧ TS w'' sp nodes f))
          have hx3 : Ext [] wr (((wr.alloc (.cells #[.int .i64 (xf : Int), .int .i64 (xt : Int), .int .i64 xp, .int .i64 xk, .int .i64 xn] 37)).alloc (.cells #[.int .i64 3, .int .i64 (xf : Int), .int .i64 ((xt : Int) - (xf : Int)), .int .i64 xp, .int .i64 0, .int .i64 0, .int .i64 0, .int .i64 0] 39)).alloc (.cells #[.int .i64 4, .int .i64 (xf : Int), .int .i64 ((xt : Int) - (xf : Int)), .int .i64 0, .int .i64 xk, .int .i64 xn, .int .i64 0, .int .i64 0] 39)) := (((Ext.refl _ _).alloc _).alloc _).alloc _
          have HX3 := Lib.hid hx3
          have HB3 := Lib.hid (Blk.new ((wr.alloc (.cells #[.int .i64 (xf : Int), .int .i64 (xt : Int), .int .i64 xp, .int .i64 xk, .int .i64 xn] 37)).alloc (.cells #[.int .i64 3, .int .i64 (xf : Int), .int .i64 ((xt : Int) - (xf : Int)), .int .i64 xp, .int .i64 0, .int .i64 0, .int .i64 0, .int .i64 0] 39)) [.int .i64 4, .int .i64 (xf : Int), .int .i64 ((xt : Int) - (xf : Int)), .int .i64 0, .int .i64 xk, .int .i64 xn, .int .i64 0, .int .i64 0] 39)
          have HT3 := Lib.hid (HTr.out.ext0 hx3)
          have hlt9 := HTr.out.lt
          have HNE := Lib.hid (show ((wr.alloc (.cells #[.int .i64 (xf : Int), .int .i64 (xt : Int), .int .i64 xp, .int .i64 xk, .int .i64 xn] 37)).alloc (.cells #[.int .i64 3, .int .i64 (xf : Int), .int .i64 ((xt : Int) - (xf : Int)), .int .i64 xp, .int .i64 0, .int .i64 0, .int .i64 0, .int .i64 0] 39)).heap.size ≠ sp by simp; omega)
          have hfl := fld_res 0
          simp only [World.size_alloc] at HB3 HNE
          clear hc1 hx hsm hbm ht9 hl9 hx3 hrow hlt9
          go_wp2_with (first
            | (go_at_call 20; (with_reducible refine (CA.out _ HT3.out).mono ?_); rintro e w8 ⟨rfl, hx, hs⟩; have HX8 := Lib.hid hx; have HT8 := Lib.hid hs; have hb8 := HB3.out.ext hx (by simpa using HNE.out); have c0 := hb8.cell 0; have c1 := hb8.cell 1; have c2 := hb8.cell 2; have c3 := hb8.cell 3; have c4 := hb8.cell 4; have c5 := hb8.cell 5; have c6 := hb8.cell 6; have c7 := hb8.cell 7; clear hx hs hb8)
            | (go_at_call 20; (with_reducible refine (CB.out _ HT8.out).mono ?_); rintro e w9 ⟨rfl, hx, hs⟩; have HX9 := Lib.hid (HX8.out.trans hx); have HT9 := Lib.hid hs; clear hx hs c0 c1 c2 c3 c4 c5 c6 c7))
          go_roundw
          case rel => exact ⟨k + 1, by omega, by go_num, (HXr.out.trans (HX3.out.mono (by simp))).trans HX9.out, HT9.out⟩
          case measure => simp [intOf]; omega
        · have hke : k = (allK f 4096).length := by omega
          have hge : ¬ (k : Int) < ((allK f 4096).length : Int) := by omega
          have HX7 := Lib.hid (HX6.out.step hx (by have := HN.out; rw [HS0.out] at this; simp; omega))
          have HL7 := Lib.hid (show (allK f 4096).length ≤ 64 by obtain ⟨_, _, _, h⟩ := ht; exact h)
          clear hx ht hke hrow
          go_wp2_with (first
            | (go_at_call 16; refine (TS.regions HTr.out).mono ?_; rintro e w9 ⟨v9, rfl, hr, hx⟩; obtain ⟨a9, d9, rfl, _, _⟩ := ownsRow_form hr; have HR9 := Lib.hid hr; have HX9 := Lib.hid (HX7.out.trans hx); have HW9 := Lib.hid (ownsRow_ext HROW.out hx (by simp)); clear hx hr)
            | (go_at_call 15; have cs := rsame_c _ _ _ _ _ _ _ HR9.out HW9.out (by have := HL7.out; omega) (by have := HL7.out; omega); rw [sameB_yes rfl] at cs; refine cs.mono ?_; clear cs; rintro e w11 ⟨rfl, hx⟩; have HX11 := Lib.hid (HX9.out.trans hx); clear hx)
            | (go_at_call 19; refine (CW.out _).mono ?_; rintro e w12 ⟨rfl, hx⟩; have HX12 := Lib.hid hx; clear hx))
          go_ret
          exact ⟨rfl, HX11.out.trans HX12.out⟩

    · have C1 := Lib.hid (fun w' (h : TS w' sp nodes f) => (by
        have h1 := TS.apply h ⟨1, pg, n, pm, pk, pn, ad, by_⟩
        rw [applyF_out hz] at h1
        exact h1 : Calls Try.prog 20 #[.pointer (some ⟨sp, 0, none⟩), .agg #[.int .i64 1, .int .i64 pg, .int .i64 n, .int .i64 pm, .int .i64 pk, .int .i64 pn, .int .i64 ad, .int .i64 by_]] w' fun e w'' => e = .returned (.agg #[.int .i64 (applyF nodes ⟨1, pg, n, pm, pk, pn, ad, by_⟩ f).1, .int .i64 0]) ∧ Ext [sp] w' w'' ∧ TS w'' sp nodes f))
      generalize (applyF nodes ⟨1, pg, n, pm, pk, pn, ad, by_⟩ f).1 = rc at *
      have hfl := fld_res rc
      have hz' : (rc == 0) = false := by simpa using hz
      clear hz
      go_wp2_with (go_at_call 20; (with_reducible refine (C1.out _ HS2c.out).mono ?_); rintro e w6 ⟨rfl, hx, hs⟩; have HX6 := Lib.hid (HX2c.out.step hx (by have := HSPW.out; simp; omega)); have HS6 := Lib.hid hs; have HR6 := Lib.hid (ownsRow_ext HR2c.out hx (fun b hb => by have := (HRN.out b hb).1; simp; omega)); clear hx hs c0 c1 c2 c3 c4 c5 c6 c7 f0)
      have HW := Lib.hid (HR6.out)
      obtain ⟨wz, hwz⟩ : ∃ wz : World, wz = w6 := ⟨_, rfl⟩
      go_loopw [12] (fun i wr => ∃ k : Nat, k ≤ (allK f 4096).length ∧ i = .int .i64 k ∧ Ext [sp] w6 wr ∧ TS wr sp nodes f) (fun i _ => (allK f 4096).length - (intOf i).toNat)
      case atStart => exact ⟨0, by omega, rfl, Ext.refl _ _, HS6.out⟩
      case round =>
        obtain ⟨k, hk, rfl, hx, ht⟩ := hrel
        have HXr := Lib.hid hx
        have HTr := Lib.hid ht
        have hrow := ownsRow_ext HW.out hx (by have := HRN.out; intro b hb; simp; have := this b hb; omega)
        have HROW := Lib.hid hrow
        by_cases hlt : k < (allK f 4096).length
        · obtain ⟨g1, d1, he1, hg, _, hc1⟩ := GRow.at_ hrow hlt
          injection he1 with he1 _ he1c
          subst he1 he1c
          obtain ⟨m9, _, ht9, hl9⟩ := ht
          have hn64 : k < 64 := by omega
          have hsm := back_same (nodes := nodes) ht9 HOK.out hl9 (List.getElem_mem hlt)
          have hbm := back_bound (nodes := nodes) ht9 HOK.out hl9 (List.getElem_mem hlt)
          have hbd := ht9.1.1 _ (List.getElem_mem hlt)
          have x0 : wr.cell? ⟨g1, k * 5, none⟩ = _ := hc1 0 (by omega)
          have x1 := hc1 1 (by omega)
          have x2 := hc1 2 (by omega)
          have x3 := hc1 3 (by omega)
          have x4 := hc1 4 (by omega)
          unfold SpU.cells at x0 x1
          unfold SpU.cells at x2
          unfold SpU.cells at x3
          unfold SpU.cells at x4
          have i0 : (0 : Int) ≤ (k : Int) := by omega
          have i1 : (k : Int) < ((allK f 4096).length : Int) := by omega
          generalize (allK f 4096)[k] = x at *
          obtain ⟨xf, xt, xp, xk, xn⟩ := x
          simp only [] at hsm hbm hbd
          have CA := Lib.hid (fun w' (h : TS w' sp nodes f) => (by
            have h1 := TS.apply h ⟨3, (xf : Int), (xt : Int) - (xf : Int), xp, 0, 0, 0, 0⟩
            rw [hsm] at h1
            exact h1 : Calls Try.prog 20 #[.pointer (some ⟨sp, 0, none⟩), .agg #[.int .i64 3, .int .i64 (xf : Int), .int .i64 ((xt : Int) - (xf : Int)), .int .i64 xp, .int .i64 0, .int .i64 0, .int .i64 0, .int .i64 0]] w' fun e w'' => e = .returned (.agg #[.int .i64 0, .int .i64 0]) ∧ Ext [sp] w' w'' ∧ TS w'' sp nodes f))
          have CB := Lib.hid (fun w' (h : TS w' sp nodes f) => (by
            have h1 := TS.apply h ⟨4, (xf : Int), (xt : Int) - (xf : Int), 0, xk, xn, 0, 0⟩
            rw [hbm] at h1
            exact h1 : Calls Try.prog 20 #[.pointer (some ⟨sp, 0, none⟩), .agg #[.int .i64 4, .int .i64 (xf : Int), .int .i64 ((xt : Int) - (xf : Int)), .int .i64 0, .int .i64 xk, .int .i64 xn, .int .i64 0, .int .i64 0]] w' fun e w'' => e = .returned (.agg #[.int .i64 0, .int .i64 0]) ∧ Ext [sp] w' w'' ∧ TS w'' sp nodes f))
          have hx3 : Ext [] wr (((wr.alloc (.cells #[.int .i64 (xf : Int), .int .i64 (xt : Int), .int .i64 xp, .int .i64 xk, .int .i64 xn] 37)).alloc (.cells #[.int .i64 3, .int .i64 (xf : Int), .int .i64 ((xt : Int) - (xf : Int)), .int .i64 xp, .int .i64 0, .int .i64 0, .int .i64 0, .int .i64 0] 39)).alloc (.cells #[.int .i64 4, .int .i64 (xf : Int), .int .i64 ((xt : Int) - (xf : Int)), .int .i64 0, .int .i64 xk, .int .i64 xn, .int .i64 0, .int .i64 0] 39)) := (((Ext.refl _ _).alloc _).alloc _).alloc _
          have HX3 := Lib.hid hx3
          have HB3 := Lib.hid (Blk.new ((wr.alloc (.cells #[.int .i64 (xf : Int), .int .i64 (xt : Int), .int .i64 xp, .int .i64 xk, .int .i64 xn] 37)).alloc (.cells #[.int .i64 3, .int .i64 (xf : Int), .int .i64 ((xt : Int) - (xf : Int)), .int .i64 xp, .int .i64 0, .int .i64 0, .int .i64 0, .int .i64 0] 39)) [.int .i64 4, .int .i64 (xf : Int), .int .i64 ((xt : Int) - (xf : Int)), .int .i64 0, .int .i64 xk, .int .i64 xn, .int .i64 0, .int .i64 0] 39)
          have HT3 := Lib.hid (HTr.out.ext0 hx3)
          have hlt9 := HTr.out.lt
          have HNE := Lib.hid (show ((wr.alloc (.cells #[.int .i64 (xf : Int), .int .i64 (xt : Int), .int .i64 xp, .int .i64 xk, .int .i64 xn] 37)).alloc (.cells #[.int .i64 3, .int .i64 (xf : Int), .int .i64 ((xt : Int) - (xf : Int)), .int .i64 xp, .int .i64 0, .int .i64 0, .int .i64 0, .int .i64 0] 39)).heap.size ≠ sp by simp; omega)
          have hfl := fld_res 0
          simp only [World.size_alloc] at HB3 HNE
          clear hc1 hx hsm hbm ht9 hl9 hx3 hrow hlt9
          go_wp2_with (first
            | (go_at_call 20; (with_reducible refine (CA.out _ HT3.out).mono ?_); rintro e w8 ⟨rfl, hx, hs⟩; have HX8 := Lib.hid hx; have HT8 := Lib.hid hs; have hb8 := HB3.out.ext hx (by simpa using HNE.out); have c0 := hb8.cell 0; have c1 := hb8.cell 1; have c2 := hb8.cell 2; have c3 := hb8.cell 3; have c4 := hb8.cell 4; have c5 := hb8.cell 5; have c6 := hb8.cell 6; have c7 := hb8.cell 7; clear hx hs hb8)
            | (go_at_call 20; (with_reducible refine (CB.out _ HT8.out).mono ?_); rintro e w9 ⟨rfl, hx, hs⟩; have HX9 := Lib.hid (HX8.out.trans hx); have HT9 := Lib.hid hs; clear hx hs c0 c1 c2 c3 c4 c5 c6 c7))
          go_roundw
          case rel => exact ⟨k + 1, by omega, by go_num, (HXr.out.trans (HX3.out.mono (by simp))).trans HX9.out, HT9.out⟩
          case measure => simp [intOf]; omega
        · have hke : k = (allK f 4096).length := by omega
          have hge : ¬ (k : Int) < ((allK f 4096).length : Int) := by omega
          have HX7 := Lib.hid (HX6.out.step hx (by have := HN.out; rw [HS0.out] at this; simp; omega))
          have HL7 := Lib.hid (show (allK f 4096).length ≤ 64 by obtain ⟨_, _, _, h⟩ := ht; exact h)
          clear hx ht hke hrow
          go_wp2_with (first
            | (go_at_call 16; refine (TS.regions HTr.out).mono ?_; rintro e w9 ⟨v9, rfl, hr, hx⟩; obtain ⟨a9, d9, rfl, _, _⟩ := ownsRow_form hr; have HR9 := Lib.hid hr; have HX9 := Lib.hid (HX7.out.trans hx); have HW9 := Lib.hid (ownsRow_ext HROW.out hx (by simp)); clear hx hr)
            | (go_at_call 15; have cs := rsame_c _ _ _ _ _ _ _ HR9.out HW9.out (by have := HL7.out; omega) (by have := HL7.out; omega); rw [sameB_yes rfl] at cs; refine cs.mono ?_; clear cs; rintro e w11 ⟨rfl, hx⟩; have HX11 := Lib.hid (HX9.out.trans hx); clear hx)
            | (go_at_call 19; refine (CW.out _).mono ?_; rintro e w12 ⟨rfl, hx⟩; have HX12 := Lib.hid hx; clear hx))
          go_ret
          exact ⟨rfl, HX11.out.trans HX12.out⟩


end Go.Proofs.Ytjicpblncfgiaaa
