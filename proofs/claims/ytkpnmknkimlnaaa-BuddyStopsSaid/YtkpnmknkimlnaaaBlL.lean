/-
  Buddy: the law BuddyStops, walked.
-/
import Derived.Test.YtkpnmknkimlnaaaBlK
namespace Go.Proofs.Ytkpnmknkimlnaaa
set_option linter.unusedVariables false
set_option linter.unusedSimpArgs false
open Go.RowKit BuT
set_option maxHeartbeats 4000000
set_option maxRecDepth 100000
set_option linter.unusedVariables false
set_option linter.unusedSimpArgs false

theorem buddyStops_c (N E : Int) (v : Value) (l : List BAct) (x : Int) (wx : (Lit.int .u8 x).wf = true) (w : World) (hl : BActs w v l) :
    Calls Try.prog 9 #[.agg #[.int .i64 N, .int .i64 E], v, .int .u8 x] w fun e w' => e = .returned (.bool true) ∧ Ext [] w w' := by
  obtain ⟨a, cap, rfl, hlen, hA⟩ := hl.form
  have HA := Lib.hid hA
  clear hA hl
  have CW := Lib.hid (fun w => awake_c w)
  replace hlen : l.length ≤ 9223372036854775807 := by unfold maxLen at hlen; omega
  have hx0 : 0 ≤ x ∧ x < 256 := by simp [Lit.wf, IntKind.min, IntKind.max, IntKind.signed, IntKind.bits] at wx; omega
  obtain ⟨q, rfl⟩ := Int.eq_ofNat_of_zero_le hx0.1
  have hq : q < 256 := by omega
  clear wx hx0
  by_cases hb : okNew N E
  · obtain ⟨F, n, rfl, rfl, hF, h1, h2⟩ := okNew_nat hb
    have CM := Lib.hid (fun w => made_is F n w hF h1 h2)
    have b0 := Blk.new w [.int .i64 (F : Int), .int .i64 (n : Int)] 56
    have c0 := b0.cell 0
    have c1 := b0.cell 1
    have s0 : (w.alloc (.cells #[.int .i64 (F : Int), .int .i64 (n : Int)] 56)).heap.size = w.heap.size + 1 := by simp
    clear hb h1 h2 hF b0
    go_enter Try.func9, Try.ntmps9
    go_wp2_with (go_at_call 21; refine (CM.out _).mono ?_; rintro e' w2 ⟨bp, bl, rp, rfl, hx, hB, hR, h1, h2, h3, h4, h5⟩; rw [s0] at h1 h2 h3; have HI := Lib.hid (InB.start hx hB hR h4 h5); have HN := Lib.hid (⟨by omega, by omega, by omega⟩ : w.heap.size < bl ∧ w.heap.size < rp ∧ w.heap.size < bp); have HM := Lib.hid (by have := hB.tab.lt; have := hR.old; have := hx.size; omega : (w2.heap.size ≠ bl ∧ w2.heap.size ≠ rp) ∧ w.heap.size ≠ bl ∧ w.heap.size ≠ rp); clear hB hR hx h1 h2 h3 h4 h5 s0 c0 c1)
    generalize w2.heap.size = bb at *
    go_loopw [8, 10] (fun f i wr => ∃ k : Nat, k ≤ l.length ∧ i = .int .i64 k ∧ f = .bool true ∧ InB w w.heap.size F n bb bp bl rp F n wr) (fun _ i _ => l.length - (intOf i).toNat)
    case atStart => exact ⟨0, by omega, rfl, rfl, HI.out⟩
    case round =>
      obtain ⟨k, hk, rfl, rfl, hI⟩ := hrel
      have HI := Lib.hid hI
      by_cases hlt : k < l.length
      · obtain ⟨b, o, rfl, hb, hac⟩ := (HA.out.ext_new hI.1 (by simp)).at_ hlt
        have hb' : b < w.heap.size := by
          obtain ⟨b2, o2, he, hb2, _⟩ := HA.out.at_ hlt
          cases he; exact hb2
        have HAC := Lib.hid (fun w' (hx : Ext [bl, rp] wr w') => hac.ext hb hx (by have := HN.out; simp; omega))
        obtain ⟨kd, od, hJ⟩ := hI.2.2.2
        have CP := Lib.hid (fun w' (hx : Ext [] wr w') => play_c w' bp bl rp F n kd od (hJ.ext0 hx) l[k].d l[k].f l[k].o l[k].h l[k].fd.2 l[k].hd.2)
        generalize l[k] = p at *
        have i0 : (0 : Int) ≤ (k : Int) := by omega
        have i1 : (k : Int) < (l.length : Int) := by omega
        have hxd : Ext [] wr wr.drew := (Ext.refl _ _).drew
        have HXD := Lib.hid hxd
        have HI2 := Lib.hid (hI.ext hxd)
        have HAC2 := Lib.hid (HAC.out _ (hxd.mono (by simp)))
        clear hI hb hb' hxd hac hJ
        go_wp2
        go_region_held3 (fun cur => cur.cell? ⟨bb, 0, none⟩ = some (.pointer (some ⟨bp, 0, none⟩)) ∧ cur.cell? ⟨bb, 1, none⟩ = some (.pointer (some ⟨rp, 0, none⟩)) ∧ cur.cell? ⟨b, o + k * 4, none⟩ = some (.int .i64 p.d) ∧ cur.cell? ⟨b, o + k * 4 + 1, none⟩ = some (.int .i64 p.f) ∧ cur.cell? ⟨b, o + k * 4 + 2, none⟩ = some (.int .i64 p.o)
             ∧ cur.cell? ⟨b, o + k * 4 + 3, none⟩ = some (.int .i64 p.h)) (exact ⟨HI2.out.2.2.1.cell 0, HI2.out.2.2.1.cell 1, HAC2.out.c0, HAC2.out.c1, HAC2.out.c2, HAC2.out.c3⟩)
          ((go_at_call 23; refine (CP.out _ HXD.out).mono ?_; intro e' w5 hp; obtain ⟨rfl, hI2, hx⟩ := HI2.out.played (by have := HN.out; omega) HM.out hp; have HI2 := Lib.hid hI2; have HAC2 := Lib.hid (HAC.out _ ((HXD.out.mono (by simp)).trans hx)); clear hp hx hI2))
        all_goals go_wp2
        all_goals
          go_roundw
          case rel => exact ⟨k + 1, by omega, by go_num, rfl, HI2.out⟩
          case measure => simp [intOf]; omega
      · obtain rfl : k = l.length := by omega
        clear hI
        obtain ⟨kd, od, hJ⟩ := HI.out.2.2.2
        have Z := Lib.hid HI.out.2.2.1
        obtain ⟨vF, vT, hR⟩ := hJ.ref
        obtain ⟨aF, cF, rfl, f1, f2, f3, f4⟩ := BSl.of hR.free
        obtain ⟨aT, cT, rfl, t1, t2, t3, t4⟩ := BSl.of hR.taken
        have L1 := hJ.len 1
        have L2 := hJ.len 2
        have J := Lib.hid hJ
        have HR := Lib.hid hR
        have z1 := Z.out.cell 1
        have r2 := hR.head.cell 2
        have r3 := hR.head.cell 3
        replace f2 : cF ≤ 9223372036854775807 := by unfold maxLen at f2; omega
        replace t2 : cT ≤ 9223372036854775807 := by unfold maxLen at t2; omega
        clear hJ hR
        have SB : Hid (((blks (F : Int) kd od 1 n).length = (blks (F : Int) kd od 1 n).length) ∧ ((blks (F : Int) kd od 2 n).length = (blks (F : Int) kd od 2 n).length)) := ⟨rfl, rfl⟩
        have m1 : mnI (q : Int) ((blks (F : Int) kd od 1 n).length : Int) = ((min q (blks (F : Int) kd od 1 n).length : Nat) : Int) := by unfold mnI; omega
        have m2 : mnI (q : Int) ((blks (F : Int) kd od 2 n).length : Int) = ((min q (blks (F : Int) kd od 2 n).length : Nat) : Int) := by unfold mnI; omega
        have k1 : min q (blks (F : Int) kd od 1 n).length ≤ (blks (F : Int) kd od 1 n).length := Nat.min_le_right _ _
        have k2 : min q (blks (F : Int) kd od 2 n).length ≤ (blks (F : Int) kd od 2 n).length := Nat.min_le_right _ _
        generalize hk1 : min q (blks (F : Int) kd od 1 n).length = j1 at *
        generalize hk2 : min q (blks (F : Int) kd od 2 n).length = j2 at *
        clear hk1 hk2
        have GG1 := Lib.hid (fun (u : World) (hx : Ext [] wr u) => Bud.gone (J.out.bud.ext hx (by simp) (by simp)) 1 1 rfl (j1 : Int))
        have GG2 := Lib.hid (fun (u : World) (hx : Ext [] wr u) => Bud.gone (J.out.bud.ext hx (by simp) (by simp)) 2 2 rfl (j2 : Int))
        have SS1 := Lib.hid (fun (u : World) (hx : Ext [] wr u) => BSl.take (BSl.of (HR.out.ext0 hx).free) (k := j1) k1)
        have SS2 := Lib.hid (fun (u : World) (hx : Ext [] wr u) => BSl.take (BSl.of (HR.out.ext0 hx).taken) (k := j2) k2)
        have TT1 := Lib.hid (fun (u : World) (hx : Ext [] wr u) => (HR.out.ext0 hx).head)
        have IS := Lib.hid (fun (u : World) (hx : Ext [] wr u) => is_c u bp bl rp F n kd od (J.out.ext0 hx))
        have ZZ := Lib.hid (fun (u : World) (hx : Ext [] wr u) => Z.out.ext hx (by simp))
        clear HR J Z SB f3 f4 t3 t4
        generalize blks (F : Int) kd od 1 n = LF at *
        generalize blks (F : Int) kd od 2 n = LT at *
        generalize LF.length = lf at *
        generalize LT.length = lt at *
        have i10 : (0 : Int) ≤ (j1 : Int) := by omega
        have i11 : (j1 : Int) ≤ (lf : Int) := by omega
        have i12 : (j1 : Int) ≤ (cF : Int) := by omega
        have i20 : (0 : Int) ≤ (j2 : Int) := by omega
        have i21 : (j2 : Int) ≤ (lt : Int) := by omega
        have i22 : (j2 : Int) ≤ (cT : Int) := by omega
        go_wp2
        have HXc := Lib.hid ((Ext.refl [] wr).drew)
        clear r2 r3 z1 m1 m2
        go_region_held3 (fun cur => cur.cell? ⟨bb, 0, none⟩ = some (.pointer (some ⟨bp, 0, none⟩)) ∧ cur.cell? ⟨bb, 1, none⟩ = some (.pointer (some ⟨rp, 0, none⟩)) ∧ cur.cell? ⟨rp, 2, none⟩ = some (.slice aF lf cF) ∧ cur.cell? ⟨rp, 3, none⟩ = some (.slice aT lt cT))
          (exact ⟨(ZZ.out _ HXc.out).cell 0, (ZZ.out _ HXc.out).cell 1, (TT1.out _ HXc.out).cell 2, (TT1.out _ HXc.out).cell 3⟩)
          (first
          | (go_at_call 26; refine (Bud.free_blocks).mono ?_; rintro e w1 ⟨rfl, rfl⟩; have GB := Lib.hid (GG1.out _ HXc.out); have HXb := Lib.hid HXc.out; have HXc := Lib.hid ((HXc.out.alloc (.cells #[.pointer (some ⟨bp, 0, none⟩)] 58)).alloc (.cells #[.int .i64 1] 3)))
          | (go_at_call 27; refine (Bud.taken_blocks).mono ?_; rintro e w1 ⟨rfl, rfl⟩; have GT := Lib.hid (GG2.out _ HXc.out); have HXb := Lib.hid HXc.out; have HXc := Lib.hid ((HXc.out.alloc (.cells #[.pointer (some ⟨bp, 0, none⟩)] 58)).alloc (.cells #[.int .i64 2] 3)))
          | (go_at_call 25; refine (GB.out).mono ?_; rintro e w1 ⟨v1, rfl, h1, hx⟩; have V1 := Lib.hid (BSl.of h1); have HXc := Lib.hid (HXb.out.trans hx); clear GB h1 hx)
          | (go_at_call 25; refine (GT.out).mono ?_; rintro e w1 ⟨v2, rfl, h1, hx⟩; have V2 := Lib.hid (BSl.of h1); have HXc := Lib.hid (HXb.out.trans hx); clear GT h1 hx)
          | (go_at_call 31; refine (same_t _ _ _ _ _ V1.out (SS1.out _ HXc.out) (by simp) (by simp; omega)).mono ?_; rintro e w1 ⟨rfl, hx⟩; clear V1; have HXc := Lib.hid (HXc.out.trans hx); clear hx)
          | (go_at_call 31; refine (same_t _ _ _ _ _ V2.out (SS2.out _ HXc.out) (by simp) (by simp; omega)).mono ?_; rintro e w1 ⟨rfl, hx⟩; clear V2; have HXc := Lib.hid (HXc.out.trans hx); clear hx)
          | (go_at_call 22; refine (IS.out _ HXc.out).mono ?_; rintro e w1 ⟨rfl, hx⟩; have HXc := Lib.hid (HXc.out.trans hx); clear hx)
          | (go_at_call 24; refine (CW.out _).mono ?_; rintro e w1 ⟨rfl, hx⟩; have HXc := Lib.hid (HXc.out.trans hx); clear hx))
        all_goals
          go_wp2
          go_ret
          exact ⟨rfl, HI.out.1.trans HXc.out⟩
  · have CM := Lib.hid (fun w => made_bad N E w hb)
    have b0 := Blk.new w [.int .i64 N, .int .i64 E] 56
    have c0 := b0.cell 0
    have c1 := b0.cell 1
    clear hb b0
    go_enter Try.func9, Try.ntmps9
    go_wp2_with (go_at_call 21; refine (CM.out _).mono ?_; rintro e' w2 ⟨rfl, hx⟩; have HX := Lib.hid (((Ext.refl [] w).alloc _).trans hx); clear hx c0 c1)
    go_loopw [8, 10] (fun f i wr => i = .int .i64 0 ∧ f = .bool true ∧ Ext [] w wr) (fun _ i _ => 0)
    case atStart => exact ⟨rfl, rfl, HX.out.alloc _⟩
    case round =>
      obtain ⟨rfl, rfl, hI⟩ := hrel
      have HI := Lib.hid hI
      clear hI
      by_cases hz : 0 < l.length
      all_goals
        go_wp2_with (go_at_call 24; refine (CW.out _).mono ?_; rintro e' w5 ⟨rfl, hx5⟩; have HX5 := Lib.hid hx5; clear hx5)
        go_ret
        exact ⟨rfl, HI.out.trans HX5.out⟩

end Go.Proofs.Ytkpnmknkimlnaaa
