/-
  Phys: the law PhysBytes, walked.
-/
import Derived.Test.YtkpnmknkimlnaaaPhysN
namespace Go.Proofs.Ytkpnmknkimlnaaa
set_option linter.unusedVariables false
set_option linter.unusedSimpArgs false
open Go.RowKit
set_option maxHeartbeats 4000000
set_option maxRecDepth 10000
set_option linter.unusedSectionVars false

theorem getB_no {n : Nat} {wd : Nat → Int} {f i : Int} (h : okB n f i = false) : getB n wd f i = .tuple #[.int .u8 0, .int .i64 1] := by
  unfold getB; rw [h]; rfl
theorem getB_yes {n : Nat} {wd : Nat → Int} {k q r : Nat} (hq : q < 8) (hr : r < 8) (h : okB n k ((q * 8 + r : Nat) : Int) = true) : getB n wd k ((q * 8 + r : Nat) : Int) = .tuple #[.int .u8 (byteOf (wd (k * 8 + q)) r), .int .i64 0] := by
  have t1 : (((q * 8 + r : Nat) : Int)).toNat / 8 = q := by omega
  have t2 : (((q * 8 + r : Nat) : Int)).toNat % 8 = r := by omega
  have t4 : (k : Int).toNat = k := by omega
  unfold getB
  rw [h, if_pos rfl, t1, t2, t4]
theorem getW_yes {n : Nat} {wd : Nat → Int} {k q : Nat} (hk : k < n) (hq : q < 8) : getW n wd k q = .tuple #[.int .u64 (wd (k * 8 + q)), .int .i64 0] := by
  unfold getW okW hasF
  have t1 : ixW (k : Int) (q : Int) = k * 8 + q := by simp [ixW]
  rw [t1]
  simp [hk]; omega

theorem physBytes_c (N E : Int) (v : Value) (l : List PAct) (f i : Int) (w : World) (hl : Acts w v l) :
    Calls Try.prog 3 #[.agg #[.int .i64 N, .int .i64 E], v, .agg #[.int .i64 f, .int .i64 i]] w fun e w' => e = .returned (.bool true) ∧ Ext [] w w' := by
  obtain ⟨a, cap, rfl, hlen, hA⟩ := hl.form
  have HA := Lib.hid hA
  clear hA hl
  have CW := Lib.hid (fun w => awake02_c w)
  unfold maxLen at hlen
  cases hb : newBad N E
  · obtain ⟨n, e, rfl, rfl, hn, he⟩ := newBad_no hb
    have CM := Lib.hid (fun w => made_ok n e w hn he)
    have s0 : ((w.alloc (.cells #[.int .i64 (n : Int), .int .i64 (e : Int)] 23)).alloc (.cells #[.int .i64 f, .int .i64 i] 25)).heap.size = w.heap.size + 1 + 1 := by simp
    clear hb hn he
    go_enter Try.func3, Try.ntmps3
    go_wp2_with (go_at_call 12; refine (CM.out _).mono ?_; rintro e' w2 ⟨bm, bl, br, bw, bo, rfl, hx, h1, h2, h3, h4, h5, hB⟩; rw [s0] at h1 h2 h3 h4 h5; have HB := Lib.hid hB; have HX := Lib.hid ((((Ext.refl [] w).alloc _).alloc _).trans hx); have HN := Lib.hid (⟨by omega, by omega, by omega⟩ : w.heap.size ≤ bl ∧ w.heap.size ≤ bw ∧ w.heap.size ≤ bo); clear hB hx h1 h2 h3 h4 h5 s0)
    have hIn : InLoop w w2.heap.size bm bl br bw bo n e (w2.alloc (.cells #[.pointer (some ⟨bm, 0, none⟩), .pointer (some ⟨br, 0, none⟩)] 29)) :=
      ⟨HX.out.alloc _, Blk.new _ _ _, _, _, _, HB.out.ext ((Ext.refl [] _).alloc _), KOk.zero⟩
    have HM := Lib.hid (by have := HB.out.mem.body.lt; have := HB.out.ref.words.lt; have := HB.out.ref.owns.lt; omega : w2.heap.size ≠ bl ∧ w2.heap.size ≠ bw ∧ w2.heap.size ≠ bo)
    generalize w2.heap.size = bb at *
    clear HX HB
    go_loopw [10, 12] (fun f i wr => ∃ k : Nat, k ≤ l.length ∧ i = .int .i64 k ∧ f = .bool true ∧ InLoop w bb bm bl br bw bo n e wr) (fun _ i _ => l.length - (intOf i).toNat)
    case atStart => exact ⟨0, by omega, rfl, rfl, hIn⟩
    case round =>
      obtain ⟨k, hk, rfl, rfl, hI⟩ := hrel
      have HI := Lib.hid hI
      by_cases hlt : k < l.length
      · obtain ⟨b, o, rfl, hb, hac⟩ := (HA.out.ext_new hI.1 (by simp)).at_ hlt
        have hb' : b < w.heap.size := by
          obtain ⟨b2, o2, he, hb2, _⟩ := HA.out.at_ hlt
          cases he; exact hb2
        have HAC := Lib.hid (fun w' (hx : Ext [bl, bw, bo] wr w') => hac.ext hb hx (by have := HN.out; simp; omega))
        obtain ⟨wd, kd, nd, hB, hkd⟩ := hI.2.2
        have k0 := hI.2.1.cell 0
        have k1 := hI.2.1.cell 1
        obtain ⟨g0, g1, g2, g3, g4, g5, g6⟩ := hac
        have CP := Lib.hid (fun w' (hx : Ext [] wr w') => play_c bm bl br bw bo n e wd kd nd l[k].d l[k].f l[k].i l[k].v l[k].t l[k].k l[k].n w' (hB.ext hx))
        generalize l[k] = p at *
        have i0 : (0 : Int) ≤ (k : Int) := by omega
        have i1 : (k : Int) < (l.length : Int) := by omega
        have hxd : Ext [] wr wr.drew := (Ext.refl _ _).drew
        have HXD := Lib.hid hxd
        have HKD := Lib.hid hkd
        clear hB hI hb hb' hxd hkd
        go_wp2
        go_region_held (fun cur => cur.cell? ⟨bb, 0, none⟩ = some (.pointer (some ⟨bm, 0, none⟩)) ∧ cur.cell? ⟨bb, 1, none⟩ = some (.pointer (some ⟨br, 0, none⟩)) ∧ cur.cell? ⟨b, o + k * 7, none⟩ = some (.int .i64 p.d) ∧ cur.cell? ⟨b, o + k * 7 + 1, none⟩ = some (.int .i64 p.f) ∧ cur.cell? ⟨b, o + k * 7 + 2, none⟩ = some (.int .i64 p.i)
             ∧ cur.cell? ⟨b, o + k * 7 + 3, none⟩ = some (.int .u64 p.v) ∧ cur.cell? ⟨b, o + k * 7 + 4, none⟩ = some (.int .i64 p.t) ∧ cur.cell? ⟨b, o + k * 7 + 5, none⟩ = some (.int .i64 p.k) ∧ cur.cell? ⟨b, o + k * 7 + 6, none⟩ = some (.int .i64 p.n)) (first | exact ⟨HI2.out.2.1.cell 0, HI2.out.2.1.cell 1, HAC2.out.c0, HAC2.out.c1, HAC2.out.c2, HAC2.out.c3, HAC2.out.c4, HAC2.out.c5, HAC2.out.c6⟩ | go_keep)
          ((go_at_call 13; refine (CP.out _ HXD.out).mono ?_; intro e' w4 hp; obtain ⟨rfl, hI2, hx⟩ := (HI.out.ext HXD.out).played HN.out HM.out HKD.out hp; have HI2 := Lib.hid hI2; have HAC2 := Lib.hid (HAC.out _ ((HXD.out.mono (by simp)).trans hx)); clear hp hx hI2))
        all_goals go_wp2
        all_goals
          go_roundw
          case rel => exact ⟨k + 1, by omega, by go_num, rfl, HI2.out⟩
          case measure => simp [intOf]; omega
      · obtain rfl : k = l.length := by omega
        obtain ⟨wd, kd, nd, hB, hkd⟩ := hI.2.2
        have k0 := hI.2.1.cell 0
        have k1 := hI.2.1.cell 1
        have CB := Lib.hid (hB.mem.byte f i)
        have CBR := Lib.hid (fun w' (hx : Ext [] wr w') => (hB.ext hx).ref.byte f i)
        rcases okB_cases (n * e) f i with ⟨e1, e2⟩ | ⟨e1, e2, e3⟩ | ⟨e1, k, q, r, rfl, hk, rfl, hq, hr⟩
        · rw [getB_no e1] at CB CBR
          clear hB hI hkd e1 e2
          go_wp2_with (first
            | (go_at_call 15; refine (CB.out).mono ?_; rintro e' w4 ⟨rfl, hx4⟩; have HX4 := Lib.hid hx4; have q0 := (HI.out.ext hx4).2.1.cell 0; have q1 := (HI.out.ext hx4).2.1.cell 1; clear hx4)
            | (go_at_call 16; refine (CBR.out _ HX4.out).mono ?_; rintro e' w5 ⟨rfl, hx5⟩; have HX5 := Lib.hid hx5; clear hx5)
            | (go_at_call 14; refine (CW.out _).mono ?_; rintro e' w6 ⟨rfl, hx6⟩; have HX6 := Lib.hid hx6; clear hx6))
          go_ret
          exact ⟨rfl, ((HI.out.1.trans HX4.out).trans HX5.out).trans HX6.out⟩
        · rw [getB_no e1] at CB CBR
          clear hB hI hkd e1 e2 e3
          go_wp2_with (first
            | (go_at_call 15; refine (CB.out).mono ?_; rintro e' w4 ⟨rfl, hx4⟩; have HX4 := Lib.hid hx4; have q0 := (HI.out.ext hx4).2.1.cell 0; have q1 := (HI.out.ext hx4).2.1.cell 1; clear hx4)
            | (go_at_call 16; refine (CBR.out _ HX4.out).mono ?_; rintro e' w5 ⟨rfl, hx5⟩; have HX5 := Lib.hid hx5; clear hx5)
            | (go_at_call 14; refine (CW.out _).mono ?_; rintro e' w6 ⟨rfl, hx6⟩; have HX6 := Lib.hid hx6; clear hx6))
          go_ret
          exact ⟨rfl, ((HI.out.1.trans HX4.out).trans HX5.out).trans HX6.out⟩
        · rw [getB_yes hq hr e1] at CB CBR
          have CWD := Lib.hid (fun w' (hx : Ext [] wr w') => (hB.ext hx).mem.word k q)
          rw [getW_yes hk hq] at CWD
          have h2 : ((q * 8 + r : Nat) : Int) / 8 = (q : Int) := by omega
          have h3 : ((q * 8 + r : Nat) : Int) % 8 = (r : Int) := by omega
          have h4 : (0 : Int) ≤ ((q * 8 + r : Nat) : Int) := by omega
          have h5 : ((q * 8 + r : Nat) : Int) < 64 := by omega
          clear hB hI hkd e1 hk hq
          generalize ((q * 8 + r : Nat) : Int) = i at *
          generalize wd (k * 8 + q) = v at *
          have hn : r = 0 ∨ r = 1 ∨ r = 2 ∨ r = 3 ∨ r = 4 ∨ r = 5 ∨ r = 6 ∨ r = 7 := by omega
          clear hr
          rcases hn with rfl | rfl | rfl | rfl | rfl | rfl | rfl | rfl
          all_goals
            simp only [byteOf] at CB CBR
            go_wp2_with (first
            | (go_at_call 15; refine (CB.out).mono ?_; rintro e' w4 ⟨rfl, hx4⟩; have HX4 := Lib.hid hx4; have q0 := (HI.out.ext hx4).2.1.cell 0; have q1 := (HI.out.ext hx4).2.1.cell 1; clear hx4)
            | (go_at_call 16; refine (CBR.out _ HX4.out).mono ?_; rintro e' w5 ⟨rfl, hx5⟩; have HX5 := Lib.hid hx5; have q0 := (HI.out.ext (HX4.out.trans hx5)).2.1.cell 0; have q1 := (HI.out.ext (HX4.out.trans hx5)).2.1.cell 1; clear hx5)
            | (go_at_call 17; refine (CWD.out _ (HX4.out.trans HX5.out)).mono ?_; rintro e' w7 ⟨rfl, hx7⟩; have HX7 := Lib.hid hx7; clear hx7)
            | (go_at_call 14; refine (CW.out _).mono ?_; rintro e' w6 ⟨rfl, hx6⟩; have HX6 := Lib.hid hx6; clear hx6))
            go_ret
            exact ⟨rfl, (((HI.out.1.trans HX4.out).trans HX5.out).trans HX7.out).trans HX6.out⟩
  · have CM := Lib.hid (fun w => made_bad N E w hb)
    clear hb
    go_enter Try.func3, Try.ntmps3
    go_wp2_with (go_at_call 12; refine (CM.out _).mono ?_; rintro e' w2 ⟨rfl, hx⟩; have HX := Lib.hid ((((Ext.refl [] w).alloc _).alloc _).trans hx); clear hx)
    go_loopw [10, 12] (fun f i wr => i = .int .i64 0 ∧ f = .bool true ∧ Ext [] w wr) (fun _ i _ => 0)
    case atStart => exact ⟨rfl, rfl, HX.out.alloc _⟩
    case round =>
      obtain ⟨rfl, rfl, hI⟩ := hrel
      have HI := Lib.hid hI
      clear hI
      by_cases hz : 0 < l.length
      all_goals
        go_wp2_with (go_at_call 14; refine (CW.out _).mono ?_; rintro e' w5 ⟨rfl, hx5⟩; have HX5 := Lib.hid hx5; clear hx5)
        go_ret
        exact ⟨rfl, HI.out.trans HX5.out⟩

end Go.Proofs.Ytkpnmknkimlnaaa
