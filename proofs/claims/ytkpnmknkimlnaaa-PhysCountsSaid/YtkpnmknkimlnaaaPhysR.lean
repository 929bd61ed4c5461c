/-
  Phys: the law PhysCounts, walked.
-/
import Derived.Test.YtkpnmknkimlnaaaPhysN
import Derived.Test.YtkpnmknkimlnaaaPhysQ
namespace Go.Proofs.Ytkpnmknkimlnaaa
set_option linter.unusedVariables false
set_option linter.unusedSimpArgs false
open Go.RowKit
set_option maxHeartbeats 4000000
set_option maxRecDepth 10000
set_option linter.unusedSectionVars false

theorem physCounts_c (N E : Int) (v : Value) (l : List PAct) (w : World) (hl : Acts w v l) :
    Calls Try.prog 4 #[.agg #[.int .i64 N, .int .i64 E], v] w fun e w' => e = .returned (.bool true) ∧ Ext [] w w' := by
  obtain ⟨a, cap, rfl, hlen, hA⟩ := hl.form
  have HA := Lib.hid hA
  clear hA hl
  have CW := Lib.hid (fun w => awake02_c w)
  unfold maxLen at hlen
  cases hb : newBad N E
  · obtain ⟨n, e, rfl, rfl, hn, he⟩ := newBad_no hb
    have CM := Lib.hid (fun w => made_ok n e w hn he)
    have s0 : (w.alloc (.cells #[.int .i64 (n : Int), .int .i64 (e : Int)] 23)).heap.size = w.heap.size + 1 := by simp
    clear hb hn he
    go_enter Try.func4, Try.ntmps4
    go_wp2_with (go_at_call 12; refine (CM.out _).mono ?_; rintro e' w2 ⟨bm, bl, br, bw, bo, rfl, hx, h1, h2, h3, h4, h5, hB⟩; rw [s0] at h1 h2 h3 h4 h5; have HB := Lib.hid hB; have HX := Lib.hid (((Ext.refl [] w).alloc _).trans hx); have HN := Lib.hid (⟨by omega, by omega, by omega⟩ : w.heap.size ≤ bl ∧ w.heap.size ≤ bw ∧ w.heap.size ≤ bo); clear hB hx h1 h2 h3 h4 h5 s0)
    have hIn : InLoop w w2.heap.size bm bl br bw bo n e (w2.alloc (.cells #[.pointer (some ⟨bm, 0, none⟩), .pointer (some ⟨br, 0, none⟩)] 29)) :=
      ⟨HX.out.alloc _, Blk.new _ _ _, _, _, _, HB.out.ext ((Ext.refl [] _).alloc _), KOk.zero⟩
    have HM := Lib.hid (by have := HB.out.mem.body.lt; have := HB.out.ref.words.lt; have := HB.out.ref.owns.lt; omega : w2.heap.size ≠ bl ∧ w2.heap.size ≠ bw ∧ w2.heap.size ≠ bo)
    generalize w2.heap.size = bb at *
    clear HX HB
    go_loopw [6, 8] (fun f i wr => ∃ k : Nat, k ≤ l.length ∧ i = .int .i64 k ∧ f = .bool true ∧ InLoop w bb bm bl br bw bo n e wr) (fun _ i _ => l.length - (intOf i).toNat)
    case atStart => exact ⟨0, by omega, rfl, rfl, hIn⟩
    case round =>
      obtain ⟨k, hk, rfl, rfl, hI⟩ := hrel
      have HI := Lib.hid hI
      by_cases hlt : k < l.length
      · obtain ⟨b, o, rfl, hb, hac⟩ := (HA.out.ext_new hI.1 (by simp)).at_ hlt
        have hb' : b < w.heap.size := by
          obtain ⟨b2, o2, he, hb2, _⟩ := HA.out.at_ hlt
          cases he; exact hb2
        have HAC := Lib.hid (fun w' (hx : Ext [bl, bw, bo] wr w') => hac.ext hb hx (by have := HN.out; simp; omega))
        obtain ⟨wd, kd, nd, hB, hkd⟩ := hI.2.2
        have k0 := hI.2.1.cell 0
        have k1 := hI.2.1.cell 1
        obtain ⟨g0, g1, g2, g3, g4, g5, g6⟩ := hac
        have CP := Lib.hid (fun w' (hx : Ext [] wr w') => play_c bm bl br bw bo n e wd kd nd l[k].d l[k].f l[k].i l[k].v l[k].t l[k].k l[k].n w' (hB.ext hx))
        generalize l[k] = p at *
        have i0 : (0 : Int) ≤ (k : Int) := by omega
        have i1 : (k : Int) < (l.length : Int) := by omega
        have hxd : Ext [] wr wr.drew := (Ext.refl _ _).drew
        have HXD := Lib.hid hxd
        have HKD := Lib.hid hkd
        clear hB hI hb hb' hxd hkd
        go_wp2
        go_region_held (fun cur => cur.cell? ⟨bb, 0, none⟩ = some (.pointer (some ⟨bm, 0, none⟩)) ∧ cur.cell? ⟨bb, 1, none⟩ = some (.pointer (some ⟨br, 0, none⟩)) ∧ cur.cell? ⟨b, o + k * 7, none⟩ = some (.int .i64 p.d) ∧ cur.cell? ⟨b, o + k * 7 + 1, none⟩ = some (.int .i64 p.f) ∧ cur.cell? ⟨b, o + k * 7 + 2, none⟩ = some (.int .i64 p.i)
             ∧ cur.cell? ⟨b, o + k * 7 + 3, none⟩ = some (.int .u64 p.v) ∧ cur.cell? ⟨b, o + k * 7 + 4, none⟩ = some (.int .i64 p.t) ∧ cur.cell? ⟨b, o + k * 7 + 5, none⟩ = some (.int .i64 p.k) ∧ cur.cell? ⟨b, o + k * 7 + 6, none⟩ = some (.int .i64 p.n)) (first | exact ⟨HI2.out.2.1.cell 0, HI2.out.2.1.cell 1, HAC2.out.c0, HAC2.out.c1, HAC2.out.c2, HAC2.out.c3, HAC2.out.c4, HAC2.out.c5, HAC2.out.c6⟩ | go_keep)
          ((go_at_call 13; refine (CP.out _ HXD.out).mono ?_; intro e' w4 hp; obtain ⟨rfl, hI2, hx⟩ := (HI.out.ext HXD.out).played HN.out HM.out HKD.out hp; have HI2 := Lib.hid hI2; have HAC2 := Lib.hid (HAC.out _ ((HXD.out.mono (by simp)).trans hx)); clear hp hx hI2))
        all_goals go_wp2
        all_goals
          go_roundw
          case rel => exact ⟨k + 1, by omega, by go_num, rfl, HI2.out⟩
          case measure => simp [intOf]; omega
      · obtain rfl : k = l.length := by omega
        obtain ⟨wd, kd, nd, hB, hkd⟩ := hI.2.2
        have k0 := hI.2.1.cell 0
        have k1 := hI.2.1.cell 1
        have HKD := Lib.hid hkd
        have HL := Lib.hid hB.mem.le
        have HE := Lib.hid hB.mem.hE
        have HN8 := Lib.hid hB.mem.hN
        obtain ⟨wa, rfl⟩ : ∃ wa : World, wa = wr := ⟨_, rfl⟩
        obtain ⟨C, hC⟩ : ∃ C, C = cntN kd n e := ⟨_, rfl⟩
        have CC := Lib.hid (fun w' (hx : Ext [] wa w') (x kind : Int) => show Calls Try.prog 18 _ w' (fun e' w'' => e' = .returned (.int .i64 (C x kind : Int)) ∧ Ext [] w' w'') from by
          have h := (hB.ext hx).mem.count x kind
          rw [cntN_cast, ← hC] at h; exact h)
        have CCR := Lib.hid (fun w' (hx : Ext [] wa w') (x kind : Int) => show Calls Try.prog 19 _ w' (fun e' w'' => e' = .returned (.int .i64 (C x kind : Int)) ∧ Ext [] w' w'') from by
          have h := (hB.ext hx).ref.count x kind
          rw [cnt_same hB.mem.hE.1 hB.mem.le, cntN_cast, ← hC] at h; exact h)
        have HC := Lib.hid (fun x kind => hC ▸ cntN_le kd n e x kind : ∀ x kind, C x kind ≤ e)
        have HU := Lib.hid (fun x m => hC ▸ upK_le kd n e x m : ∀ x m, upK (C x) m ≤ m * e)
        have HA6 := Lib.hid (fun x => hC ▸ upK_all hkd n e x : ∀ x, upK (C x) 6 = if 0 ≤ x ∧ x < n then e else 0)
        have HR := Lib.hid (fun w' (hx : Ext [] wa w') => (hB.ext hx).ref.head)
        have hr0 := hB.ref.head.cell 0
        have hr1 := hB.ref.head.cell 1
        have HBB := Lib.hid hI.2.1
        clear hB hI hkd hC HKD HL
        go_wp2
        clear hr0 hr1 k0 k1 hIn
        go_loopw [9] (fun x wc => ∃ m : Nat, m ≤ n + 2 ∧ x = .int .i64 ((m : Int) - 1) ∧ Ext [] wa wc) (fun x _ => n + 2 - (intOf x + 1).toNat)
        case atStart => exact ⟨0, by omega, rfl, Ext.refl _ _⟩
        case round =>
          obtain ⟨m, hm, rfl, hxc⟩ := hrel
          obtain ⟨wb, rfl⟩ : ∃ wb : World, wb = wr := ⟨_, rfl⟩
          have HXC := Lib.hid hxc
          have k0 := (HBB.out.ext hxc (by simp)).cell 0
          have k1 := (HBB.out.ext hxc (by simp)).cell 1
          have r0 := (HR.out _ hxc).cell 0
          have r1 := (HR.out _ hxc).cell 1
          have n8 := HN8.out.2
          have e8 := HE.out
          clear hxc
          by_cases hmn : m ≤ n + 1
          · have hmi : decide ((m : Int) - 1 ≤ (n : Int)) = true := by simp; omega
            go_wp2
            clear k0 k1 r0 r1
            go_loopw [10, 11] (fun s y wi => ∃ q : Nat, q ≤ 6 ∧ y = .int .i64 ((q : Int) - 1) ∧ s = .int .i64 (upK (C ((m : Int) - 1)) q : Int) ∧ Ext [] wa wi) (fun _ y _ => 6 - (intOf y + 1).toNat)
            case atStart => exact ⟨0, by omega, rfl, rfl, HXC.out⟩
            case round =>
              obtain ⟨q, hq, rfl, rfl, hxi⟩ := hrel
              have HXI := Lib.hid hxi
              have k0 := (HBB.out.ext hxi (by simp)).cell 0
              have k1 := (HBB.out.ext hxi (by simp)).cell 1
              have r0 := (HR.out _ hxi).cell 0
              have r1 := (HR.out _ hxi).cell 1
              clear hxi
              by_cases hq6 : q < 6
              · have hu1 := HC.out ((m : Int) - 1) ((q : Int) - 1)
                have hu2 := HU.out ((m : Int) - 1) q
                have hu3 : q * e ≤ 6 * e := Nat.mul_le_mul_right e (by omega)
                have HUP := Lib.hid (show (upK (C ((m : Int) - 1)) q : Int) + (C ((m : Int) - 1) ((q : Int) - 1) : Int) = (upK (C ((m : Int) - 1)) (q + 1) : Int) from by simp [upK])
                obtain ⟨u, hu⟩ : ∃ u, u = upK (C ((m : Int) - 1)) q := ⟨_, rfl⟩
                have hub : u ≤ 6144 := by omega
                obtain ⟨c, hc⟩ : ∃ c, c = C ((m : Int) - 1) ((q : Int) - 1) := ⟨_, rfl⟩
                have hcb : c ≤ 1024 := by omega
                have CC1 := Lib.hid (fun w' (hx : Ext [] wa w') => CC.out w' hx ((m : Int) - 1) ((q : Int) - 1))
                have CCR1 := Lib.hid (fun w' (hx : Ext [] wa w') => CCR.out w' hx ((m : Int) - 1) ((q : Int) - 1))
                rw [← hu, ← hc] at HUP
                rw [← hc] at CC1 CCR1
                rw [← hu]
                clear hu1 hu2 hu3 hu hc
                go_wp2_with (first
                  | (go_at_call 18; refine (CC1.out _ HXI.out).mono ?_; rintro e' w4 ⟨rfl, hx4⟩; have HX4 := Lib.hid (HXI.out.trans hx4); have p0 := (HBB.out.ext HX4.out (by simp)).cell 0; have p1 := (HBB.out.ext HX4.out (by simp)).cell 1; clear hx4)
                  | (go_at_call 19; refine (CCR1.out _ HX4.out).mono ?_; rintro e' w5 ⟨rfl, hx5⟩; have HX5 := Lib.hid (HX4.out.trans hx5); clear hx5))
                go_roundw
                case rel => exact ⟨q + 1, by omega, int_eq (by omega), by rw [← HUP.out], HX5.out⟩
                case measure => simp [intOf]; omega
              · obtain rfl : q = 6 := by omega
                rw [HA6.out]
                by_cases hin : (0 : Int) ≤ (m : Int) - 1 ∧ (m : Int) - 1 < (n : Int)
                · rw [if_pos hin]
                  obtain ⟨h0, h1⟩ := hin
                  have e0 : ((e : Int) == 0) = false := by simp; omega
                  have e1 : ((e : Int) != 0) = true := by simp; omega
                  have h2 : decide ((m : Int) - 1 < 0) = false := by simp; omega
                  have h3 : decide ((n : Int) ≤ (m : Int) - 1) = false := by simp; omega
                  go_wp2
                  go_roundw
                  case rel => exact ⟨m + 1, by omega, int_eq (by omega), HXI.out⟩
                  case measure => simp [intOf]; omega
                · rw [if_neg hin]
                  by_cases h2 : (m : Int) - 1 < 0
                  · go_wp2
                    go_roundw
                    case rel => exact ⟨m + 1, by omega, int_eq (by omega), HXI.out⟩
                    case measure => simp [intOf]; omega
                  · have h3 : decide ((n : Int) ≤ (m : Int) - 1) = true := by simp; omega
                    go_wp2
                    go_roundw
                    case rel => exact ⟨m + 1, by omega, int_eq (by omega), HXI.out⟩
                    case measure => simp [intOf]; omega
          · have hmi : decide ((m : Int) - 1 ≤ (n : Int)) = false := by simp; omega
            go_wp2_with (go_at_call 14; refine (CW.out _).mono ?_; rintro e' w6 ⟨rfl, hx6⟩; have HX6 := Lib.hid hx6; clear hx6)
            go_ret
            exact ⟨rfl, (HI.out.1.trans HXC.out).trans HX6.out⟩
  · have CM := Lib.hid (fun w => made_bad N E w hb)
    clear hb
    go_enter Try.func4, Try.ntmps4
    go_wp2_with (go_at_call 12; refine (CM.out _).mono ?_; rintro e' w2 ⟨rfl, hx⟩; have HX := Lib.hid (((Ext.refl [] w).alloc _).trans hx); clear hx)
    go_loopw [6, 8] (fun f i wr => i = .int .i64 0 ∧ f = .bool true ∧ Ext [] w wr) (fun _ i _ => 0)
    case atStart => exact ⟨rfl, rfl, HX.out.alloc _⟩
    case round =>
      obtain ⟨rfl, rfl, hI⟩ := hrel
      have HI := Lib.hid hI
      clear hI
      by_cases hz : 0 < l.length
      all_goals
        go_wp2_with (go_at_call 14; refine (CW.out _).mono ?_; rintro e' w5 ⟨rfl, hx5⟩; have HX5 := Lib.hid hx5; clear hx5)
        go_ret
        exact ⟨rfl, HI.out.trans HX5.out⟩

end Go.Proofs.Ytkpnmknkimlnaaa
