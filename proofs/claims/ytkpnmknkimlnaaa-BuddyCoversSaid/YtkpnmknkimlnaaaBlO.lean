/-
  Buddy: the law BuddyCovers, walked.
-/
import Derived.Test.YtkpnmknkimlnaaaBlN
namespace Go.Proofs.Ytkpnmknkimlnaaa
set_option linter.unusedVariables false
set_option linter.unusedSimpArgs false
open Go.RowKit BuT
set_option maxHeartbeats 4000000
set_option maxRecDepth 100000
set_option linter.unusedVariables false
set_option linter.unusedSimpArgs false

theorem brow_both {w : World} {B : Nat} {v : Value} {a b : List Bk} (h : w.ownsRow B 76 2 v (a.length + b.length) (encB a ++ encB b)) : BRow w B v (a ++ b) := by
  show World.ownsRow _ _ _ _ _ _ _
  rw [List.length_append, encB_app]; exact h

theorem buddyCovers_c (N E : Int) (v : Value) (l : List BAct) (w : World) (hl : BActs w v l) :
    Calls Try.prog 7 #[.agg #[.int .i64 N, .int .i64 E], v] w fun e w' => e = .returned (.bool true) ∧ Ext [] w w' := by
  obtain ⟨a, cap, rfl, hlen, hA⟩ := hl.form
  have HA := Lib.hid hA
  clear hA hl
  have CW := Lib.hid (fun w => awake_c w)
  replace hlen : l.length ≤ 9223372036854775807 := by unfold maxLen at hlen; omega
  by_cases hb : okNew N E
  · obtain ⟨F, n, rfl, rfl, hF, h1, h2⟩ := okNew_nat hb
    have CM := Lib.hid (fun w => made_is F n w hF h1 h2)
    have b0 := Blk.new w [.int .i64 (F : Int), .int .i64 (n : Int)] 56
    have c0 := b0.cell 0
    have c1 := b0.cell 1
    have s0 : (w.alloc (.cells #[.int .i64 (F : Int), .int .i64 (n : Int)] 56)).heap.size = w.heap.size + 1 := by simp
    clear hb h1 h2 hF b0
    go_enter Try.func7, Try.ntmps7
    go_wp2_with (go_at_call 21; refine (CM.out _).mono ?_; rintro e' w2 ⟨bp, bl, rp, rfl, hx, hB, hR, h1, h2, h3, h4, h5⟩; rw [s0] at h1 h2 h3; have HI := Lib.hid (InB.start hx hB hR h4 h5); have HN := Lib.hid (⟨by omega, by omega, by omega⟩ : w.heap.size < bl ∧ w.heap.size < rp ∧ w.heap.size < bp); have HM := Lib.hid (by have := hB.tab.lt; have := hR.old; have := hx.size; omega : (w2.heap.size ≠ bl ∧ w2.heap.size ≠ rp) ∧ w.heap.size ≠ bl ∧ w.heap.size ≠ rp); clear hB hR hx h1 h2 h3 h4 h5 s0 c0 c1)
    generalize w2.heap.size = bb at *
    go_loopw [6, 8] (fun f i wr => ∃ k : Nat, k ≤ l.length ∧ i = .int .i64 k ∧ f = .bool true ∧ InB w w.heap.size F n bb bp bl rp F n wr) (fun _ i _ => l.length - (intOf i).toNat)
    case atStart => exact ⟨0, by omega, rfl, rfl, HI.out⟩
    case round =>
      obtain ⟨k, hk, rfl, rfl, hI⟩ := hrel
      have HI := Lib.hid hI
      by_cases hlt : k < l.length
      · obtain ⟨b, o, rfl, hb, hac⟩ := (HA.out.ext_new hI.1 (by simp)).at_ hlt
        have hb' : b < w.heap.size := by
          obtain ⟨b2, o2, he, hb2, _⟩ := HA.out.at_ hlt
          cases he; exact hb2
        have HAC := Lib.hid (fun w' (hx : Ext [bl, rp] wr w') => hac.ext hb hx (by have := HN.out; simp; omega))
        obtain ⟨kd, od, hJ⟩ := hI.2.2.2
        have CP := Lib.hid (fun w' (hx : Ext [] wr w') => play_c w' bp bl rp F n kd od (hJ.ext0 hx) l[k].d l[k].f l[k].o l[k].h l[k].fd.2 l[k].hd.2)
        generalize l[k] = p at *
        have i0 : (0 : Int) ≤ (k : Int) := by omega
        have i1 : (k : Int) < (l.length : Int) := by omega
        have hxd : Ext [] wr wr.drew := (Ext.refl _ _).drew
        have HXD := Lib.hid hxd
        have HI2 := Lib.hid (hI.ext hxd)
        have HAC2 := Lib.hid (HAC.out _ (hxd.mono (by simp)))
        clear hI hb hb' hxd hac hJ
        go_wp2
        go_region_held3 (fun cur => cur.cell? ⟨bb, 0, none⟩ = some (.pointer (some ⟨bp, 0, none⟩)) ∧ cur.cell? ⟨bb, 1, none⟩ = some (.pointer (some ⟨rp, 0, none⟩)) ∧ cur.cell? ⟨b, o + k * 4, none⟩ = some (.int .i64 p.d) ∧ cur.cell? ⟨b, o + k * 4 + 1, none⟩ = some (.int .i64 p.f) ∧ cur.cell? ⟨b, o + k * 4 + 2, none⟩ = some (.int .i64 p.o)
             ∧ cur.cell? ⟨b, o + k * 4 + 3, none⟩ = some (.int .i64 p.h)) (exact ⟨HI2.out.2.2.1.cell 0, HI2.out.2.2.1.cell 1, HAC2.out.c0, HAC2.out.c1, HAC2.out.c2, HAC2.out.c3⟩)
          ((go_at_call 23; refine (CP.out _ HXD.out).mono ?_; intro e' w5 hp; obtain ⟨rfl, hI2, hx⟩ := HI2.out.played (by have := HN.out; omega) HM.out hp; have HI2 := Lib.hid hI2; have HAC2 := Lib.hid (HAC.out _ ((HXD.out.mono (by simp)).trans hx)); clear hp hx hI2))
        all_goals go_wp2
        all_goals
          go_roundw
          case rel => exact ⟨k + 1, by omega, by go_num, rfl, HI2.out⟩
          case measure => simp [intOf]; omega
      · obtain rfl : k = l.length := by omega
        clear hI
        obtain ⟨kd, od, hJ⟩ := HI.out.2.2.2
        have n1 := hJ.bud.n1
        have n2 := hJ.bud.n2
        have F8 := hJ.bud.F8
        have z0 := HI.out.2.2.1.cell 0
        have Z := Lib.hid HI.out.2.2.1
        have G := Lib.hid HI.out.2.1
        have l1 := hJ.len 1
        have l2 := hJ.len 2
        have T1 := Lib.hid (show (blks (F : Int) kd od 1 n).take (9999 : Int).toNat = blks (F : Int) kd od 1 n from List.take_of_length_le (by simp; omega))
        have T2 := Lib.hid (show (blks (F : Int) kd od 2 n).take (9999 : Int).toNat = blks (F : Int) kd od 2 n from List.take_of_length_le (by simp; omega))
        have J := Lib.hid hJ
        have GG1 := Lib.hid (fun (u : World) (hx : Ext [] wr u) => Bud.gone (J.out.bud.ext hx (by simp) (by simp)) 1 1 rfl 9999)
        have GG2 := Lib.hid (fun (u : World) (hx : Ext [] wr u) => Bud.gone (J.out.bud.ext hx (by simp) (by simp)) 2 2 rfl 9999)
        have HQ := Lib.hid hJ.tiles.fitsQ
        have HLQ : Hid (blks (F : Int) kd od 2 n ++ blks (F : Int) kd od 1 n = (qs kd od 2 n ++ qs kd od 1 n).map (bkQ F)) := by
          show _ = _
          rw [blks_qs, blks_qs, List.map_append]
        have CC := Lib.hid (fun (u : World) v (hv : BSl u v ((qs kd od 2 n ++ qs kd od 1 n).map (bkQ F))) => covers_c F n _ u v hv HQ.out F8 n1 n2)
        have XC := Lib.hid (Ext.refl [] wr)
        clear hJ
        go_wp2_with (first
          | (go_at_call 26; refine (Bud.free_blocks).mono ?_; rintro e w1 ⟨rfl, rfl⟩; have GB := Lib.hid (GG1.out _ XC.out); clear GG1)
          | (go_at_call 27; refine (Bud.taken_blocks).mono ?_; rintro e w1 ⟨rfl, rfl⟩; have GT := Lib.hid (GG2.out _ XC.out); clear GG2)
          | (go_at_call 25; refine (GB.out).mono ?_; rintro e w3 ⟨v1, rfl, h1, hx⟩; rw [T1.out] at h1; have XC := Lib.hid hx; have V1 := Lib.hid h1; have VL := Lib.hid (fun b hb => (h1.lt b hb).2); obtain ⟨g1, cp1, hv1, hc1, hc2⟩ := ownsRow_form h1; subst hv1; clear GB h1 z0; have z0 := (Z.out.ext hx (by simp)).cell 0; have zl := (Z.out.ext hx (by simp)).lt; clear hx))
        refine (GT.out).mono ?_
        rintro e w4 ⟨v2, rfl, h1, hx⟩
        rw [T2.out] at h1
        have XB := Lib.hid XC.out
        have XC := Lib.hid (XB.out.trans hx)
        have hs34 := hx.size
        have V1 := Lib.hid (ownsRow_ext V1.out hx (by simp))
        have V2 := Lib.hid h1
        have VM := Lib.hid (fun b hb => (h1.lt b hb).1)
        obtain ⟨g2, cp2, hv2, hc3, hc4⟩ := ownsRow_form h1
        subst hv2
        clear GT h1 z0 hx
        dsimp only
        go_step
        go_step
        go_step
        go_step
        refine wpList_app (m := (blks (F : Int) kd od 1 n).length) T_blk V2.out (Sl.of_own V1.out) rfl rfl rfl rfl (by simp) (encB_one _) (by unfold maxLen; omega) (by omega) hs34 ?_
        intro v5 w5 hown5 hx5 hnew5
        have hr5 := brow_both hown5
        rw [HLQ.out] at hr5
        have HV := Lib.hid (BSl.of hr5)
        obtain ⟨g5, cp5, hv5, hc5, hc6⟩ := ownsRow_form hown5
        subst hv5
        have V1 := Lib.hid (ownsRow_ext V1.out hx5 (fun b hb hm => by have := VL.out b hb; have := VM.out b (of_mem_own hm); omega))
        have XC := Lib.hid (XC.out.step hx5 (fun b hm => .inr (by have := VM.out b (of_mem_own hm); have := XB.out.size; omega)))
        clear hown5 hx5 hnew5 hr5
        have y0 := (G.out.ext XC.out (by simp)).cell 0
        have y1 := (G.out.ext XC.out (by simp)).cell 1
        go_wp2_with (first
          | (go_at_call 28; refine (CC.out _ _ HV.out).mono ?_; rintro e w6 ⟨rfl, hx⟩; have XC := Lib.hid (XC.out.trans hx); have V1 := Lib.hid (ownsRow_ext V1.out hx (by simp)); clear hx y0 y1))
        have HMB := Lib.hid (fun x (hx : x ∈ blks (F : Int) kd od 1 n) => mem_blks.1 hx)
        have NB := Lib.hid J.out.nobud
        have OR := Lib.hid J.out.tiles.ord
        have G6 := Lib.hid (G.out.ext XC.out (by simp))
        clear G Z J HQ HLQ CC T1 T2 V2 VL VM HV XB hc3 hc4 hc5 hc6
        generalize blks (F : Int) kd od 1 n = LF at *
        generalize (blks (F : Int) kd od 2 n).length = lt at *
        go_loopw [11] (fun i cur => ∃ k : Nat, k ≤ LF.length ∧ i = .int .i64 k ∧ Ext [] w6 cur) (fun i _ => LF.length - (intOf i).toNat)
        case atStart => exact ⟨0, by omega, rfl, Ext.refl _ _⟩
        case round =>
          obtain ⟨k, hk, rfl, hX⟩ := hrel
          have HX := Lib.hid hX
          have y0 := (G6.out.ext hX (by simp)).cell 0
          by_cases hlt : k + 1 < LF.length
          · obtain ⟨g, cap', he, hcap1, hcap2, hg, _, hcc⟩ := brow_some V1.out (by omega)
            cases he
            obtain ⟨p, hp, hp1, hxe⟩ := HMB.out LF[k] (List.getElem_mem (by omega))
            obtain ⟨p', hp', hp1', hye⟩ := HMB.out LF[k + 1] (List.getElem_mem hlt)
            have e0 := (hX.cell (p := ⟨g, k * 2, none⟩) hg (by simp)).trans ((hcc (k * 2) (by omega)).trans (encB_0 (by omega)))
            have e1 := (hX.cell (p := ⟨g, k * 2 + 1, none⟩) hg (by simp)).trans ((hcc (k * 2 + 1) (by omega)).trans (encB_1 (by omega)))
            have e2 := (hX.cell (p := ⟨g, (k + 1) * 2, none⟩) hg (by simp)).trans ((hcc ((k + 1) * 2) (by omega)).trans (encB_0 hlt))
            have e3 := (hX.cell (p := ⟨g, (k + 1) * 2 + 1, none⟩) hg (by simp)).trans ((hcc ((k + 1) * 2 + 1) (by omega)).trans (encB_1 hlt))
            rw [hxe] at e0 e1
            rw [hye] at e2 e3
            simp only at e0 e1 e2 e3
            have ho := OR.out p hp (by omega)
            have ho' := OR.out p' hp' (by omega)
            have HNB := Lib.hid (NB.out p hp1)
            have HPK := Lib.hid hp1'
            clear hX hcc hxe hye hp1 hp1'
            have i0 : (0 : Int) ≤ (k : Int) := by omega
            have i1 : (k : Int) < (LF.length : Int) := by omega
            have i2 : (0 : Int) ≤ (k : Int) + 1 := by omega
            have i3 : (k : Int) + 1 < (LF.length : Int) := by omega
            have hs3 : (F : Int) + (p : Int) - (F : Int) = (p : Int) := by omega
            have hz9 := pow_le9 ho
            have hw : Value.int .i64 (wrap64 (2 ^ od p)) = Value.int .i64 ((2 ^ od p : Nat) : Int) := int_eq (pow_wrap9 ho)
            have HZ2 : Hid (2 ^ (od p + 1) = 2 * 2 ^ od p) := by show _ = _; rw [Nat.pow_succ]; omega
            have hz1 := Nat.two_pow_pos (od p)
            have HOO : Hid (od p' = od p → p' = p + 2 ^ od p → od p < 9 → p % (2 * 2 ^ od p) ≠ 0) := by
              show _ → _ → _ → _
              intro h1 h2 h3 h4
              subst h2
              exact HNB.out h3 (by rw [HZ2.out]; exact h4) hp' ⟨HPK.out, h1⟩
            clear HZ2 HNB HPK
            generalize hz : 2 ^ od p = z at *
            generalize od p = o at *
            generalize od p' = o' at *
            clear hz
            have hwk : IntKind.i64.wrap ((k : Int) + 1) = (k : Int) + 1 := IntWalk.i64_in _ (by omega)
            have hwz : IntKind.i64.wrap (2 * (z : Int)) = 2 * (z : Int) := IntWalk.i64_in _ (by omega)
            have hws : IntKind.i64.wrap ((F : Int) + (p : Int) + (z : Int)) = (F : Int) + (p : Int) + (z : Int) := IntWalk.i64_in _ (by omega)
            have hwp : IntKind.i64.wrap ((p : Int)) = (p : Int) := IntWalk.i64_in _ (by omega)
            have hkt : ((k : Int) + 1).toNat = k + 1 := by omega
            have hz20 : (2 * (z : Int) == 0) = false := by simp; omega
            by_cases h9 : o < 9
            · have d9 : decide ((o : Int) < 9) = true := by simp; omega
              by_cases hoo : o' = o
              · subst hoo
                have doo : ((o' : Int) == (o' : Int)) = true := by simp
                by_cases hpp : p' = p + z
                · have HR := HOO.out rfl hpp h9
                  rw [show (F : Int) + (p' : Int) = (F : Int) + (p : Int) + (z : Int) by omega] at e2
                  clear hpp
                  have hrm : (p : Int).tmod (2 * (z : Int)) = ((p % (2 * z) : Nat) : Int) := by rw [Int.tmod_eq_emod_of_nonneg (by omega)]; simp
                  generalize p % (2 * z) = r at *
                  have drr : ((r : Int) == 0) = false := by simpa using HR
                  go_wp2
                  go_quiet (fail)
                  go_wp2
                  go_quiet (fail)
                  go_wp2
                  go_roundw
                  case rel => exact ⟨k + 1, by omega, by go_num, HX.out.drewN _⟩
                  case measure => simp [intOf]; omega
                · have dff : ((F : Int) + (p' : Int) == (F : Int) + (p : Int) + (z : Int)) = false := by simp; omega
                  go_wp2
                  go_quiet (fail)
                  go_wp2
                  go_quiet (fail)
                  go_wp2
                  go_roundw
                  case rel => exact ⟨k + 1, by omega, by go_num, HX.out.drewN _⟩
                  case measure => simp [intOf]; omega
              · have doo : ((o' : Int) == (o : Int)) = false := by simp; omega
                go_wp2
                go_quiet (fail)
                go_wp2
                go_quiet (fail)
                go_wp2
                go_roundw
                case rel => exact ⟨k + 1, by omega, by go_num, HX.out.drewN _⟩
                case measure => simp [intOf]; omega
            · have d9 : decide ((o : Int) < 9) = false := by simp; omega
              go_wp2
              go_quiet (fail)
              go_wp2
              go_quiet (fail)
              go_wp2
              go_roundw
              case rel => exact ⟨k + 1, by omega, by go_num, HX.out.drewN _⟩
              case measure => simp [intOf]; omega
          · clear hX
            go_wp2_with (go_at_call 24; refine (CW.out _).mono ?_; rintro e' w7 ⟨rfl, hx7⟩; have HX7 := Lib.hid hx7; clear hx7)
            go_ret
            exact ⟨rfl, ((HI.out.1.trans XC.out).trans HX.out).trans HX7.out⟩
  · have CM := Lib.hid (fun w => made_bad N E w hb)
    have b0 := Blk.new w [.int .i64 N, .int .i64 E] 56
    have c0 := b0.cell 0
    have c1 := b0.cell 1
    clear hb b0
    go_enter Try.func7, Try.ntmps7
    go_wp2_with (go_at_call 21; refine (CM.out _).mono ?_; rintro e' w2 ⟨rfl, hx⟩; have HX := Lib.hid (((Ext.refl [] w).alloc _).trans hx); clear hx c0 c1)
    go_loopw [6, 8] (fun f i wr => i = .int .i64 0 ∧ f = .bool true ∧ Ext [] w wr) (fun _ i _ => 0)
    case atStart => exact ⟨rfl, rfl, HX.out.alloc _⟩
    case round =>
      obtain ⟨rfl, rfl, hI⟩ := hrel
      have HI := Lib.hid hI
      clear hI
      by_cases hz : 0 < l.length
      all_goals
        go_wp2_with (go_at_call 24; refine (CW.out _).mono ?_; rintro e' w5 ⟨rfl, hx5⟩; have HX5 := Lib.hid hx5; clear hx5)
        go_ret
        exact ⟨rfl, HI.out.trans HX5.out⟩

end Go.Proofs.Ytkpnmknkimlnaaa
