/-
  Buddy: the law BuddyBack, walked.
-/
import Derived.Test.YtkpnmknkimlnaaaBlK
namespace Go.Proofs.Ytkpnmknkimlnaaa
set_option linter.unusedVariables false
set_option linter.unusedSimpArgs false
open Go.RowKit BuT
set_option maxHeartbeats 4000000
set_option maxRecDepth 100000
set_option linter.unusedVariables false
set_option linter.unusedSimpArgs false

theorem ords_of {F n : Nat} {kd od : Nat → Nat} (h : Tiles kd od n) (c : Nat) (hc : c ≠ 0) : Ords (blks (F : Int) kd od c n) := by
  intro x hx
  obtain ⟨i, hi, hk, rfl⟩ := mem_blks.1 hx
  have := h.ord i hi (by omega)
  simp; omega
/-- Behind m blocks that were given back. -/
def BkI (w : World) (bg bb bp bl rp F n m : Nat) (cur : World) : Prop :=
  Ext [] w cur ∧ Blk cur bg [.int .i64 (F : Int), .int .i64 (n : Int)] 56 ∧ Blk cur bb [.pointer (some ⟨bp, 0, none⟩), .pointer (some ⟨rp, 0, none⟩)] 61 ∧
    ∃ kd od, Bud cur bp bl F n kd od ∧ Tiles kd od n ∧ NoBud kd od n ∧ (blks (F : Int) kd od 2 n).length + m ≤ n
theorem BkI.start {w cur : World} {bg bb bp bl rp F n : Nat} {kd od : Nat → Nat} (h : InB w bg F n bb bp bl rp F n cur) (hJ : BJ cur bp bl rp F n kd od) : BkI w bg bb bp bl rp F n 0 cur :=
  ⟨h.1, h.2.1, h.2.2.1, kd, od, hJ.bud, hJ.tiles, hJ.nobud, by have := blks_len (F := (F : Int)) (kd := kd) (od := od) (c := 2) n; omega⟩

theorem buddyBack_c (N E : Int) (v : Value) (l : List BAct) (x : Int) (wx : (Lit.int .u8 x).wf = true) (w : World) (hl : BActs w v l) :
    Calls Try.prog 8 #[.agg #[.int .i64 N, .int .i64 E], v, .int .u8 x] w fun e w' => e = .returned (.bool true) ∧ Ext [] w w' := by
  obtain ⟨a, cap, rfl, hlen, hA⟩ := hl.form
  have HA := Lib.hid hA
  clear hA hl
  have CW := Lib.hid (fun w => awake_c w)
  replace hlen : l.length ≤ 9223372036854775807 := by unfold maxLen at hlen; omega
  have hx0 : 0 ≤ x ∧ x < 256 := by simp [Lit.wf, IntKind.min, IntKind.max, IntKind.signed, IntKind.bits] at wx; omega
  obtain ⟨q, rfl⟩ := Int.eq_ofNat_of_zero_le hx0.1
  have hq : q < 256 := by omega
  clear wx hx0
  by_cases hb : okNew N E
  · obtain ⟨F, n, rfl, rfl, hF, h1, h2⟩ := okNew_nat hb
    have CM := Lib.hid (fun w => made_is F n w hF h1 h2)
    have b0 := Blk.new w [.int .i64 (F : Int), .int .i64 (n : Int)] 56
    have c0 := b0.cell 0
    have c1 := b0.cell 1
    have s0 : (w.alloc (.cells #[.int .i64 (F : Int), .int .i64 (n : Int)] 56)).heap.size = w.heap.size + 1 := by simp
    clear hb h1 h2 hF b0
    go_enter Try.func8, Try.ntmps8
    go_wp2_with (go_at_call 21; refine (CM.out _).mono ?_; rintro e' w2 ⟨bp, bl, rp, rfl, hx, hB, hR, h1, h2, h3, h4, h5⟩; rw [s0] at h1 h2 h3; have HI := Lib.hid (InB.start hx hB hR h4 h5); have HN := Lib.hid (⟨by omega, by omega, by omega⟩ : w.heap.size < bl ∧ w.heap.size < rp ∧ w.heap.size < bp); have HM := Lib.hid (by have := hB.tab.lt; have := hR.old; have := hx.size; omega : (w2.heap.size ≠ bl ∧ w2.heap.size ≠ rp) ∧ w.heap.size ≠ bl ∧ w.heap.size ≠ rp); clear hB hR hx h1 h2 h3 h4 h5 s0 c0 c1)
    generalize w2.heap.size = bb at *
    go_loopw [8, 10] (fun f i wr => ∃ k : Nat, k ≤ l.length ∧ i = .int .i64 k ∧ f = .bool true ∧ InB w w.heap.size F n bb bp bl rp F n wr) (fun _ i _ => l.length - (intOf i).toNat)
    case atStart => exact ⟨0, by omega, rfl, rfl, HI.out⟩
    case round =>
      obtain ⟨k, hk, rfl, rfl, hI⟩ := hrel
      have HI := Lib.hid hI
      by_cases hlt : k < l.length
      · obtain ⟨b, o, rfl, hb, hac⟩ := (HA.out.ext_new hI.1 (by simp)).at_ hlt
        have hb' : b < w.heap.size := by
          obtain ⟨b2, o2, he, hb2, _⟩ := HA.out.at_ hlt
          cases he; exact hb2
        have HAC := Lib.hid (fun w' (hx : Ext [bl, rp] wr w') => hac.ext hb hx (by have := HN.out; simp; omega))
        obtain ⟨kd, od, hJ⟩ := hI.2.2.2
        have CP := Lib.hid (fun w' (hx : Ext [] wr w') => play_c w' bp bl rp F n kd od (hJ.ext0 hx) l[k].d l[k].f l[k].o l[k].h l[k].fd.2 l[k].hd.2)
        generalize l[k] = p at *
        have i0 : (0 : Int) ≤ (k : Int) := by omega
        have i1 : (k : Int) < (l.length : Int) := by omega
        have hxd : Ext [] wr wr.drew := (Ext.refl _ _).drew
        have HXD := Lib.hid hxd
        have HI2 := Lib.hid (hI.ext hxd)
        have HAC2 := Lib.hid (HAC.out _ (hxd.mono (by simp)))
        clear hI hb hb' hxd hac hJ
        go_wp2
        go_region_held3 (fun cur => cur.cell? ⟨bb, 0, none⟩ = some (.pointer (some ⟨bp, 0, none⟩)) ∧ cur.cell? ⟨bb, 1, none⟩ = some (.pointer (some ⟨rp, 0, none⟩)) ∧ cur.cell? ⟨b, o + k * 4, none⟩ = some (.int .i64 p.d) ∧ cur.cell? ⟨b, o + k * 4 + 1, none⟩ = some (.int .i64 p.f) ∧ cur.cell? ⟨b, o + k * 4 + 2, none⟩ = some (.int .i64 p.o)
             ∧ cur.cell? ⟨b, o + k * 4 + 3, none⟩ = some (.int .i64 p.h)) (exact ⟨HI2.out.2.2.1.cell 0, HI2.out.2.2.1.cell 1, HAC2.out.c0, HAC2.out.c1, HAC2.out.c2, HAC2.out.c3⟩)
          ((go_at_call 23; refine (CP.out _ HXD.out).mono ?_; intro e' w5 hp; obtain ⟨rfl, hI2, hx⟩ := HI2.out.played (by have := HN.out; omega) HM.out hp; have HI2 := Lib.hid hI2; have HAC2 := Lib.hid (HAC.out _ ((HXD.out.mono (by simp)).trans hx)); clear hp hx hI2))
        all_goals go_wp2
        all_goals
          go_roundw
          case rel => exact ⟨k + 1, by omega, by go_num, rfl, HI2.out⟩
          case measure => simp [intOf]; omega
      · obtain rfl : k = l.length := by omega
        clear hI
        obtain ⟨kd, od, hJ⟩ := HI.out.2.2.2
        have hI0 := BkI.start HI.out hJ
        clear hJ
        have HB0 := Lib.hid hI0
        clear hI0 kd od
        go_wp2
        go_loopw [11] (fun nn wr => ∃ m : Nat, m ≤ n ∧ nn = .int .i64 m ∧ BkI w w.heap.size bb bp bl rp F n m wr) (fun nn _ => n + 1 - (intOf nn).toNat)
        case atStart => exact ⟨0, by omega, rfl, HB0.out⟩
        case round =>
          clear HB0 HI
          obtain ⟨m, hm, rfl, hI⟩ := hrel
          have HI := Lib.hid hI
          obtain ⟨hX0, hG, hZ, kd, od, hB, hT, hNB, hle⟩ := hI
          have g0 := hG.cell 0
          have g1 := hG.cell 1
          have z0 := hZ.cell 0
          have n1 := hB.n1
          have n2 := hB.n2
          have F8 := hB.F8
          have t9 : (blks (F : Int) kd od 2 n).take (9999 : Int).toNat = blks (F : Int) kd od 2 n := List.take_of_length_le (by simp; omega)
          have T9 := Lib.hid t9
          have GT := Lib.hid (Bud.gone hB 2 2 rfl 9999)
          have XX := Lib.hid hX0
          have BB := Lib.hid hB
          have GG := Lib.hid hG
          have ZZ := Lib.hid hZ
          have TT := Lib.hid hT
          have NN := Lib.hid hNB
          clear hX0 hG hZ hB hT hNB t9
          by_cases h0 : (blks (F : Int) kd od 2 n).length = 0
          · have hnil : blks (F : Int) kd od 2 n = [] := List.eq_nil_of_length_eq_zero h0
            have hk1 : ∀ j, j < n → kd j ≤ 1 := fun j hj => by
              have := TT.out.kind j
              rcases Nat.lt_or_ge (kd j) 2 with h | h
              · omega
              · have hm : (⟨(F : Int) + (j : Int), ((od j : Nat) : Int)⟩ : Bk) ∈ blks (F : Int) kd od 2 n := mem_tk hj (by omega)
                rw [hnil] at hm; cases hm
            have hall := all_free (F := (F : Int)) TT.out NN.out hk1
            have HALL := Lib.hid hall
            have hL := (congrArg leftB hall).trans (left_all F n)
            have o1 := ords_of (F := F) TT.out 1 (by omega)
            have l1 := blks_len (F := (F : Int)) (kd := kd) (od := od) (c := 1) n
            have CL := Lib.hid (fun u (hx : Ext [] wr u) => by
              have h := left_c u bp bl F n kd od (BB.out.ext hx (by simp) (by simp)) o1 (by omega)
              rw [hL] at h
              exact h)
            have G1 := Lib.hid (fun u (hx : Ext [] wr u) => Bud.gone (BB.out.ext hx (by simp) (by simp)) 1 1 rfl 9999)
            have t1 : (blks (F : Int) kd od 1 n).take (9999 : Int).toNat = blks (F : Int) (newK n) (newO n) 1 n := by rw [← hall]; exact List.take_of_length_le (by simp; omega)
            have T1 := Lib.hid t1
            have L1 := Lib.hid (show ((blks (F : Int) kd od 1 n).take (9999 : Int).toNat).length ≤ 100000 by rw [List.length_take]; omega)
            have GT0 : Hid (Calls Try.prog 25 #[.func (.func 74) #[] #[.pointer (some ⟨wr.heap.size, 0, none⟩), .pointer (some ⟨wr.heap.size + 1, 0, none⟩)], .int .i64 9999]
                ((wr.alloc (.cells #[.pointer (some ⟨bp, 0, none⟩)] 58)).alloc (.cells #[.int .i64 2] 3)) fun e w' => ∃ va vc, e = .returned (.slice va 0 vc) ∧ Ext [] wr w') := by
              refine (GT.out).mono ?_
              rintro e w3 ⟨v2, rfl, h1, hx⟩
              rw [T9.out] at h1
              obtain ⟨va, vc, rfl, _, _⟩ := ownsRow_form h1
              exact ⟨va, vc, by rw [h0], hx⟩
            clear hnil hk1 hall hL o1 l1 t1 h0 GT T9
            have e1 : ((n : Int) == (n : Int)) = true := by simp
            go_wp2_with (first
              | (go_at_call 27; refine (Bud.taken_blocks).mono ?_; rintro e w1 ⟨rfl, rfl⟩)
              | (go_at_call 25; refine (GT0.out).mono ?_; rintro e w3 ⟨va, vc, rfl, hx⟩; have HX3 := Lib.hid hx; clear g0 g1 z0; have g0 := (GG.out.ext hx (by simp)).cell 0; have g1 := (GG.out.ext hx (by simp)).cell 1; clear hx)
              | (go_at_call 30; refine (rnew_is F n _ F8 n1 n2).mono ?_; rintro e w4 ⟨rp2, vF, vT, rfl, hp, hx, hR, _⟩; have HX4 := Lib.hid (HX3.out.trans hx); have HR := Lib.hid hR; clear hp hx hR g0 g1))
            have HXc := Lib.hid (HX4.out.trans (Ext.refl [] w4).drew)
            have HXd := Lib.hid (Ext.refl [] w4).drew
            go_region_held3 (fun cur => cur.cell? ⟨bb, 0, none⟩ = some (.pointer (some ⟨bp, 0, none⟩)) ∧ cur.cell? ⟨w.heap.size, 1, none⟩ = some (.int .i64 (n : Int)) ∧ cur.cell? ⟨rp2, 2, none⟩ = some vF)
              (exact ⟨(ZZ.out.ext HXc.out (by simp)).cell 0, (GG.out.ext HXc.out (by simp)).cell 1, (HR.out.ext0 HXd.out).head.cell 2⟩)
              (first
              | (go_at_call 26; refine (Bud.free_blocks).mono ?_; rintro e w1 ⟨rfl, rfl⟩; have GB := Lib.hid (G1.out _ HXc.out); have HXb := Lib.hid HXc.out; have HXe := Lib.hid HXd.out; have HXc := Lib.hid ((HXc.out.alloc (.cells #[.pointer (some ⟨bp, 0, none⟩)] 58)).alloc (.cells #[.int .i64 1] 3)); have HXd := Lib.hid ((HXd.out.alloc (.cells #[.pointer (some ⟨bp, 0, none⟩)] 58)).alloc (.cells #[.int .i64 1] 3)))
              | (go_at_call 25; refine (GB.out).mono ?_; rintro e w1 ⟨v1, rfl, h1, hx⟩; have V1 := Lib.hid (BSl.of h1); have HXc := Lib.hid (HXb.out.trans hx); have HXd := Lib.hid (HXe.out.trans hx); clear GB h1 hx)
              | (go_at_call 31; refine (same_t _ _ _ _ _ V1.out (BSl.of (HR.out.ext0 HXd.out).free) T1.out L1.out).mono ?_; rintro e w1 ⟨rfl, hx⟩; clear V1; have HXc := Lib.hid (HXc.out.trans hx); have HXd := Lib.hid (HXd.out.trans hx); clear hx)
              | (go_at_call 32; refine (CL.out _ HXc.out).mono ?_; rintro e w1 ⟨rfl, hx⟩; have HXc := Lib.hid (HXc.out.trans hx); have HXd := Lib.hid (HXd.out.trans hx); clear hx)
              | (go_at_call 24; refine (CW.out _).mono ?_; rintro e w1 ⟨rfl, hx⟩; have HXc := Lib.hid (HXc.out.trans hx); have HXd := Lib.hid (HXd.out.trans hx); clear hx))
            all_goals
              go_wp2
              go_ret
              exact ⟨rfl, XX.out.trans HXc.out⟩
          · have hl0 : 0 < (blks (F : Int) kd od 2 n).length := by omega
            have hj := Nat.mod_lt (m * q) hl0
            obtain ⟨p, hp, h2, hx2⟩ := mem_blks.1 (List.getElem_mem hj)
            have GT1 : Hid (Calls Try.prog 25 #[.func (.func 74) #[] #[.pointer (some ⟨wr.heap.size, 0, none⟩), .pointer (some ⟨wr.heap.size + 1, 0, none⟩)], .int .i64 9999]
                ((wr.alloc (.cells #[.pointer (some ⟨bp, 0, none⟩)] 58)).alloc (.cells #[.int .i64 2] 3)) fun e w' => ∃ g vc, e = .returned (.slice (some ⟨g, 0, none⟩) (blks (F : Int) kd od 2 n).length vc) ∧ Ext [] wr w' ∧ (blks (F : Int) kd od 2 n).length ≤ vc ∧ vc ≤ 9223372036854775807 ∧ g < w'.heap.size ∧ w'.cell? ⟨g, (m * q % (blks (F : Int) kd od 2 n).length) * 2, none⟩ = some (.int .i64 ((F : Int) + (p : Int))) ∧ w'.cell? ⟨g, (m * q % (blks (F : Int) kd od 2 n).length) * 2 + 1, none⟩ = some (.int .i64 ((od p : Nat) : Int))) := by
              refine (GT.out).mono ?_
              rintro e w3 ⟨v2, rfl, h1, hx⟩
              rw [T9.out] at h1
              obtain ⟨g, vc, rfl, h3, h4, h5, _, h6⟩ := brow_some h1 hl0
              unfold maxLen at h4
              exact ⟨g, vc, rfl, hx, h3, by omega, h5, by rw [h6 _ (by omega), encB_0 hj, hx2], by rw [h6 _ (by omega), encB_1 hj, hx2]⟩
            have hle2 : (blks (F : Int) (upd kd p 0) od 2 n).length + (m + 1) ≤ n := by
              have h3 := withoutB_len (l := blks (F : Int) kd od 2 n) (k := (placeB (blks (F : Int) kd od 2 n) ⟨(F : Int) + (p : Int), ((od p : Nat) : Int)⟩).toNat) (by
                rcases placeB_form (blks (F : Int) kd od 2 n) ⟨(F : Int) + (p : Int), ((od p : Nat) : Int)⟩ with ⟨_, hno⟩ | ⟨k', hk', hpl, _⟩
                · exact absurd (mem_tk hp h2) hno
                · rw [hpl]; simpa using hk')
              rw [del_tk hp h2] at h3
              omega
            have HLE := Lib.hid hle2
            have CF := Lib.hid (fun u (hx : Ext [] wr u) => (BB.out.ext hx (by simp) (by simp)).free_is TT.out NN.out hp h2)
            have HJM := Lib.hid (show ((m : Int) * (q : Int)) % ((blks (F : Int) kd od 2 n).length : Int) = ((m * q % (blks (F : Int) kd od 2 n).length : Nat) : Int) by simp)
            have lb := blks_len (F := (F : Int)) (kd := kd) (od := od) (c := 2) n
            clear hle2 h0 GT T9 hx2
            generalize (blks (F : Int) kd od 2 n).length = L at *
            generalize m * q % L = j at *
            have i0 : (0 : Int) ≤ (j : Int) := by omega
            have i1 : (j : Int) < (L : Int) := by omega
            have hmq : m * q ≤ 1024 * 255 := Nat.mul_le_mul (by omega) (by omega)
            have hmq2 : (m : Int) * (q : Int) ≤ 300000 := by have : ((m * q : Nat) : Int) ≤ 300000 := by omega
                                                             rwa [Int.natCast_mul] at this
            have hmq0 : (0 : Int) ≤ (m : Int) * (q : Int) := by have : (0 : Int) ≤ ((m * q : Nat) : Int) := by omega
                                                                rwa [Int.natCast_mul] at this
            have hjm := HJM.out
            have hL0 : ((L : Int) == 0) = false := by simp; omega
            go_wp2_with (first
              | (go_at_call 27; refine (Bud.taken_blocks).mono ?_; rintro e w1 ⟨rfl, rfl⟩)
              | (go_at_call 25; refine (GT1.out).mono ?_; rintro e w3 ⟨g, vc, rfl, hx, hv1, hv2, hgl, y0, y1⟩; have HX3 := Lib.hid hx; clear g0 g1 z0; have z0 := (ZZ.out.ext hx (by simp)).cell 0; have zl := (ZZ.out.ext hx (by simp)).lt; clear hx)
              | (go_at_call 29; refine (CF.out _ (HX3.out.alloc _)).mono ?_; rintro e w4 ⟨rfl, hx, kd', od', hB', hT', hN', _, e2⟩; have HX4 := Lib.hid hx; have HB' := Lib.hid hB'; have HT' := Lib.hid hT'; have HN' := Lib.hid hN'; have HE2 := Lib.hid e2; clear hx hB' hT' hN' e2))
            go_roundw
            case rel =>
              have hle := HLE.out
              rw [← HE2.out] at hle
              have hx5 : Ext [bl] wr w4 := ((HX3.out.alloc _).mono (by simp)).trans HX4.out
              exact ⟨m + 1, by omega, by go_num, XX.out.step hx5 (by have := HN.out; simp; omega), GG.out.ext hx5 (by have := HM.out; simp; omega), ZZ.out.ext hx5 (by have := HM.out; simp; omega), kd', od', HB'.out, HT'.out, HN'.out, hle⟩
            case measure => simp [intOf]; omega
  · have CM := Lib.hid (fun w => made_bad N E w hb)
    have b0 := Blk.new w [.int .i64 N, .int .i64 E] 56
    have c0 := b0.cell 0
    have c1 := b0.cell 1
    clear hb b0
    go_enter Try.func8, Try.ntmps8
    go_wp2_with (go_at_call 21; refine (CM.out _).mono ?_; rintro e' w2 ⟨rfl, hx⟩; have HX := Lib.hid (((Ext.refl [] w).alloc _).trans hx); clear hx c0 c1)
    go_loopw [8, 10] (fun f i wr => i = .int .i64 0 ∧ f = .bool true ∧ Ext [] w wr) (fun _ i _ => 0)
    case atStart => exact ⟨rfl, rfl, HX.out.alloc _⟩
    case round =>
      obtain ⟨rfl, rfl, hI⟩ := hrel
      have HI := Lib.hid hI
      clear hI
      by_cases hz : 0 < l.length
      all_goals
        go_wp2_with (go_at_call 24; refine (CW.out _).mono ?_; rintro e' w5 ⟨rfl, hx5⟩; have HX5 := Lib.hid hx5; clear hx5)
        go_ret
        exact ⟨rfl, HI.out.trans HX5.out⟩

end Go.Proofs.Ytkpnmknkimlnaaa
