/-
  Buddy: the law BuddyPlays, walked.
-/
import Derived.Test.YtkpnmknkimlnaaaBuActs
namespace Go.Proofs.Ytkpnmknkimlnaaa
set_option linter.unusedVariables false
set_option linter.unusedSimpArgs false
open Go.RowKit BuT
set_option maxHeartbeats 4000000
set_option maxRecDepth 100000
set_option linter.unusedVariables false
set_option linter.unusedSimpArgs false

theorem okNew_nat {F n : Int} (h : okNew F n) : ∃ F' n' : Nat, F = F' ∧ n = n' ∧ F' ≤ 8192 ∧ 1 ≤ n' ∧ n' ≤ 1024 := by
  obtain ⟨h1, h2, h3, h4⟩ := h
  exact ⟨F.toNat, n.toNat, by omega, by omega, by omega, by omega, by omega⟩
theorem new_none2 (F : Int) (n : Nat) : blks F (newK n) (newO n) 2 n = [] := by
  rw [List.eq_nil_iff_forall_not_mem]
  intro x hx
  obtain ⟨i, hi, hk, _⟩ := mem_blks.1 hx
  have := new_one n i
  omega
/-- Behind Made. -/
theorem InB.start {w w2 : World} {F n bp bl rp : Nat} (hx : Ext [] (w.alloc (.cells #[.int .i64 (F : Int), .int .i64 (n : Int)] 56)) w2) (hB : Bud w2 bp bl F n (newK n) (newO n)) (hR : RB w2 rp [bp, bl] F n (blks F (newK n) (newO n) 1 n) [])
    (h4 : bp < rp) (h5 : bl < rp) : InB w w.heap.size F n w2.heap.size bp bl rp F n (w2.alloc (.cells #[.pointer (some ⟨bp, 0, none⟩), .pointer (some ⟨rp, 0, none⟩)] 61)) :=
  ⟨(((Ext.refl [] w).alloc _).trans hx).alloc _, ((Blk.new w _ _).ext hx (by simp)).alloc _, Blk.new _ _ _, _, _, BJ.ext0 ⟨hB, new_tiles n, new_nobud n, by rw [new_none2]; exact hR, by omega, by omega⟩ ((Ext.refl _ _).alloc _)⟩

theorem buddyPlays_c (N E : Int) (v : Value) (l : List BAct) (w : World) (hl : BActs w v l) :
    Calls Try.prog 6 #[.agg #[.int .i64 N, .int .i64 E], v] w fun e w' => e = .returned (.bool true) ∧ Ext [] w w' := by
  obtain ⟨a, cap, rfl, hlen, hA⟩ := hl.form
  have HA := Lib.hid hA
  clear hA hl
  have CW := Lib.hid (fun w => awake_c w)
  replace hlen : l.length ≤ 9223372036854775807 := by unfold maxLen at hlen; omega
  by_cases hb : okNew N E
  · obtain ⟨F, n, rfl, rfl, hF, h1, h2⟩ := okNew_nat hb
    have CM := Lib.hid (fun w => made_is F n w hF h1 h2)
    have b0 := Blk.new w [.int .i64 (F : Int), .int .i64 (n : Int)] 56
    have c0 := b0.cell 0
    have c1 := b0.cell 1
    have s0 : (w.alloc (.cells #[.int .i64 (F : Int), .int .i64 (n : Int)] 56)).heap.size = w.heap.size + 1 := by simp
    clear hb h1 h2 hF b0
    go_enter Try.func6, Try.ntmps6
    go_wp2_with (first
      | (go_at_call 21; refine (CM.out _).mono ?_; rintro e' w2 ⟨bp, bl, rp, rfl, hx, hB, hR, h1, h2, h3, h4, h5⟩; rw [s0] at h1 h2 h3; have HI := Lib.hid (InB.start hx hB hR h4 h5); have HN := Lib.hid (⟨by omega, by omega, by omega⟩ : w.heap.size < bl ∧ w.heap.size < rp ∧ w.heap.size < bp); have HM := Lib.hid (by have := hB.tab.lt; have := hR.old; have := hx.size; omega : (w2.heap.size ≠ bl ∧ w2.heap.size ≠ rp) ∧ w.heap.size ≠ bl ∧ w.heap.size ≠ rp); have z := HI.out.2.2.1; have z0 := z.cell 0; have z1 := z.cell 1; clear hB hR hx h1 h2 h3 h4 h5 s0 c0 c1 z)
      | (go_at_call 22; generalize w2.heap.size = bb at *; generalize w2.alloc (.cells #[.pointer (some ⟨bp, 0, none⟩), .pointer (some ⟨rp, 0, none⟩)] 61) = w3 at *; obtain ⟨kd, od, hJ⟩ := HI.out.2.2.2; refine (is_c w3 bp bl rp F n kd od hJ).mono ?_; clear hJ kd od; rintro e' w4 ⟨rfl, hx⟩; have HI := Lib.hid (HI.out.ext hx); clear z0 z1 hx))
    go_loopw [6, 8] (fun f i wr => ∃ k : Nat, k ≤ l.length ∧ i = .int .i64 k ∧ f = .bool true ∧ InB w w.heap.size F n bb bp bl rp F n wr) (fun _ i _ => l.length - (intOf i).toNat)
    case atStart => exact ⟨0, by omega, rfl, rfl, HI.out⟩
    case round =>
      obtain ⟨k, hk, rfl, rfl, hI⟩ := hrel
      have HI := Lib.hid hI
      by_cases hlt : k < l.length
      · obtain ⟨b, o, rfl, hb, hac⟩ := (HA.out.ext_new hI.1 (by simp)).at_ hlt
        have hb' : b < w.heap.size := by
          obtain ⟨b2, o2, he, hb2, _⟩ := HA.out.at_ hlt
          cases he; exact hb2
        have HAC := Lib.hid (fun w' (hx : Ext [bl, rp] wr w') => hac.ext hb hx (by have := HN.out; simp; omega))
        obtain ⟨kd, od, hJ⟩ := hI.2.2.2
        have CP := Lib.hid (fun w' (hx : Ext [] wr w') => play_c w' bp bl rp F n kd od (hJ.ext0 hx) l[k].d l[k].f l[k].o l[k].h l[k].fd.2 l[k].hd.2)
        generalize l[k] = p at *
        have i0 : (0 : Int) ≤ (k : Int) := by omega
        have i1 : (k : Int) < (l.length : Int) := by omega
        have hxd : Ext [] wr wr.drew := (Ext.refl _ _).drew
        have HXD := Lib.hid hxd
        have HI2 := Lib.hid (hI.ext hxd)
        have HAC2 := Lib.hid (HAC.out _ (hxd.mono (by simp)))
        clear hI hb hb' hxd hac hJ
        go_wp2
        go_region_held3 (fun cur => cur.cell? ⟨bb, 0, none⟩ = some (.pointer (some ⟨bp, 0, none⟩)) ∧ cur.cell? ⟨bb, 1, none⟩ = some (.pointer (some ⟨rp, 0, none⟩)) ∧ cur.cell? ⟨b, o + k * 4, none⟩ = some (.int .i64 p.d) ∧ cur.cell? ⟨b, o + k * 4 + 1, none⟩ = some (.int .i64 p.f) ∧ cur.cell? ⟨b, o + k * 4 + 2, none⟩ = some (.int .i64 p.o)
             ∧ cur.cell? ⟨b, o + k * 4 + 3, none⟩ = some (.int .i64 p.h)) (exact ⟨HI2.out.2.2.1.cell 0, HI2.out.2.2.1.cell 1, HAC2.out.c0, HAC2.out.c1, HAC2.out.c2, HAC2.out.c3⟩)
          (first
          | (go_at_call 23; refine (CP.out _ HXD.out).mono ?_; intro e' w5 hp; obtain ⟨rfl, hI2, hx⟩ := HI2.out.played (by have := HN.out; omega) HM.out hp; have HI2 := Lib.hid hI2; have HAC2 := Lib.hid (HAC.out _ ((HXD.out.mono (by simp)).trans hx)); have HXP := Lib.hid ((HXD.out.mono (N := [bl, rp]) (by simp)).trans hx); clear hp hx hI2)
          | (go_at_call 22; obtain ⟨kd', od', hJ⟩ := HI2.out.2.2.2; refine (is_c _ bp bl rp F n kd' od' hJ).mono ?_; clear hJ kd' od'; rintro e' w6 ⟨rfl, hx⟩; have HI2 := Lib.hid (HI2.out.ext hx); have HAC2 := Lib.hid (HAC.out _ (HXP.out.trans (hx.mono (by simp)))); clear hx))
        all_goals go_wp2
        all_goals
          go_roundw
          case rel => exact ⟨k + 1, by omega, by go_num, rfl, HI2.out⟩
          case measure => simp [intOf]; omega
      · obtain rfl : k = l.length := by omega
        clear hI
        go_wp2_with (go_at_call 24; refine (CW.out _).mono ?_; rintro e' w5 ⟨rfl, hx5⟩; have HX5 := Lib.hid hx5; clear hx5)
        go_ret
        exact ⟨rfl, HI.out.1.trans HX5.out⟩
  · have CM := Lib.hid (fun w => made_bad N E w hb)
    have b0 := Blk.new w [.int .i64 N, .int .i64 E] 56
    have c0 := b0.cell 0
    have c1 := b0.cell 1
    clear hb b0
    go_enter Try.func6, Try.ntmps6
    go_wp2_with (go_at_call 21; refine (CM.out _).mono ?_; rintro e' w2 ⟨rfl, hx⟩; have HX := Lib.hid (((Ext.refl [] w).alloc _).trans hx); clear hx c0 c1)
    go_loopw [6, 8] (fun f i wr => i = .int .i64 0 ∧ f = .bool true ∧ Ext [] w wr) (fun _ i _ => 0)
    case atStart => exact ⟨rfl, rfl, HX.out.alloc _⟩
    case round =>
      obtain ⟨rfl, rfl, hI⟩ := hrel
      have HI := Lib.hid hI
      clear hI
      by_cases hz : 0 < l.length
      all_goals
        go_wp2_with (go_at_call 24; refine (CW.out _).mono ?_; rintro e' w5 ⟨rfl, hx5⟩; have HX5 := Lib.hid hx5; clear hx5)
        go_ret
        exact ⟨rfl, HI.out.trans HX5.out⟩

end Go.Proofs.Ytkpnmknkimlnaaa
