/-
  Buddy's law: an act is played in both; both are compared.
-/
import Derived.Test.YtkpnmknkimlnaaaBlH
namespace Go.Proofs.Ytkpnmknkimlnaaa
set_option linter.unusedVariables false
set_option linter.unusedSimpArgs false
open Go.RowKit BuT
set_option maxHeartbeats 4000000
set_option maxRecDepth 100000
set_option linter.unusedVariables false
set_option linter.unusedSimpArgs false

def GoneBR (L : List Bk) (most : Int) (w : World) (e : Ending) (w' : World) : Prop := ∃ v, e = .returned v ∧ BRow w' w.heap.size v (L.take most.toNat) ∧ Ext [] w w'
theorem Bud.gone {w : World} {bp bl F n : Nat} {kd od : Nat → Nat} (h : Bud w bp bl F n kd od) (c : Nat) (ci : Int) (hci : ci = (c : Int)) (most : Int) :
    Calls Try.prog 25 #[.func (.func 74) #[] #[.pointer (some ⟨w.heap.size, 0, none⟩), .pointer (some ⟨w.heap.size + 1, 0, none⟩)], .int .i64 most]
      ((w.alloc (.cells #[.pointer (some ⟨bp, 0, none⟩)] 58)).alloc (.cells #[.int .i64 ci] 3)) (GoneBR (blks F kd od c n) most w) := by
  subst hci
  have hx0 : Ext [] w ((w.alloc (.cells #[.pointer (some ⟨bp, 0, none⟩)] 58)).alloc (.cells #[.int .i64 (c : Int)] 3)) := ((Ext.refl _ _).alloc _).alloc _
  have hb1 := (Blk.new w [.pointer (some ⟨bp, 0, none⟩)] 58).alloc (.cells #[.int .i64 (c : Int)] 3)
  have hb2 := Blk.new (w.alloc (.cells #[.pointer (some ⟨bp, 0, none⟩)] 58)) [.int .i64 (c : Int)] 3
  have hit := blocks1 _ _ bp bl F n c kd od _ hb1 hb2 (h.ext hx0 (by simp) (by simp))
  simp only [World.size_alloc] at hit
  have hl := blks_len (F := (F : Int)) (kd := kd) (od := od) (c := c) n
  have hn := h.n2
  have hbp := h.head.lt
  have hbl := h.tab.lt
  refine (bgone_c 74 _ _ _ _ hit (Go.Proofs.enters_of Try.func74 (by kernel_rfl) rfl) (by omega) most _ (Nat.le_refl _) (fun b hb => ⟨?_, rfl⟩)).mono ?_
  · simp at hb ⊢; omega
  · rintro e w' ⟨v, rfl, h1, h2⟩
    exact ⟨v, rfl, ownsRow_base h1 (by simp; omega), hx0.trans h2⟩

theorem same_t (w : World) (va vb : Value) (A B : List Bk) (ha : BSl w va A) (hb : BSl w vb B) (e : A = B) (hA : A.length ≤ 100000) : Calls Try.prog 31 #[va, vb] w fun e w' => e = .returned (.bool true) ∧ Ext [] w w' := by
  subst e
  refine (same_c w va vb A A ha hb hA hA).mono ?_
  rintro e w' ⟨rfl, hx⟩
  exact ⟨by simp, hx⟩

theorem actB_hi {F n : Nat} {kd od : Nat → Nat} (hF : F ≤ 8192) (hn : n ≤ 1024) {f o h : Int} (hf : f ≤ 9223372036854775807) : (actB (blks F kd od 2 n) f o h).f ≤ 9223372036854775807 := by
  unfold actB
  split
  · rename_i hc
    have hlt : h.toNat % (blks (F : Int) kd od 2 n).length < (blks (F : Int) kd od 2 n).length := Nat.mod_lt _ hc.2
    rw [getD_at hlt]
    obtain ⟨i, hi, hk, e⟩ := mem_blks.1 (List.getElem_mem hlt)
    rw [e]
    simp; omega
  · exact hf

def PlayRet (w : World) (bp bl rp F n : Nat) (e : Ending) (w' : World) : Prop := e = .returned (.bool true) ∧ Ext [bl, rp] w w' ∧ ∃ kd od, BJ w' bp bl rp F n kd od

theorem play_c (w : World) (bp bl rp F n : Nat) (kd od : Nat → Nat) (h : BJ w bp bl rp F n kd od) (d f o hh : Int) (hf : f ≤ 9223372036854775807) (h9 : hh ≤ 9223372036854775807) :
    Calls Try.prog 23 #[.agg #[.pointer (some ⟨bp, 0, none⟩), .pointer (some ⟨rp, 0, none⟩)], .agg #[.int .i64 d, .int .i64 f, .int .i64 o, .int .i64 hh]] w (PlayRet w bp bl rp F n) := by
  have b1 := (Blk.new w [.pointer (some ⟨bp, 0, none⟩), .pointer (some ⟨rp, 0, none⟩)] 61).alloc (.cells #[.int .i64 d, .int .i64 f, .int .i64 o, .int .i64 hh] 67)
  have b2 := Blk.new (w.alloc (.cells #[.pointer (some ⟨bp, 0, none⟩), .pointer (some ⟨rp, 0, none⟩)] 61)) [.int .i64 d, .int .i64 f, .int .i64 o, .int .i64 hh] 67
  have hx0 : Ext [] w ((w.alloc (.cells #[.pointer (some ⟨bp, 0, none⟩), .pointer (some ⟨rp, 0, none⟩)] 61)).alloc (.cells #[.int .i64 d, .int .i64 f, .int .i64 o, .int .i64 hh] 67)) := ((Ext.refl _ _).alloc _).alloc _
  rw [World.size_alloc] at b2
  have hJ := h.ext0 hx0
  have hrp := h.ref.old
  have hbl := h.bud.tab.lt
  have hbp := h.bud.head.lt
  have hxf := actB_hi (kd := kd) (od := od) h.bud.F8 h.bud.n2 (o := o) (h := hh) hf
  have CB := Lib.hid (block_c _ rp [bp, bl] F n _ _ d f o hh hJ.ref (by have := h.len 2; omega) h9)
  have HJ := Lib.hid hJ
  have B1 := Lib.hid b1
  have B2 := Lib.hid b2
  have HX0 := Lib.hid hx0
  have p0 := b1.cell 0
  have p1 := b1.cell 1
  have a0 := b2.cell 0
  have a1 := b2.cell 1
  have a2 := b2.cell 2
  have a3 := b2.cell 3
  have hs0 : w.heap.size + 2 = ((w.alloc (.cells #[.pointer (some ⟨bp, 0, none⟩), .pointer (some ⟨rp, 0, none⟩)] 61)).alloc (.cells #[.int .i64 d, .int .i64 f, .int .i64 o, .int .i64 hh] 67)).heap.size := by simp
  have HS0 := Lib.hid hs0
  generalize actB (blks (F : Int) kd od 2 n) f o hh = q at *
  obtain ⟨qf, qo⟩ := q
  clear h hx0 hJ b1 b2 hs0 hf h9
  simp only at hxf CB
  by_cases d0 : d = 0
  · subst d0
    go_enter Try.func23, Try.ntmps23
    go_wp2_with (first
      | (go_at_call 59; refine (CB.out).mono ?_; rintro e w1 ⟨rfl, hx⟩; have HX1 := Lib.hid hx; have J1 := Lib.hid (HJ.out.ext0 hx); have P1 := Lib.hid (B1.out.ext hx (by simp)); have A1 := Lib.hid (B2.out.ext hx (by simp)); clear p0 p1 a0 a1 a2 a3 hx; have p0 := P1.out.cell 0; have p1 := P1.out.cell 1; have a0 := A1.out.cell 0; have a2 := A1.out.cell 2; have p0n := P1.out.lt; have a0n := A1.out.lt; have hw1 := HX1.out.size)
      | (go_at_call 33; refine ((J1.out.ext0 ((Ext.refl _ _).alloc _)).alloc _).mono ?_; rintro e w2 ⟨x, y, rfl, hx, hF⟩; have HX2 := Lib.hid hx; have HF := Lib.hid hF; have P2 := Lib.hid ((P1.out.alloc (.cells #[.int .i64 qf, .int .i64 qo] 76)).ext hx (by simp only [List.mem_singleton]; omega)); have A2 := Lib.hid ((A1.out.alloc (.cells #[.int .i64 qf, .int .i64 qo] 76)).ext hx (by simp only [List.mem_singleton]; omega)); clear p0 p1 a0 a2 hx hF; have p0 := P2.out.cell 0; have p1 := P2.out.cell 1; have a0 := A2.out.cell 0; have a2 := A2.out.cell 2; have e1 : (x == x) = true := (by simp); have e2 : (y == y) = true := (by simp))
      | (go_at_call 60; refine (HF.out _ (Ext.refl _ _)).mono ?_; rintro e w3 ⟨rfl, hx, kd', od', hJ⟩; have HX3 := Lib.hid hx; have J3 := Lib.hid hJ; clear p0 p1 a0 a2 hx hJ))
    go_ret
    refine ⟨rfl, ?_, kd', od', J3.out⟩
    exact ((((HX0.out.trans HX1.out).alloc _).mono (by simp)).step HX2.out (by simp)).step HX3.out (by simp)
  by_cases d1 : d = 1
  · subst d1
    go_enter Try.func23, Try.ntmps23
    go_wp2_with (go_at_call 59; refine (CB.out).mono ?_; rintro e w1 ⟨rfl, hx⟩; have HX1 := Lib.hid hx; have J1 := Lib.hid (HJ.out.ext0 hx); have P1 := Lib.hid (B1.out.ext hx (by simp)); have A1 := Lib.hid (B2.out.ext hx (by simp)); clear p0 p1 a0 a1 a2 a3 hx; have a0 := A1.out.cell 0; have p0n := P1.out.lt; have a0n := A1.out.lt; have hw1 := HX1.out.size)
    have hx1 : Ext [] w1 (w1.alloc (.cells #[.int .i64 qf, .int .i64 qo] 76)).drew := ((Ext.refl _ _).alloc _).drew
    have J2 := Lib.hid (J1.out.ext0 hx1)
    have P2 := Lib.hid (P1.out.ext hx1 (by simp))
    have Q2 := Lib.hid ((Blk.new w1 [.int .i64 qf, .int .i64 qo] 76).ext (Ext.refl [] _).drew (by simp))
    have HX2 := Lib.hid (((HX0.out.trans HX1.out).trans hx1).mono (N := [bl, rp]) (by simp))
    clear hx1 a0
    go_region_held3 (fun cur => cur.cell? ⟨w.heap.size, 0, none⟩ = some (.pointer (some ⟨bp, 0, none⟩)) ∧ cur.cell? ⟨w.heap.size, 1, none⟩ = some (.pointer (some ⟨rp, 0, none⟩)) ∧ cur.cell? ⟨w1.heap.size, 0, none⟩ = some (.int .i64 qf) ∧ cur.cell? ⟨w1.heap.size, 1, none⟩ = some (.int .i64 qo))
      (exact ⟨P2.out.cell 0, P2.out.cell 1, Q2.out.cell 0, Q2.out.cell 1⟩)
      (first
      | (go_at_call 29; refine (J2.out.free _ _ hxf).mono ?_; rintro e w2 ⟨x, rfl, hx, hF⟩; have HX2 := Lib.hid (HX2.out.step hx (by simp)); have HF := Lib.hid hF; have P2 := Lib.hid (P2.out.ext hx (by simp only [List.mem_singleton]; omega)); have Q2 := Lib.hid (Q2.out.ext hx (by simp only [List.mem_singleton]; omega)); clear hx hF; have e1 : (x == x) = true := (by simp))
      | (go_at_call 61; refine (HF.out _ (Ext.refl _ _)).mono ?_; rintro e w3 ⟨rfl, hx, kd', od', hJ⟩; have HX2 := Lib.hid (HX2.out.step hx (by simp)); have J3 := Lib.hid hJ; have P2 := Lib.hid (P2.out.ext hx (by simp only [List.mem_singleton]; omega)); have Q2 := Lib.hid (Q2.out.ext hx (by simp only [List.mem_singleton]; omega)); clear hx hJ))
    all_goals
      go_wp2
      go_ret
      exact ⟨rfl, HX2.out, kd', od', J3.out⟩
  by_cases d2 : d = 2
  · subst d2
    go_enter Try.func23, Try.ntmps23
    go_wp2_with (go_at_call 59; refine (CB.out).mono ?_; rintro e w1 ⟨rfl, hx⟩; have HX1 := Lib.hid hx; have J1 := Lib.hid (HJ.out.ext0 hx); have P1 := Lib.hid (B1.out.ext hx (by simp)); have A1 := Lib.hid (B2.out.ext hx (by simp)); clear p0 p1 a0 a1 a2 a3 hx; have a0 := A1.out.cell 0; have p0n := P1.out.lt; have a0n := A1.out.lt; have hw1 := HX1.out.size)
    have hx1 : Ext [] w1 (w1.alloc (.cells #[.int .i64 qf, .int .i64 qo] 76)).drew := ((Ext.refl _ _).alloc _).drew
    have J2 := Lib.hid (J1.out.ext0 hx1)
    have P2 := Lib.hid (P1.out.ext hx1 (by simp))
    have Q2 := Lib.hid ((Blk.new w1 [.int .i64 qf, .int .i64 qo] 76).ext (Ext.refl [] _).drew (by simp))
    have HX2 := Lib.hid (((HX0.out.trans HX1.out).trans hx1).mono (N := [bl, rp]) (by simp))
    clear hx1 a0
    go_region_held3 (fun cur => cur.cell? ⟨w.heap.size, 0, none⟩ = some (.pointer (some ⟨bp, 0, none⟩)) ∧ cur.cell? ⟨w.heap.size, 1, none⟩ = some (.pointer (some ⟨rp, 0, none⟩)) ∧ cur.cell? ⟨w1.heap.size, 0, none⟩ = some (.int .i64 qf) ∧ cur.cell? ⟨w1.heap.size, 1, none⟩ = some (.int .i64 qo))
      (exact ⟨P2.out.cell 0, P2.out.cell 1, Q2.out.cell 0, Q2.out.cell 1⟩)
      (first
      | (go_at_call 34; refine (J2.out.shatter _ _ hxf).mono ?_; rintro e w2 ⟨x, rfl, hx, hF⟩; have HX2 := Lib.hid (HX2.out.step hx (by simp)); have HF := Lib.hid hF; have P2 := Lib.hid (P2.out.ext hx (by simp only [List.mem_singleton]; omega)); have Q2 := Lib.hid (Q2.out.ext hx (by simp only [List.mem_singleton]; omega)); clear hx hF; have e1 : (x == x) = true := (by simp))
      | (go_at_call 62; refine (HF.out _ (Ext.refl _ _)).mono ?_; rintro e w3 ⟨rfl, hx, kd', od', hJ⟩; have HX2 := Lib.hid (HX2.out.step hx (by simp)); have J3 := Lib.hid hJ; have P2 := Lib.hid (P2.out.ext hx (by simp only [List.mem_singleton]; omega)); have Q2 := Lib.hid (Q2.out.ext hx (by simp only [List.mem_singleton]; omega)); clear hx hJ))
    all_goals
      go_wp2
      go_ret
      exact ⟨rfl, HX2.out, kd', od', J3.out⟩
  have e0 : (d == 0) = false := by simpa using d0
  have e1 : (d == 1) = false := by simpa using d1
  have e2 : (d == 2) = false := by simpa using d2
  clear d0 d1 d2
  go_enter Try.func23, Try.ntmps23
  go_wp2_with (go_at_call 59; refine (CB.out).mono ?_; rintro e w1 ⟨rfl, hx⟩; have HX1 := Lib.hid hx; have J1 := Lib.hid (HJ.out.ext0 hx); have A1 := Lib.hid (B2.out.ext hx (by simp)); clear p0 p1 a0 a1 a2 a3 hx; have a0 := A1.out.cell 0; have a0n := A1.out.lt)
  go_ret
  exact ⟨rfl, (((HX0.out.trans HX1.out).alloc _).mono (by simp)), kd, od, J1.out.ext0 ((Ext.refl _ _).alloc _)⟩

end Go.Proofs.Ytkpnmknkimlnaaa
