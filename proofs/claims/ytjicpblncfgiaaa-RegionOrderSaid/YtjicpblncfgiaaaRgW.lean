/-
  Region's laws: made, both spaces behind some calls.
-/
import Derived.Test.YtjicpblncfgiaaaRgV
namespace Go.Proofs.Ytjicpblncfgiaaa
set_option linter.unusedVariables false
set_option linter.unusedSimpArgs false
open Go.RowKit RgT SpT
set_option maxHeartbeats 4000000
set_option maxRecDepth 100000
set_option linter.unusedVariables false
set_option linter.unusedSimpArgs false

theorem made_bad (nodes : Int) (v : Value) (l : List Cl) (w : World) (hl : RCalls w v l) (h : nodes < 1 ∨ 8 < nodes) : Calls Try.prog 14 #[.int .i64 nodes, v] w fun e w' => e = .returned (.tuple #[.pointer none, .pointer none, .bool true, .bool false]) ∧ Ext [] w w' := by
  obtain ⟨a, cap, rfl, hlen, _⟩ := hl.form
  have CN := Lib.hid (fun w => snew_bad nodes w h)
  have CR := Lib.hid (fun w => rnew_bad nodes w h)
  clear h hl
  replace hlen : l.length ≤ 9223372036854775807 := by unfold maxLen at hlen; omega
  go_enter Try.func14, Try.ntmps14
  go_wp2_with (first
    | (go_at_call 35; refine (CN.out _).mono ?_; rintro e w1 ⟨rfl, rfl⟩)
    | (go_at_call 36; refine (CR.out _).mono ?_; rintro e w1 ⟨rfl, rfl⟩))
  go_loopw [6, 10] (fun f i wr => i = .int .i64 0 ∧ f = .bool true ∧ Ext [] w wr) (fun _ i _ => 0)
  case atStart => exact ⟨rfl, rfl, Ext.refl _ _⟩
  case round =>
    obtain ⟨rfl, rfl, hI⟩ := hrel
    have HI := Lib.hid hI
    clear hI
    by_cases hz : 0 < l.length
    all_goals
      go_wp2
      (try simp only [Exit.inBlock, Exit.then])
      refine bodyPost_ret (v := .tuple #[.pointer none, .pointer none, .bool true, .bool false]) (by simp [results, Try.results14, go_sem]) rfl ?_
      exact ⟨rfl, HI.out⟩

def MadeOk (w : World) (nodes : Int) (e : Ending) (w' : World) : Prop :=
  ∃ sp mp rp L f, e = .returned (.tuple #[.pointer (some ⟨sp, 0, none⟩), .pointer (some ⟨rp, 0, none⟩), .bool true, .bool true]) ∧ Ext [] w w' ∧ RJ w' sp mp rp nodes L f ∧ w.heap.size ≤ sp ∧ w.heap.size ≤ rp
theorem eqRes (x : Int) (w : World) : (binOp .eql 42 (.agg #[.int .i64 x, .int .i64 0]) (.agg #[.int .i64 x, .int .i64 0])).run Try.prog w = .ok (.bool true) w := by
  go_simp
theorem RJ.start {w : World} {sp mp rp : Nat} {nodes : Int} (hs : SpIs w sp mp nodes []) (hr : RB9 w rp nodes (fun _ => none)) (hn : 1 ≤ nodes ∧ nodes ≤ 8) : RJ w sp mp rp nodes [] (fun _ => none) := ⟨⟨hs, hr⟩, Tie.nil, hn, by simp, OkF.none nodes⟩

theorem made_ok (nodes : Int) (v : Value) (l : List Cl) (w : World) (hl : RCalls w v l) (h1 : 1 ≤ nodes) (h8 : nodes ≤ 8) : Calls Try.prog 14 #[.int .i64 nodes, v] w (MadeOk w nodes) := by
  obtain ⟨a, cap, rfl, hlen, hA⟩ := hl.form
  have HA := Lib.hid hA
  clear hA hl
  have CN := Lib.hid (fun w => snew_is nodes w h1 h8)
  have CR := Lib.hid (fun w => rnew_is nodes w h1 h8)
  have HN := Lib.hid (⟨h1, h8⟩ : 1 ≤ nodes ∧ nodes ≤ 8)
  clear h1 h8
  replace hlen : l.length ≤ 9223372036854775807 := by unfold maxLen at hlen; omega
  go_enter Try.func14, Try.ntmps14
  go_wp2_with (first
    | (go_at_call 35; refine (CN.out _).mono ?_; rintro e w1 ⟨sp, mp, rfl, hx, hs, n1, n2⟩; have HX1 := Lib.hid hx; have HS1 := Lib.hid hs; have HN1 := Lib.hid n1; clear hx hs n1 n2)
    | (go_at_call 36; refine (CR.out _).mono ?_; rintro e w2 ⟨rp, bi, bp, bq, rfl, hx, hr, n1, n2, n3, n4⟩; have HX2 := Lib.hid hx; have HR2 := Lib.hid hr; have HS2 := Lib.hid (HS1.out.ext0 hx); have HN2 := Lib.hid (Nat.le_trans HX1.out.size n1); clear hx hr n1 n2 n3 n4))
  go_loopw [6, 10] (fun f i wr => ∃ k : Nat, k ≤ l.length ∧ i = .int .i64 k ∧ f = .bool true ∧ Ext [] w wr ∧ ∃ mp L f, RJ wr sp mp rp nodes L f) (fun _ i _ => l.length - (intOf i).toNat)
  case atStart => exact ⟨0, by omega, rfl, rfl, HX1.out.trans HX2.out, mp, _, _, RJ.start HS2.out ⟨_, _, _, HR2.out⟩ HN.out⟩
  case round =>
    obtain ⟨k, hk, rfl, rfl, hI, mp, L, f, hJ⟩ := hrel
    have HI := Lib.hid hI
    have HJJ := Lib.hid hJ
    by_cases hlt : k < l.length
    · obtain ⟨b, o, rfl, hb, hac⟩ := (HA.out.ext_new hI (by simp)).at_ hlt
      have hb' : b < w.heap.size := by
        obtain ⟨b2, o2, he, hb2, _⟩ := HA.out.at_ hlt
        cases he; exact hb2
      have HAC := Lib.hid (fun w' (hx : Ext [sp, rp] wr w') => hac.ext hb hx (by have := HN1.out; have := HN2.out; simp; omega))
      generalize l[k] = p at *
      have i0 : (0 : Int) ≤ (k : Int) := by omega
      have i1 : (k : Int) < (l.length : Int) := by omega
      have HXP := Lib.hid (show Ext [sp, rp] wr wr.drew from (Ext.refl _ _).drew)
      have HH := Lib.hid (hJ.h.ext0 (Ext.refl [] wr).drew)
      have HT := Lib.hid hJ.tie
      have HHI := Lib.hid hJ.high
      have HAC2 := Lib.hid (HAC.out _ HXP.out)
      have heq := eqRes (applyF nodes p f).1
      clear hI hb hb' hac hJ
      go_wp2
      go_region_held3 (fun cur => cur.cell? ⟨b, o + k * 8, none⟩ = some (.int .i64 p.k) ∧ cur.cell? ⟨b, o + k * 8 + 1, none⟩ = some (.int .i64 p.pg) ∧ cur.cell? ⟨b, o + k * 8 + 2, none⟩ = some (.int .i64 p.n) ∧ cur.cell? ⟨b, o + k * 8 + 3, none⟩ = some (.int .i64 p.pm) ∧ cur.cell? ⟨b, o + k * 8 + 4, none⟩ = some (.int .i64 p.pk) ∧ cur.cell? ⟨b, o + k * 8 + 5, none⟩ = some (.int .i64 p.pn) ∧ cur.cell? ⟨b, o + k * 8 + 6, none⟩ = some (.int .i64 p.ad) ∧ cur.cell? ⟨b, o + k * 8 + 7, none⟩ = some (.int .i64 p.by_))
        (exact ⟨HAC2.out.c0, HAC2.out.c1, HAC2.out.c2, HAC2.out.c3, HAC2.out.c4, HAC2.out.c5, HAC2.out.c6, HAC2.out.c7⟩)
        (first
        | (go_at_call 24; refine (RH.check HH.out p).mono ?_; rintro e w3 ⟨rfl, hx⟩; have HH := Lib.hid (HH.out.ext0 hx); have HXP := Lib.hid (HXP.out.trans (hx.mono (by simp))); have HAC2 := Lib.hid (HAC.out _ HXP.out); clear hx)
        | (go_at_call 37; refine (RH.rcheck HH.out p).mono ?_; rintro e w3 ⟨rfl, hx⟩; have HH := Lib.hid (HH.out.ext0 hx); have HXP := Lib.hid (HXP.out.trans (hx.mono (by simp))); have HAC2 := Lib.hid (HAC.out _ HXP.out); clear hx)
        | (go_at_call 20; refine (RH.apply HH.out HT.out p).mono ?_; rintro e w3 ⟨rfl, hx, mp2, hh⟩; have HH := Lib.hid hh; have HXP := Lib.hid (HXP.out.trans (hx.mono (by simp))); have HAC2 := Lib.hid (HAC.out _ HXP.out); clear hx hh)
        | (go_at_call 38; refine (RH.rapply HH.out HN.out HHI.out p).mono ?_; rintro e w3 ⟨rfl, hx, hh⟩; have HH := Lib.hid hh; have HXP := Lib.hid (HXP.out.trans (hx.mono (by simp))); have HAC2 := Lib.hid (HAC.out _ HXP.out); clear hx hh))
      all_goals go_wp2
      all_goals
        go_roundw
        case rel => exact ⟨k + 1, by omega, by go_num, rfl, HI.out.step HXP.out (by have := HN1.out; have := HN2.out; simp; omega), mp2, _, _, HH.out, (apply_tie HT.out nodes p).2, HN.out, applyL_64 HJJ.out.l64, applyF_ok HJJ.out.ok p⟩
        case measure => simp [intOf]; omega
    · obtain rfl : k = l.length := by omega
      have hd : decide ((l.length : Int) < (l.length : Int)) = false := by simp
      clear hI
      go_wp2
      (try simp only [Exit.inBlock, Exit.then])
      refine bodyPost_ret (v := .tuple #[.pointer (some ⟨sp, 0, none⟩), .pointer (some ⟨rp, 0, none⟩), .bool true, .bool true]) (by simp [results, Try.results14, go_sem]) rfl ?_
      exact ⟨sp, mp, rp, L, f, rfl, HI.out, hJ, HN1.out, HN2.out⟩

end Go.Proofs.Ytjicpblncfgiaaa
