/-
  Region's laws: RegionStays, walked. WRITTEN BY gen_rgz.py.
-/
import Derived.Test.YtjicpblncfgiaaaRgX
namespace Go.Proofs.Ytjicpblncfgiaaa
set_option linter.unusedVariables false
set_option linter.unusedSimpArgs false
open Go.RowKit RgT SpT
set_option maxHeartbeats 4000000
set_option maxRecDepth 100000
set_option linter.unusedVariables false
set_option linter.unusedSimpArgs false

theorem fld_res (x : Int) (w : World) : (Instr.field 42 (.agg #[.int .i64 x, .int .i64 0]) 0).run Try.prog w = .ok (.int .i64 x) w := by kernel_rfl
theorem regionStays_c (nodes : Int) (v : Value) (l : List Cl) (c : Cl) (w : World) (hl : RCalls w v l) : Calls Try.prog 8 #[.int .i64 nodes, v, .agg #[.int .i64 c.k, .int .i64 c.pg, .int .i64 c.n, .int .i64 c.pm, .int .i64 c.pk, .int .i64 c.pn, .int .i64 c.ad, .int .i64 c.by_]] w fun e w' => e = .returned (.bool true) ∧ Ext [] w w' := by
  have CW := Lib.hid (fun w => awake_c w)
  have hx0 : Ext [] w (w.alloc (.cells #[.int .i64 c.k, .int .i64 c.pg, .int .i64 c.n, .int .i64 c.pm, .int .i64 c.pk, .int .i64 c.pn, .int .i64 c.ad, .int .i64 c.by_] 39)) := (Ext.refl _ _).alloc _
  have HX0 := Lib.hid hx0
  have HB0 := Lib.hid (Blk.new w [.int .i64 c.k, .int .i64 c.pg, .int .i64 c.n, .int .i64 c.pm, .int .i64 c.pk, .int .i64 c.pn, .int .i64 c.ad, .int .i64 c.by_] 39)
  have hs0 : (w.alloc (.cells #[.int .i64 c.k, .int .i64 c.pg, .int .i64 c.n, .int .i64 c.pm, .int .i64 c.pk, .int .i64 c.pn, .int .i64 c.ad, .int .i64 c.by_] 39)).heap.size = w.heap.size + 1 := by simp
  have HS0 := Lib.hid hs0
  have hl' := hl.ext_new hx0 (by simp)
  clear hl hs0 hx0
  rcases nodes_cases nodes with hn | ⟨h1, h8⟩
  · have CM := Lib.hid (made_bad nodes v l _ hl' hn)
    clear hn hl'
    go_enter Try.func8, Try.ntmps8
    go_wp2_with (first
      | (go_at_call 14; refine (CM.out).mono ?_; rintro e w1 ⟨rfl, hx⟩; have HX1 := Lib.hid hx; clear hx)
      | (go_at_call 19; refine (CW.out _).mono ?_; rintro e w2 ⟨rfl, hx⟩; have HX2 := Lib.hid hx; clear hx))
    go_ret
    exact ⟨rfl, (HX0.out.trans HX1.out).trans HX2.out⟩
  · have CM := Lib.hid (made_ok nodes v l _ hl' h1 h8)
    clear hl' h1 h8
    go_enter Try.func8, Try.ntmps8
    go_wp2_with (first
      | (go_at_call 14; refine (CM.out).mono ?_; rintro e w1 ⟨sp, mp, rp, L, f, rfl, hx, hJ, n1, n2⟩; have HX1 := Lib.hid (HX0.out.trans hx); have HB1 := Lib.hid (HB0.out.ext hx (by simp)); have HS1 := Lib.hid hJ.ts; have HN := Lib.hid n1; clear hx hJ n1 n2)
      | (go_at_call 23; refine (TS.copy HS1.out).mono ?_; rintro e w2 ⟨tp, rfl, hx, ht, hle⟩; have HX2 := Lib.hid (HX1.out.trans hx); have hb2 := HB1.out.ext hx (by simp); have HB2 := Lib.hid hb2; have hlt := HS1.out.lt; have HNE := Lib.hid (show tp ≠ sp by omega); have HT2 := Lib.hid ht; have HS2 := Lib.hid (HS1.out.ext0 hx); have c0 := hb2.cell 0; have c1 := hb2.cell 1; have c2 := hb2.cell 2; have c3 := hb2.cell 3; have c4 := hb2.cell 4; have c5 := hb2.cell 5; have c6 := hb2.cell 6; have c7 := hb2.cell 7; clear hx ht hle hlt hb2)
      | (go_at_call 20; refine (TS.apply HS2.out c).mono ?_; rintro e w4 ⟨rfl, hx, hs⟩; have HX4 := Lib.hid (HX2.out.step hx (by have := HN.out; rw [HS0.out] at this; simp; omega)); have HB4 := Lib.hid (HB2.out.ext hx (by have := HN.out; rw [HS0.out] at this; simp; omega)); have HT4 := Lib.hid (HT2.out.beside HS2.out HNE.out hx); have HS4 := Lib.hid hs; have hfld := fld_res (applyF nodes c f).1; clear hx hs c0 c1 c2 c3 c4 c5 c6 c7))
    have HSAME := Lib.hid (fun p => applyF_same (nodes := nodes) (c := c) (f := f) p)
    have HIN := Lib.hid (fun h => applyF_in (nodes := nodes) (c := c) (f := f) h)
    generalize hrc : (applyF nodes c f).1 = rc at *
    generalize (applyF nodes c f).2 = f' at *
    clear hrc hfld
    go_loopw [13] (fun i wr => ∃ k : Nat, k ≤ 4096 ∧ i = .int .i64 k ∧ Ext [] w4 wr) (fun i _ => 4096 - (intOf i).toNat)
    case atStart => exact ⟨0, by omega, rfl, Ext.refl _ _⟩
    case round =>
      obtain ⟨k, hk, rfl, hx⟩ := hrel
      have HXr := Lib.hid hx
      have hb := HB4.out.ext hx (by simp)
      have c1 := hb.cell 1
      have c2 := hb.cell 2
      by_cases hlt : k < 4096
      · have i0 : (0 : Int) ≤ (k : Int) := by omega
        have i1 : (k : Int) < 4096 := by omega
        by_cases hsk : rc = 0 ∧ c.pg ≤ (k : Int) ∧ (k : Int) - c.pg < c.n
        · obtain ⟨rfl, h1, h2⟩ := hsk
          obtain ⟨hc, _, _⟩ := HIN.out rfl
          obtain ⟨g0, g1, _, _, _, _⟩ := rangeS_yes (chk_yes hc).2
          clear hc hb hx
          go_wp2
          go_roundw
          case rel => exact ⟨k + 1, by omega, by go_num, HXr.out⟩
          case measure => simp [intOf]; omega
        · have hfe := HSAME.out k (by
            by_cases h0 : rc = 0
            · exact .inr (fun h => hsk ⟨h0, h.1, h.2⟩)
            · exact .inl h0)
          have cf := fun w' (h : Ext [] wr w') => TS.find ((HS4.out.ext0 hx).ext0 h) (k : Int)
          have cg := fun w' (h : Ext [] wr w') => TS.find ((HT4.out.ext0 hx).ext0 h) (k : Int)
          obtain ⟨m1, _, ht1, _⟩ := HS4.out
          obtain ⟨m2, _, ht2, _⟩ := HT4.out
          rw [← find_f ht1 k, ← find_f ht2 k] at hfe
          generalize (allK f' 4096).find? (SpU.findIn (k : Int)) = o1 at *
          generalize (allK f 4096).find? (SpU.findIn (k : Int)) = o2 at *
          have hgd : (rc == 0) = false ∨ (rc = 0 ∧ (¬ c.pg ≤ (k : Int) ∨ (c.pg ≤ (k : Int) ∧ 0 ≤ c.pg ∧ ¬ (k : Int) - c.pg < c.n))) := by
            by_cases h0 : rc = 0
            · refine .inr ⟨h0, ?_⟩
              obtain ⟨hc, _, _⟩ := HIN.out h0
              obtain ⟨g0, g1, _, _, _, _⟩ := rangeS_yes (chk_yes hc).2
              by_cases h1 : c.pg ≤ (k : Int)
              · exact .inr ⟨h1, g0, fun h2 => hsk ⟨h0, h1, h2⟩⟩
              · exact .inl h1
            · exact .inl (by simpa using h0)
          clear hsk ht1 ht2 hb hx
          cases o1 with
          | none =>
            cases o2 with
            | some y => cases hfe
            | none =>
              clear hfe
              simp only [findV, SpU.findC, Option.isSome] at cf cg
              have CF := Lib.hid cf
              have CG := Lib.hid cg
              have q3 := fun w => eqP (0, 0) w
              clear cf cg
              rcases hgd with hg | ⟨rfl, hg | ⟨hg, hg0, hg2⟩⟩
              all_goals
                go_wp2_with (first
                  | (go_at_call 21; with_reducible refine (CF.out _ (Ext.refl _ _)).mono ?_; rintro e w5 ⟨rfl, hx⟩; have HX5 := Lib.hid (hx.alloc (.cells #[.int .i64 0, .int .i64 0, .int .i64 0, .int .i64 0, .int .i64 0] 37)); have HB5 := Lib.hid (Blk.new w5 [.int .i64 0, .int .i64 0, .int .i64 0, .int .i64 0, .int .i64 0] 37); clear hx)
                  | (go_at_call 21; with_reducible refine (CG.out _ HX5.out).mono ?_; rintro e w6 ⟨rfl, hx⟩; have HX6 := Lib.hid ((HX5.out.trans hx).alloc (.cells #[.int .i64 0, .int .i64 0, .int .i64 0, .int .i64 0, .int .i64 0] 37)); have HB6 := Lib.hid ((HB5.out.ext hx (by simp)).alloc (.cells #[.int .i64 0, .int .i64 0, .int .i64 0, .int .i64 0, .int .i64 0] 37)); have b2 := HB6.out.cell 2; have b3 := HB6.out.cell 3; have b4 := HB6.out.cell 4; clear hx))
                go_roundw
                case rel => exact ⟨k + 1, by omega, by go_num, HXr.out.trans HX6.out⟩
                case measure => simp [intOf]; omega
          | some x =>
            cases o2 with
            | none => cases hfe
            | some y =>
              obtain ⟨xf, xt, xv⟩ := x
              obtain ⟨yf, yt, yv⟩ := y
              simp only [Option.map] at hfe
              injection hfe with hfe
              subst hfe
              obtain ⟨vp, vk, vn⟩ := xv
              simp only [findV, SpU.findC, SpU.cells, Option.isSome] at cf cg
              have CF := Lib.hid cf
              have CG := Lib.hid cg
              have q3 := fun w => eqP (vk, vn) w
              clear cf cg
              rcases hgd with hg | ⟨rfl, hg | ⟨hg, hg0, hg2⟩⟩
              all_goals
                go_wp2_with (first
                  | (go_at_call 21; with_reducible refine (CF.out _ (Ext.refl _ _)).mono ?_; rintro e w5 ⟨rfl, hx⟩; have HX5 := Lib.hid (hx.alloc (.cells #[.int .i64 (xf : Int), .int .i64 (xt : Int), .int .i64 vp, .int .i64 vk, .int .i64 vn] 37)); have HB5 := Lib.hid (Blk.new w5 [.int .i64 (xf : Int), .int .i64 (xt : Int), .int .i64 vp, .int .i64 vk, .int .i64 vn] 37); clear hx)
                  | (go_at_call 21; with_reducible refine (CG.out _ HX5.out).mono ?_; rintro e w6 ⟨rfl, hx⟩; have HX6 := Lib.hid ((HX5.out.trans hx).alloc (.cells #[.int .i64 (yf : Int), .int .i64 (yt : Int), .int .i64 vp, .int .i64 vk, .int .i64 vn] 37)); have HB6 := Lib.hid ((HB5.out.ext hx (by simp)).alloc (.cells #[.int .i64 (yf : Int), .int .i64 (yt : Int), .int .i64 vp, .int .i64 vk, .int .i64 vn] 37)); have b2 := HB6.out.cell 2; have b3 := HB6.out.cell 3; have b4 := HB6.out.cell 4; clear hx))
                go_roundw
                case rel => exact ⟨k + 1, by omega, by go_num, HXr.out.trans HX6.out⟩
                case measure => simp [intOf]; omega
      · obtain rfl : k = 4096 := by omega
        clear hb c1 c2 hx
        go_wp2_with (go_at_call 19; refine (CW.out _).mono ?_; rintro e w7 ⟨rfl, hx⟩; have HX7 := Lib.hid hx; clear hx)
        go_ret
        exact ⟨rfl, (HX4.out.trans HXr.out).trans HX7.out⟩

end Go.Proofs.Ytjicpblncfgiaaa
