/-
  Region's laws: RegionPlays, RegionFinds, walked.
-/
import Derived.Test.YtjicpblncfgiaaaRgW
import Derived.Test.YtjicpblncfgiaaaRgS
import Derived.Test.YtjicpblncfgiaaaRgR
namespace Go.Proofs.Ytjicpblncfgiaaa
set_option linter.unusedVariables false
set_option linter.unusedSimpArgs false
open Go.RowKit RgT SpT
set_option maxHeartbeats 4000000
set_option maxRecDepth 100000
set_option linter.unusedVariables false
set_option linter.unusedSimpArgs false

theorem RH.all_tie {w : World} {sp mp rp : Nat} {nodes : Int} {L : List (Sp U)} {f : Nat → Option U} (h : RJ w sp mp rp nodes L f) : Calls Try.prog 17 #[.pointer (some ⟨rp, 0, none⟩)] w (GNew w L) := by
  have := h.h.all
  rwa [h.tie.all] at this

theorem nodes_cases (nodes : Int) : (nodes < 1 ∨ 8 < nodes) ∨ (1 ≤ nodes ∧ nodes ≤ 8) := by omega

theorem regionPlays_c (nodes : Int) (v : Value) (l : List Cl) (w : World) (hl : RCalls w v l) : Calls Try.prog 3 #[.int .i64 nodes, v] w fun e w' => e = .returned (.bool true) ∧ Ext [] w w' := by
  have CW := Lib.hid (fun w => awake_c w)
  rcases nodes_cases nodes with hn | ⟨h1, h8⟩
  · have CM := Lib.hid (made_bad nodes v l w hl hn)
    clear hn hl
    go_enter Try.func3, Try.ntmps3
    go_wp2_with (first
      | (go_at_call 14; refine (CM.out).mono ?_; rintro e w1 ⟨rfl, hx⟩; have HX1 := Lib.hid hx; clear hx)
      | (go_at_call 19; refine (CW.out _).mono ?_; rintro e w2 ⟨rfl, hx⟩; have HX2 := Lib.hid hx; clear hx))
    go_ret
    exact ⟨rfl, HX1.out.trans HX2.out⟩
  · have CM := Lib.hid (made_ok nodes v l w hl h1 h8)
    clear hl h1 h8
    go_enter Try.func3, Try.ntmps3
    go_wp2_with (first
      | (go_at_call 14; refine (CM.out).mono ?_; rintro e w1 ⟨sp, mp, rp, L, f, rfl, hx, hJ, n1, n2⟩; have HX := Lib.hid hx; have HJ := Lib.hid hJ; have HLEN := Lib.hid hJ.l64; have CA1 := Lib.hid True.intro; clear hx hJ n1 n2)
      | (go_at_call 16; refine (regions_c _ sp mp nodes L HJ.out.h.s).mono ?_; rintro e w2 ⟨v2, rfl, hr, hx⟩; obtain ⟨a2, d2, rfl, _, _⟩ := ownsRow_form hr; have HR2 := Lib.hid hr; have HX := Lib.hid (HX.out.trans hx); have HJ := Lib.hid (HJ.out.ext0 hx); clear hx hr)
      | (go_at_call 17; have _t := CA1; refine (RH.all_tie HJ.out).mono ?_; rintro e w3 ⟨v3, rfl, hr, hx⟩; obtain ⟨a3, d3, rfl, _, _⟩ := ownsRow_form hr; have HR3 := Lib.hid hr; have HR2b := Lib.hid (ownsRow_ext HR2.out hx (by simp)); have HX := Lib.hid (HX.out.trans hx); have HJ := Lib.hid (HJ.out.ext0 hx); clear hx hr CA1 _t)
      | (go_at_call 15; have cs := rsame_c _ _ _ _ _ L L HR2b.out HR3.out (by have := HLEN.out; omega) (by have := HLEN.out; omega); rw [sameB_yes rfl] at cs; refine cs.mono ?_; clear cs; rintro e w4 ⟨rfl, hx⟩; have HX := Lib.hid (HX.out.trans hx); have HJ := Lib.hid (HJ.out.ext0 hx); clear hx)
      | (go_at_call 18; refine (SpIs.len_ HJ.out.h.s).mono ?_; rintro e w5 ⟨rfl, rfl⟩)
      | (go_at_call 17; refine (RH.all_tie HJ.out).mono ?_; rintro e w6 ⟨v6, rfl, hr, hx⟩; obtain ⟨a6, d6, rfl, _, _⟩ := ownsRow_form hr; have HX := Lib.hid (HX.out.trans hx); clear hx hr)
      | (go_at_call 19; refine (CW.out _).mono ?_; rintro e w7 ⟨rfl, hx⟩; have HX7 := Lib.hid hx; clear hx))
    go_ret
    exact ⟨rfl, HX.out.trans HX7.out⟩

theorem regV_eq (o : Option (Sp U)) (w : World) : (binOp .eql 37 (.agg (SpU.findC o).toArray) (.agg (SpU.findC o).toArray)).run Try.prog w = .ok (.bool true) w := by
  cases o with
  | none => unfold SpU.findC; go_simp
  | some x =>
    obtain ⟨x0, x1, x2, x3, x4⟩ := x
    unfold SpU.findC SpU.cells
    go_simp
theorem regionFinds_c (nodes : Int) (v : Value) (l : List Cl) (page : Int) (w : World) (hl : RCalls w v l) : Calls Try.prog 6 #[.int .i64 nodes, v, .int .i64 page] w fun e w' => e = .returned (.bool true) ∧ Ext [] w w' := by
  have CW := Lib.hid (fun w => awake_c w)
  rcases nodes_cases nodes with hn | ⟨h1, h8⟩
  · have CM := Lib.hid (made_bad nodes v l w hl hn)
    clear hn hl
    go_enter Try.func6, Try.ntmps6
    go_wp2_with (first
      | (go_at_call 14; refine (CM.out).mono ?_; rintro e w1 ⟨rfl, hx⟩; have HX1 := Lib.hid hx; clear hx)
      | (go_at_call 19; refine (CW.out _).mono ?_; rintro e w2 ⟨rfl, hx⟩; have HX2 := Lib.hid hx; clear hx))
    go_ret
    exact ⟨rfl, HX1.out.trans HX2.out⟩
  · have CM := Lib.hid (made_ok nodes v l w hl h1 h8)
    clear hl h1 h8
    go_enter Try.func6, Try.ntmps6
    go_wp2_with (first
      | (go_at_call 14; refine (CM.out).mono ?_; rintro e w1 ⟨sp, mp, rp, L, f, rfl, hx, hJ, n1, n2⟩; have HX := Lib.hid hx; have CF := Lib.hid (fun w' (h : RJ w' sp mp rp nodes L f) => SpIs.find_ h.h.s page); have CR := Lib.hid (fun w' (h : RJ w' sp mp rp nodes L f) => (by have := h.h.rfind page; rwa [h.tie.all] at this : Calls Try.prog 22 #[.pointer (some ⟨rp, 0, none⟩), .int .i64 page] w' fun e w'' => e = .returned (findV (L.find? (SpU.findIn page))) ∧ Ext [] w' w'')); generalize L.find? (SpU.findIn page) = o at *; have HJ := Lib.hid hJ; clear hx hJ n1 n2))
    cases o with
    | none =>
      have cf := CF.out
      have cr := CR.out
      simp only [findV, SpU.findC, SpU.cells, Option.isSome] at cf cr
      have CF := Lib.hid cf
      have CR := Lib.hid cr
      clear cf cr
      go_wp2_with (first
        | (go_at_call 21; refine (CF.out _ HJ.out).mono ?_; rintro e w2 ⟨rfl, hx⟩; have HX2 := Lib.hid (HX.out.trans hx); have HJ2 := Lib.hid (HJ.out.ext0 hx); have HB2 := Lib.hid (Blk.new w2 [.int .i64 0, .int .i64 0, .int .i64 0, .int .i64 0, .int .i64 0] 37); clear hx)
        | (go_at_call 22; refine (CR.out _ (HJ2.out.ext0 ((Ext.refl [] w2).alloc _))).mono ?_; rintro e w3 ⟨rfl, hx⟩; have HX3 := Lib.hid ((HX2.out.alloc _).trans hx); have HB3 := Lib.hid ((HB2.out.ext hx (by simp)).alloc (.cells #[.int .i64 0, .int .i64 0, .int .i64 0, .int .i64 0, .int .i64 0] 37)); have b0 := HB3.out.cell 0; have b1 := HB3.out.cell 1; have b2 := HB3.out.cell 2; have b3 := HB3.out.cell 3; have b4 := HB3.out.cell 4; clear hx)
        | (go_at_call 19; refine (CW.out _).mono ?_; rintro e w7 ⟨rfl, hx⟩; have HX7 := Lib.hid hx; clear hx))
      go_ret
      exact ⟨rfl, (HX3.out.alloc _).trans HX7.out⟩
    | some x =>
      obtain ⟨xf, xt, xp, xk, xn⟩ := x
      have cf := CF.out
      have cr := CR.out
      simp only [findV, SpU.findC, SpU.cells, Option.isSome] at cf cr
      have CF := Lib.hid cf
      have CR := Lib.hid cr
      clear cf cr
      go_wp2_with (first
        | (go_at_call 21; refine (CF.out _ HJ.out).mono ?_; rintro e w2 ⟨rfl, hx⟩; have HX2 := Lib.hid (HX.out.trans hx); have HJ2 := Lib.hid (HJ.out.ext0 hx); have HB2 := Lib.hid (Blk.new w2 [.int .i64 (xf : Int), .int .i64 (xt : Int), .int .i64 xp, .int .i64 xk, .int .i64 xn] 37); clear hx)
        | (go_at_call 22; refine (CR.out _ (HJ2.out.ext0 ((Ext.refl [] w2).alloc _))).mono ?_; rintro e w3 ⟨rfl, hx⟩; have HX3 := Lib.hid ((HX2.out.alloc _).trans hx); have HB3 := Lib.hid ((HB2.out.ext hx (by simp)).alloc (.cells #[.int .i64 (xf : Int), .int .i64 (xt : Int), .int .i64 xp, .int .i64 xk, .int .i64 xn] 37)); have b0 := HB3.out.cell 0; have b1 := HB3.out.cell 1; have b2 := HB3.out.cell 2; have b3 := HB3.out.cell 3; have b4 := HB3.out.cell 4; clear hx)
        | (go_at_call 19; refine (CW.out _).mono ?_; rintro e w7 ⟨rfl, hx⟩; have HX7 := Lib.hid hx; clear hx))
      go_ret
      exact ⟨rfl, (HX3.out.alloc _).trans HX7.out⟩

end Go.Proofs.Ytjicpblncfgiaaa
