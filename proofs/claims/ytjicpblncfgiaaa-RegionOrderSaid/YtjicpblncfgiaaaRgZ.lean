/-
  Region's laws: RegionOrder, walked.
-/
import Derived.Test.YtjicpblncfgiaaaRgX
namespace Go.Proofs.Ytjicpblncfgiaaa
set_option linter.unusedVariables false
set_option linter.unusedSimpArgs false
open Go.RowKit RgT SpT
set_option maxHeartbeats 4000000
set_option maxRecDepth 100000
set_option linter.unusedVariables false
set_option linter.unusedSimpArgs false

theorem neqP (a b : Int × Int) (h : a ≠ b) (w : World) : (binOp .eql 35 (.agg #[.int .i64 a.1, .int .i64 a.2]) (.agg #[.int .i64 b.1, .int .i64 b.2])).run Try.prog w = .ok (.bool false) w := by
  obtain ⟨a1, a2⟩ := a
  obtain ⟨b1, b2⟩ := b
  go_simp
  intro h1 h2
  exact h (by rw [h1, h2])
theorem ok_next {L : List (Sp U)} (h : Ok L) {k : Nat} (hk : k + 1 < L.length) : L[k].t ≤ L[k+1].f ∧ (L[k].t = L[k+1].f → L[k].v ≠ L[k+1].v) := by
  exact (List.pairwise_iff_getElem.1 h.2) k (k + 1) (by omega) hk (by omega)
theorem unlike {x y : Sp U} (h : x.t ≤ y.f) (hv : x.t = y.f → x.v ≠ y.v) : ((x.t : Int) == (y.f : Int)) = false ∨ (x.t = y.f ∧ ((x.v.1 == y.v.1) = false ∨ (x.v.1 = y.v.1 ∧ x.v.2 ≠ y.v.2))) := by
  by_cases e : x.t = y.f
  · refine .inr ⟨e, ?_⟩
    by_cases e2 : x.v.1 = y.v.1
    · exact .inr ⟨e2, fun e3 => hv e (Prod.ext e2 e3)⟩
    · exact .inl (by simpa using e2)
  · exact .inl (by simp; omega)

theorem regionOrder_c (nodes : Int) (v : Value) (l : List Cl) (w : World) (hl : RCalls w v l) : Calls Try.prog 4 #[.int .i64 nodes, v] w fun e w' => e = .returned (.bool true) ∧ Ext [] w w' := by
  have CW := Lib.hid (fun w => awake_c w)
  rcases nodes_cases nodes with hn | ⟨h1, h8⟩
  · have CM := Lib.hid (made_bad nodes v l w hl hn)
    clear hn hl
    go_enter Try.func4, Try.ntmps4
    go_wp2_with (first
      | (go_at_call 14; refine (CM.out).mono ?_; rintro e w1 ⟨rfl, hx⟩; have HX1 := Lib.hid hx; clear hx)
      | (go_at_call 19; refine (CW.out _).mono ?_; rintro e w2 ⟨rfl, hx⟩; have HX2 := Lib.hid hx; clear hx))
    go_ret
    exact ⟨rfl, HX1.out.trans HX2.out⟩
  · have CM := Lib.hid (made_ok nodes v l w hl h1 h8)
    clear hl h1 h8
    go_enter Try.func4, Try.ntmps4
    go_wp2_with (first
      | (go_at_call 14; refine (CM.out).mono ?_; rintro e w1 ⟨sp, mp, rp, L, f, rfl, hx, hJ, n1, n2⟩; have HX := Lib.hid hx; have HJ := Lib.hid hJ; have hl64 := hJ.l64; have HOK := Lib.hid hJ.tie.1; clear hx hJ n1 n2)
      | (go_at_call 16; refine (regions_c _ sp mp nodes L HJ.out.h.s).mono ?_; rintro e w2 ⟨v2, rfl, hr, hx⟩; obtain ⟨a2, d2, rfl, _, _⟩ := ownsRow_form hr; have HR2 := Lib.hid hr; have HX2 := Lib.hid (HX.out.trans hx); clear hx hr))
    go_loopw [10] (fun i wr => ∃ k : Nat, k ≤ L.length ∧ i = .int .i64 k ∧ Ext [] w2 wr) (fun i _ => L.length - (intOf i).toNat)
    case atStart => exact ⟨0, by omega, rfl, Ext.refl _ _⟩
    case round =>
      obtain ⟨k, hk, rfl, hx⟩ := hrel
      have HXr := Lib.hid hx
      by_cases hlt : k < L.length
      · obtain ⟨g1, d1, he1, hg, _, hc1⟩ := GRow.at_ (ownsRow_ext HR2.out hx (by simp)) hlt
        injection he1 with he1 _ he1c
        subst he1 he1c
        have hbd := HOK.out.1 L[k] (List.getElem_mem hlt)
        have x0 : wr.cell? ⟨g1, k * 5, none⟩ = _ := hc1 0 (by omega)
        have x1 := hc1 1 (by omega)
        have x2 := hc1 2 (by omega)
        have x3 := hc1 3 (by omega)
        have x4 := hc1 4 (by omega)
        unfold SpU.cells at x0 x1
        unfold SpU.cells at x2
        unfold SpU.cells at x3
        unfold SpU.cells at x4
        have i0 : (0 : Int) ≤ (k : Int) := by omega
        have i1 : (k : Int) < (L.length : Int) := by omega
        rcases Nat.eq_zero_or_pos k with hk0 | hk0
        · subst hk0
          generalize L[0] = x at *
          obtain ⟨xf, xt, xp, xk, xn⟩ := x
          simp only [] at hbd
          have q1 : ¬ ((xf : Int) < 0) := by omega
          have q2 : ¬ ((xt : Int) ≤ (xf : Int)) := by omega
          have q3 : ¬ ((4096 : Int) < (xt : Int)) := by omega
          clear hc1 hx hbd
          go_wp2
          go_roundw
          case rel => exact ⟨1, by omega, rfl, HXr.out.alloc _⟩
          case measure => simp [intOf]; omega
        · obtain ⟨j, rfl⟩ : ∃ j, k = j + 1 := ⟨k - 1, by omega⟩
          obtain ⟨g2, d2', he2, _, _, hc2⟩ := GRow.at_ (ownsRow_ext HR2.out (hx.alloc (.cells #[.int .i64 (L[j+1].f : Int), .int .i64 (L[j+1].t : Int), .int .i64 (L[j+1].v).1, .int .i64 (L[j+1].v).2.1, .int .i64 (L[j+1].v).2.2] 37)) (by simp)) (show j < L.length by omega)
          injection he2 with he2 _ he2c
          injection he2 with he2
          injection he2 with he2
          subst he2 he2c
          have y0 : World.cell? _ ⟨g1, j * 5, none⟩ = _ := hc2 0 (by omega)
          have y1 := hc2 1 (by omega)
          have y2 := hc2 2 (by omega)
          have y3 := hc2 3 (by omega)
          have y4 := hc2 4 (by omega)
          unfold SpU.cells at y0 y1
          unfold SpU.cells at y2
          unfold SpU.cells at y3
          unfold SpU.cells at y4
          obtain ⟨hn1, hn2⟩ := ok_next HOK.out hlt
          have hun := unlike hn1 hn2
          generalize L[j+1] = x at *
          generalize L[j] = y at *
          obtain ⟨xf, xt, xp, xk, xn⟩ := x
          obtain ⟨yf, yt, yp, yk, yn⟩ := y
          simp only [] at hbd hn1 hun y0 y1 y2 y3 y4
          have q1 : ¬ ((xf : Int) < 0) := by omega
          have q2 : ¬ ((xt : Int) ≤ (xf : Int)) := by omega
          have q3 : ¬ ((4096 : Int) < (xt : Int)) := by omega
          have q4 : ¬ ((xf : Int) < (yt : Int)) := by omega
          have q5 : (((j : Int) + 1) == 0) = false := by simp; omega
          have i2 : (0 : Int) ≤ (j : Int) := by omega
          have i3 : (j : Int) < (L.length : Int) := by omega
          clear hc1 hc2 hx hbd hn1 hn2
          rcases hun with hu | ⟨hu, hu2 | ⟨hu2, hu3⟩⟩
          · go_wp2
            go_roundw
            case rel => exact ⟨j + 1 + 1, by omega, by go_num, (HXr.out.alloc _).alloc _⟩
            case measure => simp [intOf]; omega
          · subst hu
            have q6 : ((yt : Int) == (yt : Int)) = true := by simp
            go_wp2
            go_roundw
            case rel => exact ⟨j + 1 + 1, by omega, by go_num, (HXr.out.alloc _).alloc _⟩
            case measure => simp [intOf]; omega
          · subst hu hu2
            have q6 : ((yt : Int) == (yt : Int)) = true := by simp
            have q7 : (yp == yp) = true := by simp
            have q8 := fun w => neqP (yk, yn) (xk, xn) hu3 w
            clear hu3
            go_wp2
            go_roundw
            case rel => exact ⟨j + 1 + 1, by omega, by go_num, (HXr.out.alloc _).alloc _⟩
            case measure => simp [intOf]; omega
      · obtain rfl : k = L.length := by omega
        have q1 : (L.length : Int) ≤ 64 := by omega
        clear hx
        go_wp2_with (go_at_call 19; refine (CW.out _).mono ?_; rintro e w7 ⟨rfl, hx⟩; have HX7 := Lib.hid hx; clear hx)
        go_ret
        exact ⟨rfl, (HX2.out.trans HXr.out).trans HX7.out⟩

end Go.Proofs.Ytjicpblncfgiaaa
