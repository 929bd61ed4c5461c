/-
  Region's reference: Same.
-/
import Derived.Test.YtjicpblncfgiaaaRgN
namespace Go.Proofs.Ytjicpblncfgiaaa
set_option linter.unusedVariables false
set_option linter.unusedSimpArgs false
open Go.RowKit RgT SpT
set_option maxHeartbeats 4000000
set_option maxRecDepth 100000
set_option linter.unusedVariables false
set_option linter.unusedSimpArgs false

abbrev regV (x : Sp U) : Value := .agg #[.int .i64 (x.f : Int), .int .i64 (x.t : Int), .int .i64 (x.v).1, .int .i64 (x.v).2.1, .int .i64 (x.v).2.2]
theorem neR (x y : Sp U) (h : x ≠ y) (w : World) : (binOp .neq 37 (.agg #[.int .i64 (x.f : Int), .int .i64 (x.t : Int), .int .i64 (x.v).1, .int .i64 (x.v).2.1, .int .i64 (x.v).2.2]) (.agg #[.int .i64 (y.f : Int), .int .i64 (y.t : Int), .int .i64 (y.v).1, .int .i64 (y.v).2.1, .int .i64 (y.v).2.2])).run Try.prog w = .ok (.bool true) w := by
  obtain ⟨x0, x1, x2, x3, x4⟩ := x
  obtain ⟨y0, y1, y2, y3, y4⟩ := y
  go_simp
  intro h1 h2 h3 h4 h5
  exact h (by rw [Int.ofNat_inj.1 h1, Int.ofNat_inj.1 h2, h3, h4, h5])
theorem eqR (x : Sp U) (w : World) : (binOp .neq 37 (.agg #[.int .i64 (x.f : Int), .int .i64 (x.t : Int), .int .i64 (x.v).1, .int .i64 (x.v).2.1, .int .i64 (x.v).2.2]) (.agg #[.int .i64 (x.f : Int), .int .i64 (x.t : Int), .int .i64 (x.v).1, .int .i64 (x.v).2.1, .int .i64 (x.v).2.2])).run Try.prog w = .ok (.bool false) w := by
  obtain ⟨x0, x1, x2, x3, x4⟩ := x
  go_simp
theorem GRow.at_ {w : World} {B : Nat} {v : Value} {l : List (Sp U)} (h : GRow w B v l) {k : Nat} (hk : k < l.length) : ∃ g cap, v = .slice (some ⟨g, 0, none⟩) l.length cap ∧ g < w.heap.size ∧ B ≤ g ∧ ∀ j, j < 5 → w.cell? ⟨g, k * 5 + j, none⟩ = (SpU.cells l[k])[j]? := by
  obtain ⟨n, hn⟩ : ∃ n, l.length = n + 1 := ⟨l.length - 1, by omega⟩
  have hR := h
  unfold GRow at hR
  rw [hn] at hR
  obtain ⟨g, cap, he⟩ := ownsRow_succ hR
  refine ⟨g, cap, by rw [he, hn], (hR.lt g (by rw [he]; rfl)).2, (hR.lt g (by rw [he]; rfl)).1, fun j hj => ?_⟩
  subst he
  have h1 := hR.cellAt (k * 5 + j) (by omega)
  rw [SpU.encS_at hk hj] at h1
  exact h1
open Classical in
/-- Are these the same? -/
noncomputable def sameB (l1 l2 : List (Sp U)) : Bool := decide (l1 = l2)
theorem sameB_yes {l1 l2 : List (Sp U)} (h : l1 = l2) : sameB l1 l2 = true := by classical exact decide_eq_true h
theorem sameB_no {l1 l2 : List (Sp U)} (h : l1 ≠ l2) : sameB l1 l2 = false := by classical exact decide_eq_false h
theorem rsame_c (w : World) (B1 B2 : Nat) (v1 v2 : Value) (l1 l2 : List (Sp U)) (h1 : GRow w B1 v1 l1) (h2 : GRow w B2 v2 l2) (hl1 : l1.length ≤ 5000) (hl2 : l2.length ≤ 5000) :
    Calls Try.prog 15 #[v1, v2] w fun e w' => e = .returned (.bool (sameB l1 l2)) ∧ Ext [] w w' := by
  obtain ⟨a1, c1, rfl, _, _⟩ := ownsRow_form h1
  obtain ⟨a2, c2, rfl, _, _⟩ := ownsRow_form h2
  have H1 := Lib.hid h1
  have H2 := Lib.hid h2
  clear h1 h2
  by_cases hlen : l1.length = l2.length
  · have q0 : ((l1.length : Int) != (l2.length : Int)) = false := by simp [hlen]
    have HL := Lib.hid hlen
    clear hlen
    go_enter Try.func15, Try.ntmps15
    go_wp2
    go_loopw [5] (fun i wr => ∃ k : Nat, k ≤ l1.length ∧ i = .int .i64 k ∧ l1.take k = l2.take k ∧ Ext [] w wr) (fun i _ => l1.length - (intOf i).toNat)
    case atStart => exact ⟨0, by omega, rfl, rfl, Ext.refl _ _⟩
    case round =>
      obtain ⟨k, hk, rfl, ht, hx⟩ := hrel
      by_cases hlt : k < l1.length
      · have hlt2 : k < l2.length := by have := HL.out; omega
        obtain ⟨g1, d1, he1, _, _, hc1⟩ := GRow.at_ (ownsRow_ext H1.out hx (by simp)) hlt
        obtain ⟨g2, d2, he2, _, _, hc2⟩ := GRow.at_ (ownsRow_ext H2.out hx (by simp)) hlt2
        injection he1 with he1 _ he1c
        injection he2 with he2 _ he2c
        subst he1 he2 he1c he2c
        have s1 := List.take_succ_eq_append_getElem hlt
        have s2 := List.take_succ_eq_append_getElem hlt2
        have e1 : l1[k]? = some l1[k] := List.getElem?_eq_getElem hlt
        have e2 : l2[k]? = some l2[k] := List.getElem?_eq_getElem hlt2
        generalize l1[k] = x at *
        generalize l2[k] = y at *
        have x0 : wr.cell? ⟨g1, k * 5, none⟩ = _ := hc1 0 (by omega)
        have x1 := hc1 1 (by omega)
        have x2 := hc1 2 (by omega)
        have x3 := hc1 3 (by omega)
        have x4 := hc1 4 (by omega)
        have y0 : wr.cell? ⟨g2, k * 5, none⟩ = _ := hc2 0 (by omega)
        have y1 := hc2 1 (by omega)
        have y2 := hc2 2 (by omega)
        have y3 := hc2 3 (by omega)
        have y4 := hc2 4 (by omega)
        unfold SpU.cells at x0 x1
        unfold SpU.cells at x2
        unfold SpU.cells at x3
        unfold SpU.cells at x4
        unfold SpU.cells at y0 y1
        unfold SpU.cells at y2
        unfold SpU.cells at y3
        unfold SpU.cells at y4
        have i0 : (0 : Int) ≤ (k : Int) := by omega
        have i1 : (k : Int) < (l1.length : Int) := by omega
        have i2 : (k : Int) < (l2.length : Int) := by omega
        have HX := Lib.hid hx
        by_cases hxy : x = y
        · subst hxy
          have HT : Hid (l1.take (k + 1) = l2.take (k + 1)) := by show _ = _; rw [s1, s2, ht]
          have hq := fun w => eqR x w
          clear hc1 hc2 s1 s2 e1 e2 ht hx
          go_wp2
          go_quiet (fail)
          go_wp2
          go_roundw
          case rel => exact ⟨k + 1, by omega, by go_num, HT.out, HX.out.drewN _⟩
          case measure => simp [intOf]; omega
        · have hne : sameB l1 l2 = false := by
            refine sameB_no fun e => hxy ?_
            rw [e] at e1
            rw [e1] at e2
            injection e2
          have HNE := Lib.hid hne
          have hq := fun w => neR x y hxy w
          clear hc1 hc2 s1 s2 e1 e2 ht hx hne hxy
          go_wp2
          go_quiet (fail)
          go_wp2
          go_ret
          rw [HNE.out]
          exact ⟨rfl, HX.out.drewN _⟩
      · have hke : k = l1.length := by omega
        have he : sameB l1 l2 = true := by
          rw [hke, List.take_length] at ht
          rw [HL.out, List.take_length] at ht
          exact sameB_yes ht
        have HE := Lib.hid he
        have HX := Lib.hid hx
        have hge : ¬ (k : Int) < (l1.length : Int) := by omega
        clear he hx ht hke
        go_wp2
        go_ret
        rw [HE.out]
        exact ⟨rfl, HX.out⟩
  · have q0 : ((l1.length : Int) != (l2.length : Int)) = true := by simp; omega
    have HNE := Lib.hid (show sameB l1 l2 = false from sameB_no fun e => hlen (by rw [e]))
    clear hlen
    go_enter Try.func15, Try.ntmps15
    go_wp2
    go_ret
    rw [HNE.out]
    exact ⟨rfl, Ext.refl _ _⟩

end Go.Proofs.Ytjicpblncfgiaaa
