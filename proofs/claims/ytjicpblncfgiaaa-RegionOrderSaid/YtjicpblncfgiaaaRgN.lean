/-
  Region's reference: Find, Same.
-/
import Derived.Test.YtjicpblncfgiaaaRgI
import Derived.Test.YtjicpblncfgiaaaRgH
namespace Go.Proofs.Ytjicpblncfgiaaa
set_option linter.unusedVariables false
set_option linter.unusedSimpArgs false
open Go.RowKit RgT SpT
set_option maxHeartbeats 4000000
set_option maxRecDepth 100000
set_option linter.unusedVariables false
set_option linter.unusedSimpArgs false

theorem find_at {L : List (Sp U)} {q : Sp U → Bool} {k : Nat} (hk : k < L.length) (h : ∀ x, x ∈ L.take k → q x = false) (hq : q L[k] = true) : L.find? q = some L[k] := by
  have e : L = L.take k ++ (L[k] :: L.drop (k + 1)) := by rw [← List.drop_eq_getElem_cons hk, List.take_append_drop]
  conv => lhs; rw [e]
  rw [List.find?_append, List.find?_eq_none.2 (fun x hx => by rw [h x hx]; simp), List.find?_cons_of_pos hq]
  rfl
theorem find_not {L : List (Sp U)} {q : Sp U → Bool} (h : ∀ x, x ∈ L.take L.length → q x = false) : L.find? q = none := by
  rw [List.take_length] at h
  exact List.find?_eq_none.2 (fun x hx => by rw [h x hx]; simp)
theorem rfind_c (w : World) (rp bi bp bq : Nat) (nodes : Int) (f : Nat → Option U) (h : RefIs w rp bi bp bq nodes f) (page : Int) :
    Calls Try.prog 22 #[.pointer (some ⟨rp, 0, none⟩), .int .i64 page] w fun e w' => e = .returned (findV ((allK f 4096).find? (SpU.findIn page))) ∧ Ext [] w w' := by
  have hx0 : Ext [] w (w.alloc (.cells #[.int .i64 0, .int .i64 0, .int .i64 0, .int .i64 0, .int .i64 0] 37)) := (Ext.refl _ _).alloc _
  have RB := Lib.hid (Blk.new w [.int .i64 0, .int .i64 0, .int .i64 0, .int .i64 0, .int .i64 0] 37)
  have CA := Lib.hid (rall_c _ rp bi bp bq nodes f (h.ext0 hx0))
  have HX0 := Lib.hid hx0
  have HLEN := Lib.hid (allK_len f 4096)
  generalize allK f 4096 = L at *
  clear h hx0
  go_enter Try.func22, Try.ntmps22
  go_wp2_with (go_at_call 17; refine (CA.out).mono ?_; rintro e w1 ⟨v, rfl, hr, hx⟩; have HX1 := Lib.hid hx; have HR1 := Lib.hid hr; have RB1 := Lib.hid (RB.out.ext hx (by simp)); obtain ⟨va, vc, rfl, _, _⟩ := ownsRow_form hr; clear hx hr)
  have hlen := HLEN.out
  go_loop [7] (fun i => ∃ k : Nat, k ≤ L.length ∧ i = .int .i64 k ∧ ∀ x, x ∈ L.take k → SpU.findIn page x = false) (fun i => L.length - (intOf i).toNat)
  case atStart => exact ⟨0, by omega, rfl, by simp⟩
  case round =>
    obtain ⟨k, hk, rfl, hno⟩ := hrel
    by_cases hlt : k < L.length
    · obtain ⟨n, hn⟩ : ∃ n, L.length = n + 1 := ⟨L.length - 1, by omega⟩
      have hR1 := HR1.out
      unfold GRow at hR1
      rw [hn] at hR1
      obtain ⟨g, cap, he⟩ := ownsRow_succ hR1
      injection he with he1 he2 he3
      subst he1 he3
      have hcell : ∀ j, j < 5 → w1.cell? ⟨g, k * 5 + j, none⟩ = (SpU.cells L[k])[j]? := fun j hj => by
        have h1 := hR1.cellAt (k * 5 + j) (by omega)
        rw [SpU.encS_at hlt hj] at h1; exact h1
      have c0 : w1.cell? ⟨g, k * 5, none⟩ = _ := hcell 0 (by omega)
      have c1 := hcell 1 (by omega)
      have c2 := hcell 2 (by omega)
      have c3 := hcell 3 (by omega)
      have c4 := hcell 4 (by omega)
      have hfa := fun h => find_at (q := SpU.findIn page) hlt hno h
      have hst : ∀ h : SpU.findIn page L[k] = false, ∀ x, x ∈ L.take (k + 1) → SpU.findIn page x = false := fun h x hx => by
        rw [List.take_succ_eq_append_getElem hlt] at hx
        rcases List.mem_append.1 hx with hx | hx
        · exact hno x hx
        · rw [List.mem_singleton.1 hx]; exact h
      generalize L[k] = x at *
      obtain ⟨xf, xt, xp, xk, xn⟩ := x
      unfold SpU.cells at c0 c1
      unfold SpU.cells at c2
      unfold SpU.cells at c3
      unfold SpU.cells at c4
      have HFA := Lib.hid hfa
      have HST := Lib.hid hst
      have i0 : (0 : Int) ≤ (k : Int) := by omega
      have i1 : (k : Int) < (L.length : Int) := by omega
      have HNO := Lib.hid hno
      clear hcell hn hR1 hfa hst hno
      by_cases h1 : (xf : Int) ≤ page
      · by_cases h2 : page < (xt : Int)
        · have hfn := HFA.out (by simp [SpU.findIn]; omega)
          have HFN := Lib.hid hfn
          have z0 := RB1.out.cell 0
          have z1 := RB1.out.cell 1
          have z2 := RB1.out.cell 2
          have z3 := RB1.out.cell 3
          have z4 := RB1.out.cell 4
          have y0 := RB1.out.frozen 0
          have y1 := RB1.out.frozen 1
          have y2 := RB1.out.frozen 2
          have y3 := RB1.out.frozen 3
          have y4 := RB1.out.frozen 4
          clear hfn
          go_wp2
          have F := (((((RB1.out.set 0 (.int .i64 (xf : Int))).set 1 (.int .i64 (xt : Int))).set 2 (.int .i64 xp)).set 3 (.int .i64 xk)).set 4 (.int .i64 xn))
          have t0 := F.cell 0
          have t1 := F.cell 1
          have t2 := F.cell 2
          have t3 := F.cell 3
          have t4 := F.cell 4
          simp only [List.set_cons_zero, List.set_cons_succ, List.getElem?_cons_zero, List.getElem?_cons_succ] at t0 t1 t2 t3 t4
          (try simp only [Exit.inBlock, Exit.then])
          refine bodyPost_ret (?_ : (results _ _).run _ _ = .ok (.tuple #[.agg #[.int .i64 (xf : Int), .int .i64 (xt : Int), .int .i64 xp, .int .i64 xk, .int .i64 xn], .bool true]) _) rfl ?_
          · rw [results_c1t rfl]
            simp [go_sem, t0, t1, t2, t3, t4]
          rw [HFN.out]
          exact ⟨rfl, ((((((HX0.out.trans HX1.out).setCell _ _ (.inr (Nat.le_refl _))).setCell _ _ (.inr (Nat.le_refl _))).setCell _ _ (.inr (Nat.le_refl _))).setCell _ _ (.inr (Nat.le_refl _))).setCell _ _ (.inr (Nat.le_refl _)))⟩
        · have hs := HST.out (by simp [SpU.findIn]; omega)
          have HS := Lib.hid hs
          clear hs
          go_wp2
          go_round
          case rel => exact ⟨k + 1, by omega, by go_num, HS.out⟩
          case measure => simp [intOf]; omega
      · have hs := HST.out (by simp [SpU.findIn]; omega)
        have HS := Lib.hid hs
        clear hs
        go_wp2
        go_round
        case rel => exact ⟨k + 1, by omega, by go_num, HS.out⟩
        case measure => simp [intOf]; omega
    · have hke : k = L.length := by omega
      rw [hke] at hno
      have HFN := Lib.hid (find_not hno)
      have hge : ¬ (k : Int) < (L.length : Int) := by omega
      have z0 := RB1.out.cell 0
      have z1 := RB1.out.cell 1
      have z2 := RB1.out.cell 2
      have z3 := RB1.out.cell 3
      have z4 := RB1.out.cell 4
      have y0 := RB1.out.frozen 0
      have y1 := RB1.out.frozen 1
      have y2 := RB1.out.frozen 2
      have y3 := RB1.out.frozen 3
      have y4 := RB1.out.frozen 4
      clear hno hke hlt
      go_wp2
      have F := (((((RB1.out.set 0 (.int .i64 0)).set 1 (.int .i64 0)).set 2 (.int .i64 0)).set 3 (.int .i64 0)).set 4 (.int .i64 0))
      have t0 := F.cell 0
      have t1 := F.cell 1
      have t2 := F.cell 2
      have t3 := F.cell 3
      have t4 := F.cell 4
      simp only [List.set_cons_zero, List.set_cons_succ, List.getElem?_cons_zero, List.getElem?_cons_succ] at t0 t1 t2 t3 t4
      (try simp only [Exit.inBlock, Exit.then])
      refine bodyPost_ret (?_ : (results _ _).run _ _ = .ok (.tuple #[.agg #[.int .i64 0, .int .i64 0, .int .i64 0, .int .i64 0, .int .i64 0], .bool false]) _) rfl ?_
      · rw [results_c1t rfl]
        simp [go_sem, t0, t1, t2, t3, t4]
      rw [HFN.out]
      exact ⟨rfl, ((((((HX0.out.trans HX1.out).setCell _ _ (.inr (Nat.le_refl _))).setCell _ _ (.inr (Nat.le_refl _))).setCell _ _ (.inr (Nat.le_refl _))).setCell _ _ (.inr (Nat.le_refl _))).setCell _ _ (.inr (Nat.le_refl _)))⟩

end Go.Proofs.Ytjicpblncfgiaaa
