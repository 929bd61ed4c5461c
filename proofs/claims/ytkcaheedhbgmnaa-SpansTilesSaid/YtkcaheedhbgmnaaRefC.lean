/-
  Spans' reference: Within, Gaps, Find.
-/
import Derived.Test.YtkcaheedhbgmnaaRefB
import Derived.Laws.ResultCell
namespace Go.Proofs.Ytkcaheedhbgmnaa
set_option linter.unusedVariables false
set_option linter.unusedSimpArgs false
open Go.RowKit SpT
set_option maxHeartbeats 4000000
set_option maxRecDepth 100000
set_option linter.unusedSectionVars false

theorem runsR_len (f : Nat → Int) (a b : Int) : (runsR f a b).length ≤ 4096 := (runsR_ok f a b).1.len
theorem rtake_snoc {l : List (Sp Int)} {k : Nat} (h : k < l.length) : l.take (k + 1) = l.take k ++ [l[k]] := List.take_succ_eq_append_getElem h

theorem rwithin_c (w : World) (br bv : Nat) (f : Nat → Int) (h : R8 w br bv f) (a b : Int) : Calls Try.prog 14 #[.pointer (some ⟨br, 0, none⟩), .int .i64 a, .int .i64 b] w (RRow w (inR8 f a b)) := by
  have CR := Lib.hid (runs_c w br bv f h a b)
  have hL := runsR_len f a b
  unfold inR8
  generalize runsR f a b = L at *
  clear h
  go_enter Try.func14, Try.ntmps14
  go_wp2_with (go_at_call 54; refine (CR.out).mono ?_; rintro e w1 ⟨v1, rfl, hr, hx1⟩; obtain ⟨a1, c1, rfl, _, _⟩ := ownsRow_form hr; have HR := Lib.hid hr; have HX1 := Lib.hid hx1; clear hr hx1)
  go_loopw [7, 9] (fun v i wr => ∃ k : Nat, k ≤ L.length ∧ i = .int .i64 k ∧ Ext [] w1 wr ∧ SpR.SRow wr w1.heap.size v ((L.take k).filter (fun x => decide (x.v ≠ NoV)))) (fun _ i _ => L.length - (intOf i).toNat)
  case atStart => exact ⟨0, by omega, rfl, Ext.refl _ _, World.ownsRow_nil _ _ _ _⟩
  case round =>
    obtain ⟨k, hk, rfl, hx, ho⟩ := hrel
    by_cases hlt : k < L.length
    · obtain ⟨m, hm⟩ : ∃ m, L.length = m + 1 := ⟨L.length - 1, by omega⟩
      have hR1 := ownsRow_ext HR.out hx (by simp)
      have hR1' := hR1
      rw [hm] at hR1'
      obtain ⟨g, cap, he⟩ := ownsRow_succ hR1'
      injection he with he1 he2 he3
      subst he1 he3
      have hcell : ∀ j, j < 3 → wr.cell? ⟨g, k * 3 + j, none⟩ = (SpR.cells L[k])[j]? := fun j hj => by
        have h1 := hR1.cellAt (k * 3 + j) (by rw [hm]; omega)
        rw [SpR.encS_at hlt hj] at h1; exact h1
      have hts := rtake_snoc hlt
      obtain ⟨x, hxd⟩ : ∃ x, x = L[k] := ⟨_, rfl⟩
      rw [← hxd] at hcell hts
      have hc0 : wr.cell? ⟨g, k * 3, none⟩ = _ := hcell 0 (by omega)
      have hc1 := hcell 1 (by omega)
      have hc2 := hcell 2 (by omega)
      have hi0 : (0 : Int) ≤ (k : Int) := by omega
      have hi1 : (k : Int) < (L.length : Int) := by omega
      have hfl : ((L.take k).filter (fun x => decide (x.v ≠ NoV))).length ≤ k := Nat.le_trans (List.length_filter_le _ _) (List.length_take_le _ _)
      have HX := Lib.hid hx
      have hsz := hx.size
      have HT := Lib.hid (show (L.take (k + 1)).filter (fun x => decide (x.v ≠ NoV)) = (L.take k).filter (fun x => decide (x.v ≠ NoV)) ++ (if x.v ≠ NoV then [x] else []) by
        rw [hts, List.filter_append]
        congr 1
        by_cases h : x.v ≠ NoV <;> simp [h])
      generalize (L.take k).filter (fun x => decide (x.v ≠ NoV)) = F at *
      obtain ⟨xf, xt, xv⟩ := x
      unfold SpR.cells at hc0 hc1 hc2
      have HO := Lib.hid ho
      clear hcell hts hxd hR1 hR1' hm hx ho
      by_cases hv : xv = -4611686018427387904
      · subst hv
        have hT := HT.out
        rw [if_neg (show ¬ (-4611686018427387904 : Int) ≠ NoV from fun h => h rfl)] at hT
        have HT2 := Lib.hid hT
        clear hT HT
        go_wp2
        go_roundw
        case rel => exact ⟨k + 1, by omega, by go_num, HX.out, by rw [HT2.out, List.append_nil]; exact HO.out⟩
        case measure => simp [intOf]; omega
      · have q1 : (xv == -4611686018427387904) = false := by simp [hv]
        have q2 : (xv != -4611686018427387904) = true := by simp [hv]
        have hT := HT.out
        rw [if_pos (show xv ≠ NoV from hv)] at hT
        have HT2 := Lib.hid hT
        clear hT HT hv
        go_wp2_with (at_builtin; refine wpList_app SpR.T_span (ownsRow_ext HO.out ((Ext.refl [] wr).alloc _) (by simp)) (SpR.lit_at _ 3 1 [.int .i64 (xf : Int), .int .i64 (xt : Int), .int .i64 xv] 58 (by decide) rfl (by simp)) rfl rfl rfl rfl rfl (by simp [Value.oneCell']) (by unfold maxLen; omega) (by omega) (by simp; omega) ?_; intro v' w' hown' hext' hnew')
        go_roundw
        case rel =>
          refine ⟨k + 1, by omega, by go_num, (HX.out.alloc _).step hext' (fun i hi => .inr (HO.out.lt i (of_mem_own hi)).1), ?_⟩
          rw [HT2.out]
          show World.ownsRow _ _ _ _ _ (F ++ [(⟨xf, xt, xv⟩ : Sp Int)]).length (SpR.encS (F ++ [(⟨xf, xt, xv⟩ : Sp Int)]))
          rw [SpR.encS_snoc, List.length_append]
          exact hown'
        case measure => simp [intOf]; omega
    · obtain rfl : k = L.length := by omega
      rw [List.take_length] at ho
      have HX := Lib.hid hx
      clear hx
      go_wp2
      go_ret
      exact ⟨_, rfl, ownsRow_base ho HX1.out.size, HX1.out.trans HX.out⟩

theorem rgaps_c (w : World) (br bv : Nat) (f : Nat → Int) (h : R8 w br bv f) (a b : Int) : Calls Try.prog 44 #[.pointer (some ⟨br, 0, none⟩), .int .i64 a, .int .i64 b] w (RRow w (outR8 f a b)) := by
  have CR := Lib.hid (runs_c w br bv f h a b)
  have hL := runsR_len f a b
  unfold outR8
  generalize runsR f a b = L at *
  clear h
  go_enter Try.func44, Try.ntmps44
  go_wp2_with (go_at_call 54; refine (CR.out).mono ?_; rintro e w1 ⟨v1, rfl, hr, hx1⟩; obtain ⟨a1, c1, rfl, _, _⟩ := ownsRow_form hr; have HR := Lib.hid hr; have HX1 := Lib.hid hx1; clear hr hx1)
  go_loopw [7, 9] (fun v i wr => ∃ k : Nat, k ≤ L.length ∧ i = .int .i64 k ∧ Ext [] w1 wr ∧ SpR.SRow wr w1.heap.size v ((L.take k).filter (fun x => decide (x.v = NoV)))) (fun _ i _ => L.length - (intOf i).toNat)
  case atStart => exact ⟨0, by omega, rfl, Ext.refl _ _, World.ownsRow_nil _ _ _ _⟩
  case round =>
    obtain ⟨k, hk, rfl, hx, ho⟩ := hrel
    by_cases hlt : k < L.length
    · obtain ⟨m, hm⟩ : ∃ m, L.length = m + 1 := ⟨L.length - 1, by omega⟩
      have hR1 := ownsRow_ext HR.out hx (by simp)
      have hR1' := hR1
      rw [hm] at hR1'
      obtain ⟨g, cap, he⟩ := ownsRow_succ hR1'
      injection he with he1 he2 he3
      subst he1 he3
      have hcell : ∀ j, j < 3 → wr.cell? ⟨g, k * 3 + j, none⟩ = (SpR.cells L[k])[j]? := fun j hj => by
        have h1 := hR1.cellAt (k * 3 + j) (by rw [hm]; omega)
        rw [SpR.encS_at hlt hj] at h1; exact h1
      have hts := rtake_snoc hlt
      obtain ⟨x, hxd⟩ : ∃ x, x = L[k] := ⟨_, rfl⟩
      rw [← hxd] at hcell hts
      have hc0 : wr.cell? ⟨g, k * 3, none⟩ = _ := hcell 0 (by omega)
      have hc1 := hcell 1 (by omega)
      have hc2 := hcell 2 (by omega)
      have hi0 : (0 : Int) ≤ (k : Int) := by omega
      have hi1 : (k : Int) < (L.length : Int) := by omega
      have hfl : ((L.take k).filter (fun x => decide (x.v = NoV))).length ≤ k := Nat.le_trans (List.length_filter_le _ _) (List.length_take_le _ _)
      have HX := Lib.hid hx
      have hsz := hx.size
      have HT := Lib.hid (show (L.take (k + 1)).filter (fun x => decide (x.v = NoV)) = (L.take k).filter (fun x => decide (x.v = NoV)) ++ (if x.v = NoV then [x] else []) by
        rw [hts, List.filter_append]
        congr 1
        by_cases h : x.v = NoV <;> simp [h])
      generalize (L.take k).filter (fun x => decide (x.v = NoV)) = F at *
      obtain ⟨xf, xt, xv⟩ := x
      unfold SpR.cells at hc0 hc1 hc2
      have HO := Lib.hid ho
      clear hcell hts hxd hR1 hR1' hm hx ho
      by_cases hv : xv = -4611686018427387904
      · subst hv
        have hT := HT.out
        rw [if_pos (show (-4611686018427387904 : Int) = NoV from rfl)] at hT
        have HT2 := Lib.hid hT
        clear hT HT
        go_wp2_with (at_builtin; refine wpList_app SpR.T_span (ownsRow_ext HO.out ((Ext.refl [] wr).alloc _) (by simp)) (SpR.lit_at _ 3 1 [.int .i64 (xf : Int), .int .i64 (xt : Int), .int .i64 (-4611686018427387904)] 58 (by decide) rfl (by simp)) rfl rfl rfl rfl rfl (by simp [Value.oneCell']) (by unfold maxLen; omega) (by omega) (by simp; omega) ?_; intro v' w' hown' hext' hnew')
        go_roundw
        case rel =>
          refine ⟨k + 1, by omega, by go_num, (HX.out.alloc _).step hext' (fun i hi => .inr (HO.out.lt i (of_mem_own hi)).1), ?_⟩
          rw [HT2.out]
          show World.ownsRow _ _ _ _ _ (F ++ [(⟨xf, xt, (-4611686018427387904)⟩ : Sp Int)]).length (SpR.encS (F ++ [(⟨xf, xt, (-4611686018427387904)⟩ : Sp Int)]))
          rw [SpR.encS_snoc, List.length_append]
          exact hown'
        case measure => simp [intOf]; omega
      · have q1 : (xv == -4611686018427387904) = false := by simp [hv]
        have q2 : (xv != -4611686018427387904) = true := by simp [hv]
        have hT := HT.out
        rw [if_neg (show ¬ xv = NoV from hv)] at hT
        have HT2 := Lib.hid hT
        clear hT HT hv
        go_wp2
        go_roundw
        case rel => exact ⟨k + 1, by omega, by go_num, HX.out, by rw [HT2.out, List.append_nil]; exact HO.out⟩
        case measure => simp [intOf]; omega
    · obtain rfl : k = L.length := by omega
      rw [List.take_length] at ho
      have HX := Lib.hid hx
      clear hx
      go_wp2
      go_ret
      exact ⟨_, rfl, ownsRow_base ho HX1.out.size, HX1.out.trans HX.out⟩

end Go.Proofs.Ytkcaheedhbgmnaa
