/-
  Spans' reference: Runs.
-/
import Derived.Test.YtkcaheedhbgmnaaRefA
import Derived.Deep.QuietTactic
import Derived.BigQuiet
namespace Go.Proofs.Ytkcaheedhbgmnaa
set_option linter.unusedVariables false
set_option linter.unusedSimpArgs false
open Go.RowKit SpT
set_option maxHeartbeats 4000000
set_option maxRecDepth 100000
set_option linter.unusedSectionVars false

/-- A new row of intervals. -/
def RRow (w : World) (l : List (Sp Int)) (e : Ending) (w' : World) : Prop := ∃ v, e = .returned v ∧ SpR.SRow w' w.heap.size v l ∧ Ext [] w w'

theorem runsK_len (f : Nat → Int) (a : Nat) : ∀ k, (runsK f a k).length ≤ k
  | 0 => Nat.le_refl _
  | k + 1 => by
    have h1 := runsK_len f a k
    have h2 := put_len (runsK f a k) (unitS f (a + k))
    show (put (runsK f a k) (unitS f (a + k))).length ≤ k + 1
    omega

theorem runs_c (w : World) (br bv : Nat) (f : Nat → Int) (h : R8 w br bv f) (a b : Int) : Calls Try.prog 54 #[.pointer (some ⟨br, 0, none⟩), .int .i64 a, .int .i64 b] w (RRow w (runsR f a b)) := by
  unfold runsR
  have CM := Lib.hid (fun w => rmay_c a b w)
  have H := Lib.hid h
  clear h
  cases hb : okR a b
  · rw [hb] at CM
    rw [if_neg (by simp)]
    clear hb
    go_enter Try.func54, Try.ntmps54
    go_wp2_with (go_at_call 33; refine (CM.out _).mono ?_; rintro e w' ⟨rfl, rfl⟩)
    go_ret
    exact ⟨_, rfl, World.ownsRow_nil _ _ _ _, Ext.refl _ _⟩
  · rw [hb] at CM
    have hb' := hb
    simp [okR] at hb'
    obtain ⟨x, y, rfl, rfl, hxy, hy⟩ : ∃ x y : Nat, a = x ∧ b = y ∧ x < y ∧ y ≤ 4096 := ⟨a.toNat, b.toNat, by omega, by omega, by omega, by omega⟩
    rw [if_pos rfl]
    have e1 : (x : Int).toNat = x := by omega
    have e2 : (y : Int).toNat = y := by omega
    rw [e1, e2]
    clear hb hb' e1 e2
    go_enter Try.func54, Try.ntmps54
    go_wp2_with (go_at_call 33; refine (CM.out _).mono ?_; rintro e w' ⟨rfl, rfl⟩)
    go_loopw [7, 8] (fun v p wr => ∃ k : Nat, k ≤ y - x ∧ p = .int .i64 ((x + k : Nat) : Int) ∧ Ext [] w wr ∧ SpR.SRow wr w.heap.size v (runsK f x k)) (fun _ p _ => y - (intOf p).toNat)
    case atStart => exact ⟨0, by omega, rfl, Ext.refl _ _, World.ownsRow_nil _ _ _ _⟩
    case round =>
      obtain ⟨k, hk, rfl, hx, ho⟩ := hrel
      by_cases hlt : x + k < y
      · have hR := H.out.ext0 hx
        have k0 := hR.head.cell 0
        have kv := hR.vals.cell (k := x + k) (by omega)
        have hkl := runsK_len f x k
        have HX := Lib.hid hx
        have hsz := hx.size
        have HP := Lib.hid (show x + (k + 1) = x + k + 1 from rfl)
        have i0 : (0 : Int) ≤ ((x + k : Nat) : Int) := by omega
        have i1 : ((x + k : Nat) : Int) < 4096 := by omega
        have i2 : ((x + k : Nat) : Int) < ((y : Nat) : Int) := by omega
        have hbv := hR.vals.lt
        have hbr := hR.head.lt
        rcases List.eq_nil_or_concat (runsK f x k) with e | ⟨l0, z, e⟩
        · have HN := Lib.hid (show runsK f x (k + 1) = [] ++ [⟨x + k, x + k + 1, f (x + k)⟩] by
            show put (runsK f x k) (unitS f (x + k)) = _
            rw [e, put_nil]; rfl)
          rw [e] at ho
          have ho : wr.ownsRow w.heap.size 58 3 u7 0 [] := ho
          obtain ⟨va, vc, rfl, hvc, hvm⟩ := ownsRow_form ho
          generalize f (x + k) = fv at *
          generalize hp : x + k = p at *
          clear hx e hR
          go_wp2
          go_quiet (fail)
          go_wp2_with (at_builtin; refine wpList_app SpR.T_span (ownsRow_ext ho (((Ext.refl [] wr).drewN _).alloc _) (by simp)) (SpR.lit_at _ 3 1 [.int .i64 (p : Int), .int .i64 (p : Int), .int .i64 fv] 58 (by decide) rfl (by simp)) rfl rfl rfl rfl rfl (by simp [Value.oneCell']) (by unfold maxLen; omega) (by omega) (by simp; omega) ?_; intro v' w' hown' hext' hnew'; obtain ⟨g', vc', rfl⟩ := ownsRow_succ hown'; have hc1 := hown'.cellAt 1 (by omega); have hf1 := hown'.frozenAt 1)
          go_roundw
          case rel =>
            refine ⟨k + 1, by omega, by rw [HP.out]; exact int_eq (by omega), ?_, ?_⟩
            · exact ((((HX.out.drewN _).alloc _).step hext' (fun i hi => .inr (ho.lt i (of_mem_own hi)).1))).setCell _ _ (.inr (hown'.lt g' rfl).1)
            · rw [HN.out]
              have h2 := (hown'.stored 1 (.int .i64 ((p : Int) + 1))).1
              exact h2
          case measure => simp [intOf]; omega
        · rw [List.concat_eq_append] at e
          have hst := runsK_more (f := f) (a := x) (k := k) (by omega) e
          rw [e] at ho hkl
          have hlen : (l0 ++ [z]).length = l0.length + 1 := by simp
          unfold SpR.SRow at ho
          rw [hlen] at ho hkl
          rw [SpR.encS_snoc] at ho
          obtain ⟨g, cap, rfl⟩ := ownsRow_succ ho
          have hi : (SpR.encS l0).length = l0.length * 3 := SpR.encS_len l0
          have hy1 := ho.cellAt (l0.length * 3 + 1) (by omega)
          have hy2 := ho.cellAt (l0.length * 3 + 2) (by omega)
          have hf1 := ho.frozenAt (l0.length * 3 + 1)
          rw [List.getElem?_append_right (by omega), hi, Nat.add_sub_cancel_left] at hy1
          rw [List.getElem?_append_right (by omega), hi, Nat.add_sub_cancel_left] at hy2
          obtain ⟨zf, zt, zv⟩ := z
          unfold SpR.cells at hy1 hy2
          have Ho := Lib.hid ho
          have hgl := ho.lt g rfl
          have HE := Lib.hid hi
          generalize hn : l0.length = n at *
          have Hn := Lib.hid hn
          have b0 : (0 : Int) ≤ (n : Int) := by omega
          have b1 : (n : Int) < (n : Int) + 1 := by omega
          have hn4 : n ≤ 4096 := by omega
          clear hi hlen hn e hx hR
          generalize f (x + k) = fv at *
          generalize hp : x + k = p at *
          have HK := Lib.hid (⟨hk, hlt, hxy, hy, hkl, hp⟩ : k ≤ y - x ∧ p < y ∧ x < y ∧ y ≤ 4096 ∧ n + 1 ≤ k ∧ x + k = p)
          have hsz1 : w.heap.size ≤ wr.heap.size := hsz
          clear hk hlt hxy hy hkl hp
          have q0 : (((n : Int) + 1) == 0) = false := by simp; omega
          have hw : IntKind.i64.wrap (n : Int) = (n : Int) := by rw [IntKind.wrap_i64]; omega
          by_cases hv : zv = fv
          · have HN := Lib.hid (show runsK f x (k + 1) = l0 ++ [⟨zf, p + 1, zv⟩] by rw [hst, if_pos hv])
            have q1 : (zv == fv) = true := by simp [hv]
            have q2 : (zv != fv) = false := by simp [hv]
            clear hst ho
            go_wp2
            go_quiet (fail)
            go_wp2
            go_roundw
            case rel =>
              refine ⟨k + 1, by have := HK.out; omega, by have := HK.out; rw [HP.out]; exact int_eq (by omega), ?_, ?_⟩
              · exact (HX.out.drewN _).setCell _ _ (.inr hgl.1)
              · rw [HN.out]
                have h2 := ((ownsRow_ext Ho.out ((Ext.refl [] wr).drewN nq) (by simp)).stored (n * 3 + 1) (.int .i64 ((p : Int) + 1))).1
                rw [List.set_append_right _ _ (by rw [HE.out]; omega), HE.out, Nat.add_sub_cancel_left] at h2
                show World.ownsRow _ _ _ _ _ (l0 ++ [(⟨zf, p + 1, zv⟩ : Sp Int)]).length (SpR.encS (l0 ++ [⟨zf, p + 1, zv⟩]))
                rw [SpR.encS_snoc]
                simp only [List.length_append, List.length_cons, List.length_nil, Hn.out]
                exact h2
            case measure => have := HK.out; simp [intOf]; omega
          · have HN := Lib.hid (show runsK f x (k + 1) = l0 ++ [(⟨zf, zt, zv⟩ : Sp Int)] ++ [(⟨p, p + 1, fv⟩ : Sp Int)] by rw [hst, if_neg hv])
            have q1 : (zv == fv) = false := by simp [hv]
            have q2 : (zv != fv) = true := by simp [hv]
            clear hst ho
            go_wp2
            go_quiet (fail)
            go_wp2_with (at_builtin; refine wpList_app SpR.T_span (ownsRow_ext Ho.out (((Ext.refl [] wr).drewN _).alloc _) (by simp)) (SpR.lit_at _ 3 1 [.int .i64 (p : Int), .int .i64 (p : Int), .int .i64 fv] 58 (by decide) rfl (by simp)) rfl rfl rfl rfl rfl (by simp [Value.oneCell']) (by unfold maxLen; omega) (by omega) (by simp; omega) ?_; intro v' w' hown' hext' hnew'; obtain ⟨g', vc', rfl⟩ := ownsRow_succ hown'; have hlx := HE.out; have hc1 := hown'.cellAt ((n + 1) * 3 + 1) (by omega); rw [List.getElem?_append_right (by simp [SpR.cells]; omega), show (SpR.encS l0 ++ SpR.cells (⟨zf, zt, zv⟩ : Sp Int)).length = (n + 1) * 3 by simp [SpR.cells]; omega, Nat.add_sub_cancel_left] at hc1; have hf1 := hown'.frozenAt ((n + 1) * 3 + 1); clear hlx)
            go_roundw
            case rel =>
              refine ⟨k + 1, by have := HK.out; omega, by have := HK.out; rw [HP.out]; exact int_eq (by omega), ?_, ?_⟩
              · exact ((((HX.out.drewN _).alloc _).step hext' (fun i hi => .inr (Ho.out.lt i (of_mem_own hi)).1))).setCell _ _ (.inr (hown'.lt g' rfl).1)
              · rw [HN.out]
                have h2 := (hown'.stored ((n + 1) * 3 + 1) (.int .i64 ((p : Int) + 1))).1
                have hlx : (SpR.encS l0 ++ SpR.cells (⟨zf, zt, zv⟩ : Sp Int)).length = (n + 1) * 3 := by have := HE.out; simp [SpR.cells]; omega
                rw [List.set_append_right _ _ (by rw [hlx]; omega), hlx, Nat.add_sub_cancel_left] at h2
                show World.ownsRow _ _ _ _ _ (l0 ++ [(⟨zf, zt, zv⟩ : Sp Int)] ++ [(⟨p, p + 1, fv⟩ : Sp Int)]).length (SpR.encS (l0 ++ [(⟨zf, zt, zv⟩ : Sp Int)] ++ [(⟨p, p + 1, fv⟩ : Sp Int)]))
                rw [SpR.encS_snoc, SpR.encS_snoc]
                simp only [List.length_append, List.length_cons, List.length_nil, Hn.out]
                exact h2
            case measure => have := HK.out; simp [intOf]; omega
      · obtain rfl : k = y - x := by omega
        have HX := Lib.hid hx
        clear hx
        go_wp2
        go_ret
        exact ⟨_, rfl, ho, HX.out⟩

end Go.Proofs.Ytkcaheedhbgmnaa
