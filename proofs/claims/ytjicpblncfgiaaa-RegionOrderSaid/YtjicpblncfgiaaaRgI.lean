/-
  Region's reference: All.
-/
import Derived.Test.YtjicpblncfgiaaaRgI0
namespace Go.Proofs.Ytjicpblncfgiaaa
set_option linter.unusedVariables false
set_option linter.unusedSimpArgs false
open Go.RowKit RgT SpT
set_option maxHeartbeats 4000000
set_option maxRecDepth 100000
set_option linter.unusedVariables false
set_option linter.unusedSimpArgs false

theorem rall_c (w : World) (rp bi bp bq : Nat) (nodes : Int) (f : Nat → Option U) (h : RefIs w rp bi bp bq nodes f) :
    Calls Try.prog 17 #[.pointer (some ⟨rp, 0, none⟩)] w (GNew w (allK f 4096)) := by
  have H := Lib.hid h
  have lt0 := h.head.lt
  have lt1 := h.is_.lt
  have lt2 := h.perm.lt
  have lt3 := h.pol.lt
  clear h
  go_enter Try.func17, Try.ntmps17
  go_wp2
  go_loopw [3, 4] (fun v p wr => ∃ k : Nat, k ≤ 4096 ∧ p = .int .i64 (k : Int) ∧ Ext [] w wr ∧ GRow wr w.heap.size v (allK f k)) (fun _ p _ => 4096 - (intOf p).toNat)
  case atStart => exact ⟨0, by omega, rfl, Ext.refl _ _, World.ownsRow_nil _ _ _ _⟩
  case round =>
    obtain ⟨k, hk, rfl, hx, ho⟩ := hrel
    by_cases hlt : k < 4096
    · have hR := H.out.ext0 hx
      have r1 := hR.head.cell 1
      have iC := hR.is_.cell hlt
      have hkl := allK_len f k
      have HX := Lib.hid hx
      have hsz := hx.size
      have i0 : (0 : Int) ≤ (k : Int) := by omega
      have i1 : (k : Int) < 4096 := by omega
      cases hf : f k with
      | none =>
        have e : isB f k = false := by simp [isB, hf]
        rw [e] at iC
        have HN := Lib.hid (allK_none hf)
        have HO := Lib.hid ho
        clear e hf hx hR ho
        go_wp2
        go_roundw
        case rel => exact ⟨k + 1, by omega, by go_num, HX.out, by rw [HN.out]; exact HO.out⟩
        case measure => simp [intOf]; omega
      | some u =>
        obtain ⟨ua, ub, uc⟩ := u
        have e : isB f k = true := by simp [isB, hf]
        have e2 : pmI f k = ua := by simp [pmI, hf]
        have e3 : plI f k = (ub, uc) := by simp [plI, hf]
        rw [e] at iC
        have r2 := hR.head.cell 2
        have r3 := hR.head.cell 3
        have jC := hR.perm.cell hlt
        have kC := hR.pol.cell (k := k * 2) (by omega)
        have kD := hR.pol.cell (k := k * 2 + 1) (by omega)
        rw [polF_0, e3] at kC
        rw [polF_1, e3] at kD
        rw [e2] at jC
        simp only [] at kC kD
        have HR := Lib.hid hR
        have HPM := Lib.hid (show Value.int .i64 (pmI f k) = .int .i64 ua by rw [e2])
        have HP0 := Lib.hid (show polF (plI f) (k * 2) = .int .i64 ub by rw [polF_0, e3])
        have HP1 := Lib.hid (show polF (plI f) (k * 2 + 1) = .int .i64 uc by rw [polF_1, e3])
        clear e e2 e3
        rcases List.eq_nil_or_concat (allK f k) with e | ⟨l0, z, e⟩
        · have HN := Lib.hid (allK_first hf e)
          rw [e] at ho
          have ho : wr.ownsRow w.heap.size 37 5 u3 0 [] := ho
          obtain ⟨va, vc, rfl, hvc, hvm⟩ := ownsRow_form ho
          have HO := Lib.hid ho
          have HF := Lib.hid hf
          clear hx e hR hf ho
          go_wp2
          go_quiet (fail)
          go_wp2
          have HRd := Lib.hid (HR.out.ext0 (((Ext.refl [] wr).drewN nq).drew))
          have HOd := Lib.hid (ownsRow_ext HO.out (((Ext.refl [] wr).drewN nq).drew) (by simp))
          have HLT := Lib.hid (fun b (h : b ∈ own (Value.slice va 0 vc)) => HO.out.lt b (of_mem_own h))
          have HB := Lib.hid (⟨lt0, lt1, lt2, lt3⟩ : rp < w.heap.size ∧ bi < w.heap.size ∧ bp < w.heap.size ∧ bq < w.heap.size)
          go_region_held3 (fun cur => cur.cell? ⟨rp, 2, none⟩ = some (.slice (some ⟨bp, 0, none⟩) 4096 4096) ∧ cur.cell? ⟨rp, 3, none⟩ = some (.slice (some ⟨bq, 0, none⟩) 4096 4096) ∧ cur.cell? ⟨bp, k, none⟩ = some (.int .i64 ua) ∧ cur.cell? ⟨bq, k * 2, none⟩ = some (.int .i64 ub) ∧ cur.cell? ⟨bq, k * 2 + 1, none⟩ = some (.int .i64 uc))
            (first | go_keep | exact ⟨HRE.out.head.cell 2, HRE.out.head.cell 3, by rw [HRE.out.perm.cell hlt, HPM.out], by rw [HRE.out.pol.cell (by omega), HP0.out], by rw [HRE.out.pol.cell (by omega), HP1.out]⟩)
            ((refine step_app T_reg (ownsRow_ext HOd.out ((Ext.refl [] _).alloc _) (by simp)) (SpU.lit_at (H := wr.heap.size) _ 5 1 [.int .i64 (k : Int), .int .i64 0, .int .i64 ua, .int .i64 ub, .int .i64 uc] 37 (by decide) (by rfl) (by simp)) (by rfl) (by rfl) (by rfl) (by rfl) (by rfl) (by simp [Value.oneCell']) (by unfold maxLen; omega) (by omega) (by simp; omega) ?_; intro v' w' hown' hext' hnew'; have HRE := Lib.hid ((HRd.out.ext0 ((Ext.refl [] _).alloc (.cells #[.int .i64 (k : Int), .int .i64 0, .int .i64 ua, .int .i64 ub, .int .i64 uc] 37))).ext hext' (fun h => by have := HLT.out _ h; have := HB.out; omega) (fun h => by have := HLT.out _ h; have := HB.out; omega) (fun h => by have := HLT.out _ h; have := HB.out; omega) (fun h => by have := HLT.out _ h; have := HB.out; omega)); have HXE := Lib.hid hext'; have HOE := Lib.hid hown'; clear hown' hext' hnew'))
          obtain ⟨g', vc', rfl⟩ := ownsRow_succ HOE.out
          have hc1 := HOE.out.cellAt 1 (by omega)
          have hf1 := HOE.out.frozenAt 1
          clear r1 r2 r3 iC jC kC kD
          go_wp2
          go_roundw
          case rel =>
            refine ⟨k + 1, by omega, by go_num, ?_, ?_⟩
            · exact ((((HX.out.drewN _).drew.alloc _).step HXE.out (fun i hi => .inr (HLT.out _ hi).1))).setCell _ _ (.inr (HOE.out.lt g' rfl).1)
            · rw [HN.out]
              have h2 := (HOE.out.stored 1 (.int .i64 ((k : Int) + 1))).1
              exact h2
          case measure => simp [intOf]; omega
        · rw [List.concat_eq_append] at e
          have hst := allK_more hf e
          rw [e] at ho hkl
          have hlen : (l0 ++ [z]).length = l0.length + 1 := by simp
          unfold GRow at ho
          rw [hlen] at ho hkl
          rw [SpU.encS_snoc] at ho
          obtain ⟨g, cap, rfl⟩ := ownsRow_succ ho
          have hi : (SpU.encS l0).length = l0.length * 5 := SpU.encS_len l0
          have hy1 := ho.cellAt (l0.length * 5 + 1) (by omega)
          have hy2 := ho.cellAt (l0.length * 5 + 2) (by omega)
          have hy3 := ho.cellAt (l0.length * 5 + 3) (by omega)
          have hy4 := ho.cellAt (l0.length * 5 + 4) (by omega)
          have hf1 := ho.frozenAt (l0.length * 5 + 1)
          rw [List.getElem?_append_right (by omega), hi, Nat.add_sub_cancel_left] at hy1
          rw [List.getElem?_append_right (by omega), hi, Nat.add_sub_cancel_left] at hy2
          rw [List.getElem?_append_right (by omega), hi, Nat.add_sub_cancel_left] at hy3
          rw [List.getElem?_append_right (by omega), hi, Nat.add_sub_cancel_left] at hy4
          obtain ⟨zf, zt, za, zb, zc⟩ := z
          unfold SpU.cells at hy1 hy2
          unfold SpU.cells at hy3
          unfold SpU.cells at hy4
          have HO := Lib.hid ho
          have hgl := ho.lt g rfl
          have HE := Lib.hid hi
          generalize hn : l0.length = n at *
          have Hn := Lib.hid hn
          have b0 : (0 : Int) ≤ (n : Int) := by omega
          have b1 : (n : Int) < (n : Int) + 1 := by omega
          have hn4 : n ≤ 4096 := by omega
          have HF := Lib.hid hf
          clear hi hlen hn e hx hR hf ho
          have q0 : (((n : Int) + 1) == 0) = false := by simp; omega
          have hw : IntKind.i64.wrap (n : Int) = (n : Int) := by rw [IntKind.wrap_i64]; omega
          by_cases hv : zt = k ∧ ((za, zb, zc) : U) = (ua, ub, uc)
          · have HN := Lib.hid (show allK f (k + 1) = l0 ++ [⟨zf, k + 1, (za, zb, zc)⟩] by rw [hst, if_pos hv])
            obtain ⟨hv1, hv2⟩ := hv
            subst hv1
            injection hv2 with hv2 hv3
            injection hv3 with hv3 hv4
            subst hv2 hv3 hv4
            have q1 : ((zt : Int) != (zt : Int)) = false := by simp
            have q2 : (za != za) = false := by simp
            have q3 := fun w => eqP (zb, zc) w
            clear hst
            go_wp2
            go_quiet (fail)
            go_wp2
            go_roundw
            case rel =>
              refine ⟨zt + 1, by omega, by go_num, ?_, ?_⟩
              · exact (HX.out.drewN _).setCell _ _ (.inr hgl.1)
              · rw [HN.out]
                have h2 := ((ownsRow_ext HO.out ((Ext.refl [] wr).drewN nq) (by simp)).stored (n * 5 + 1) (.int .i64 ((zt : Int) + 1))).1
                rw [List.set_append_right _ _ (by rw [HE.out]; omega), HE.out, Nat.add_sub_cancel_left] at h2
                show World.ownsRow _ _ _ _ _ (l0 ++ [(⟨zf, zt + 1, za, zb, zc⟩ : Sp U)]).length (SpU.encS (l0 ++ [⟨zf, zt + 1, za, zb, zc⟩]))
                rw [SpU.encS_snoc]
                simp only [List.length_append, List.length_cons, List.length_nil, Hn.out]
                exact h2
            case measure => simp [intOf]; omega
          · have HN := Lib.hid (show allK f (k + 1) = l0 ++ [(⟨zf, zt, (za, zb, zc)⟩ : Sp U)] ++ [(⟨k, k + 1, (ua, ub, uc)⟩ : Sp U)] by rw [hst, if_neg hv])
            have hcase : ((zt : Int) != (k : Int)) = true ∨ ((zt : Int) != (k : Int)) = false ∧ ((za != ua) = true ∨ (za != ua) = false ∧ ((zb, zc) : Int × Int) ≠ (ub, uc)) := by
              by_cases h1 : zt = k
              · refine .inr ⟨by simp [h1], ?_⟩
                by_cases h2 : za = ua
                · exact .inr ⟨by simp [h2], fun h3 => hv ⟨h1, by rw [h2, h3]⟩⟩
                · exact .inl (by simp [h2])
              · exact .inl (by simp; omega)
            clear hst hv
            rcases hcase with q1 | ⟨q1, q2 | ⟨q2, hq⟩⟩
            rotate_left 2
            have q3 := fun w => neP (zb, zc) (ub, uc) hq w
            clear hq
            all_goals
              go_wp2
              go_quiet (fail)
              go_wp2
              have HRd := Lib.hid (HR.out.ext0 (((Ext.refl [] wr).drewN nq).drew))
              have HOd := Lib.hid (ownsRow_ext HO.out (((Ext.refl [] wr).drewN nq).drew) (by simp))
              have HLT := Lib.hid (fun b (h : b ∈ own (Value.slice (some ⟨g, 0, none⟩) (n + 1) cap)) => HO.out.lt b (of_mem_own h))
              have HB := Lib.hid (⟨lt0, lt1, lt2, lt3⟩ : rp < w.heap.size ∧ bi < w.heap.size ∧ bp < w.heap.size ∧ bq < w.heap.size)
              go_region_held3 (fun cur => cur.cell? ⟨rp, 2, none⟩ = some (.slice (some ⟨bp, 0, none⟩) 4096 4096) ∧ cur.cell? ⟨rp, 3, none⟩ = some (.slice (some ⟨bq, 0, none⟩) 4096 4096) ∧ cur.cell? ⟨bp, k, none⟩ = some (.int .i64 ua) ∧ cur.cell? ⟨bq, k * 2, none⟩ = some (.int .i64 ub) ∧ cur.cell? ⟨bq, k * 2 + 1, none⟩ = some (.int .i64 uc))
                (first | go_keep | exact ⟨HRE.out.head.cell 2, HRE.out.head.cell 3, by rw [HRE.out.perm.cell hlt, HPM.out], by rw [HRE.out.pol.cell (by omega), HP0.out], by rw [HRE.out.pol.cell (by omega), HP1.out]⟩)
                ((refine step_app T_reg (ownsRow_ext HOd.out ((Ext.refl [] _).alloc _) (by simp)) (SpU.lit_at (H := wr.heap.size) _ 5 1 [.int .i64 (k : Int), .int .i64 0, .int .i64 ua, .int .i64 ub, .int .i64 uc] 37 (by decide) (by rfl) (by simp)) (by rfl) (by rfl) (by rfl) (by rfl) (by rfl) (by simp [Value.oneCell']) (by unfold maxLen; omega) (by omega) (by simp; omega) ?_; intro v' w' hown' hext' hnew'; have HRE := Lib.hid ((HRd.out.ext0 ((Ext.refl [] _).alloc (.cells #[.int .i64 (k : Int), .int .i64 0, .int .i64 ua, .int .i64 ub, .int .i64 uc] 37))).ext hext' (fun h => by have := HLT.out _ h; have := HB.out; omega) (fun h => by have := HLT.out _ h; have := HB.out; omega) (fun h => by have := HLT.out _ h; have := HB.out; omega) (fun h => by have := HLT.out _ h; have := HB.out; omega)); have HXE := Lib.hid hext'; have HOE := Lib.hid hown'; clear hown' hext' hnew'))
              obtain ⟨g', vc', rfl⟩ := ownsRow_succ HOE.out
              have hlx : (SpU.encS l0 ++ SpU.cells (⟨zf, zt, za, zb, zc⟩ : Sp U)).length = (n + 1) * 5 := by have := HE.out; simp [SpU.cells]; omega
              have hc1 := HOE.out.cellAt ((n + 1) * 5 + 1) (by omega)
              rw [List.getElem?_append_right (by rw [hlx]; omega), hlx, Nat.add_sub_cancel_left] at hc1
              have hf1 := HOE.out.frozenAt ((n + 1) * 5 + 1)
              have HLX := Lib.hid hlx
              clear r1 r2 r3 iC jC kC kD hlx
              go_wp2
              go_roundw
              case rel =>
                refine ⟨k + 1, by omega, by go_num, ?_, ?_⟩
                · exact ((((HX.out.drewN _).drew.alloc _).step HXE.out (fun i hi => .inr (HLT.out _ hi).1))).setCell _ _ (.inr (HOE.out.lt g' rfl).1)
                · rw [HN.out]
                  have h2 := (HOE.out.stored ((n + 1) * 5 + 1) (.int .i64 ((k : Int) + 1))).1
                  rw [List.set_append_right _ _ (by rw [HLX.out]; omega), HLX.out, Nat.add_sub_cancel_left] at h2
                  show World.ownsRow _ _ _ _ _ (l0 ++ [(⟨zf, zt, za, zb, zc⟩ : Sp U)] ++ [(⟨k, k + 1, ua, ub, uc⟩ : Sp U)]).length (SpU.encS (l0 ++ [(⟨zf, zt, za, zb, zc⟩ : Sp U)] ++ [(⟨k, k + 1, ua, ub, uc⟩ : Sp U)]))
                  rw [SpU.encS_snoc, SpU.encS_snoc]
                  simp only [List.length_append, List.length_cons, List.length_nil, Hn.out]
                  exact h2
              case measure => simp [intOf]; omega
    · obtain rfl : k = 4096 := by omega
      have HX := Lib.hid hx
      clear hx
      go_wp2
      go_ret
      exact ⟨_, rfl, ho, HX.out⟩

end Go.Proofs.Ytjicpblncfgiaaa
