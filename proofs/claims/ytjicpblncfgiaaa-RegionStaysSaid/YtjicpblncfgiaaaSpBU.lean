/-
  Spans of values (basin/region.use): put.
-/
import Derived.Test.YtjicpblncfgiaaaSpAU
import Derived.Deep.QuietTactic
import Derived.BigQuiet
import Derived.Deep.RegionHeld
namespace Go.Proofs.Ytjicpblncfgiaaa.SpU
open Go.RowKit SpT
set_option maxHeartbeats 2000000
set_option maxRecDepth 10000
set_option linter.unusedVariables false
set_option linter.unusedSimpArgs false
set_option linter.unusedSectionVars false

theorem eqV_no (a b : Int × Int × Int) (h : a ≠ b) (w : World) : (binOp .eql 93 (.agg #[.int .i64 a.1, .int .i64 a.2.1, .int .i64 a.2.2]) (.agg #[.int .i64 b.1, .int .i64 b.2.1, .int .i64 b.2.2])).run Try.prog w = .ok (.bool false) w := by
  obtain ⟨a1, a2, a3⟩ := a
  obtain ⟨b1, b2, b3⟩ := b
  go_simp
  intro h1 h2 h3
  exact h (by rw [h1, h2, h3])
/-- What a row has grown to. -/
def Grew (w : World) (B : Nat) (v : Value) (l : List Spn) (e : Ending) (w' : World) : Prop :=
  ∃ v', e = .returned v' ∧ SRow w' B v' l ∧ Ext (own v) w w' ∧ ∀ b, v'.ownBlock = some b → v.ownBlock = some b ∨ w.heap.size ≤ b

theorem put_new (w : World) (B : Nat) (v : Value) (l : List Spn) (x : Spn) (ho : SRow w B v l) (hB : B ≤ w.heap.size) (hl : l.length ≤ 8192) (hno : put l x = l ++ [x])
    (hnew : ∀ y, l.getLast? = some y → ((y.t : Int) == (x.f : Int)) = false ∨ (((y.t : Int) == (x.f : Int)) = true ∧ y.v ≠ x.v)) : Calls Try.prog 79 #[v, .agg (cells x).toArray] w (Grew w B v (put l x)) := by
  rw [hno]
  have hb := Blk.new w (cells x) 97
  have hc0 := hb.cell 0
  have hc1 := hb.cell 1
  have hc2 := hb.cell 2
  have hc3 := hb.cell 3
  have hc4 := hb.cell 4
  have ho1 := ownsRow_ext ho ((Ext.refl [] w).alloc (.cells (cells x).toArray 97)) (by simp)
  have HX := Lib.hid ((Ext.refl [] w).alloc (.cells (cells x).toArray 97))
  have hs1 : (w.alloc (.cells (cells x).toArray 97)).heap.size = w.heap.size + 1 := by simp
  have HS1 := Lib.hid hs1
  obtain ⟨xf, xt, xv⟩ := x
  unfold cells at *
  simp only [] at *
  clear hb hs1
  rcases List.eq_nil_or_concat l with rfl | ⟨l0, y, rfl⟩
  · obtain ⟨va, vc, rfl, hvc, hvm⟩ := ownsRow_form ho
    have ho : w.ownsRow B 97 5 (.slice va 0 vc) 0 [] := ho
    clear hno hnew ho1
    go_enter Try.func79, Try.ntmps79
    go_wp2
    go_quiet (fail)
    go_wp2_with (at_builtin; refine wpList_app T_span (ownsRow_ext ho ((((Ext.refl [] w).alloc _).drewN _).alloc _) (by simp)) (lit_at _ 5 1 [.int .i64 (xf : Int), .int .i64 (xt : Int), .int .i64 (xv).1, .int .i64 (xv).2.1, .int .i64 (xv).2.2] 97 (by decide) rfl (by simp)) rfl rfl rfl rfl rfl (by simp [Value.oneCell']) (by unfold maxLen; omega) (by omega) (by simp; omega) ?_; intro v' w' hown' hext' hnew')
    go_ret
    refine ⟨_, rfl, hown', (((((Ext.refl (own _) w).alloc _).drewN _).alloc _).trans hext'), fun b hb => ?_⟩
    rcases hnew' b hb with h | h
    · exact .inl h
    · exact .inr (by simp at h; omega)
  · rw [List.concat_eq_append] at *
    have hn := hnew y (by simp)
    have hlen : (l0 ++ [y]).length = l0.length + 1 := by simp
    unfold SRow at ho
    rw [hlen] at ho hl ho1
    rw [encS_snoc] at ho ho1
    obtain ⟨g, cap, rfl⟩ := ownsRow_succ ho
    have hi : (encS l0).length = l0.length * 5 := encS_len l0
    have hy0 := ho1.cellAt (l0.length * 5) (by omega)
    have hy1 := ho1.cellAt (l0.length * 5 + 1) (by omega)
    have hy2 := ho1.cellAt (l0.length * 5 + 2) (by omega)
    have hy3 := ho1.cellAt (l0.length * 5 + 3) (by omega)
    have hy4 := ho1.cellAt (l0.length * 5 + 4) (by omega)
    rw [List.getElem?_append_right (by omega), hi, Nat.sub_self] at hy0
    rw [List.getElem?_append_right (by omega), hi, Nat.add_sub_cancel_left] at hy1
    rw [List.getElem?_append_right (by omega), hi, Nat.add_sub_cancel_left] at hy2
    rw [List.getElem?_append_right (by omega), hi, Nat.add_sub_cancel_left] at hy3
    rw [List.getElem?_append_right (by omega), hi, Nat.add_sub_cancel_left] at hy4
    obtain ⟨yf, yt, yv⟩ := y
    unfold cells at hy0 hy1
    unfold cells at hy2
    unfold cells at hy3
    unfold cells at hy4
    have hd : yv ≠ xv ∨ ((yt : Int) == (xf : Int)) = false := by
      rcases hn with h | ⟨_, h⟩
      · exact .inr h
      · exact .inl h
    generalize hn : l0.length = n at *
    have Hn := Lib.hid hn
    clear hno hnew ho1 hn hi hlen
    have hw : wrap64 (n : Int) = (n : Int) := wrap64_of (by omega) (by omega)
    have b0 : (0 : Int) ≤ (n : Int) := by omega
    have b1 : (n : Int) < (n : Int) + 1 := by omega
    rcases hn with ht | ⟨ht, hv⟩
    · clear hd
      go_enter Try.func79, Try.ntmps79
      go_wp2
      go_quiet (fail)
      go_wp2_with (at_builtin; refine wpList_app T_span (ownsRow_ext ho ((((Ext.refl [] w).alloc _).drewN _).alloc _) (by simp)) (lit_at _ 5 1 [.int .i64 (xf : Int), .int .i64 (xt : Int), .int .i64 (xv).1, .int .i64 (xv).2.1, .int .i64 (xv).2.2] 97 (by decide) rfl (by simp)) rfl rfl rfl rfl rfl (by simp [Value.oneCell']) (by unfold maxLen; omega) (by omega) (by simp; omega) ?_; intro v' w' hown' hext' hnew')
      go_ret
      refine ⟨_, rfl, ?_, (((((Ext.refl (own _) w).alloc _).drewN _).alloc _).trans hext'), fun b hb => ?_⟩
      · show World.ownsRow w' B _ _ v' _ (encS _)
        rw [encS_snoc, encS_snoc]
        simp only [List.length_append, List.length_cons, List.length_nil, Hn.out]
        exact hown'
      · rcases hnew' b hb with h | h
        · exact .inl h
        · exact .inr (by simp at h; omega)
    · have hv := fun w => eqV_no yv xv (hd.resolve_right (by simp [ht])) w
      clear hd
      go_enter Try.func79, Try.ntmps79
      go_wp2
      go_quiet (fail)
      go_wp2_with (at_builtin; refine wpList_app T_span (ownsRow_ext ho ((((Ext.refl [] w).alloc _).drewN _).alloc _) (by simp)) (lit_at _ 5 1 [.int .i64 (xf : Int), .int .i64 (xt : Int), .int .i64 (xv).1, .int .i64 (xv).2.1, .int .i64 (xv).2.2] 97 (by decide) rfl (by simp)) rfl rfl rfl rfl rfl (by simp [Value.oneCell']) (by unfold maxLen; omega) (by omega) (by simp; omega) ?_; intro v' w' hown' hext' hnew')
      go_ret
      refine ⟨_, rfl, ?_, (((((Ext.refl (own _) w).alloc _).drewN _).alloc _).trans hext'), fun b hb => ?_⟩
      · show World.ownsRow w' B _ _ v' _ (encS _)
        rw [encS_snoc, encS_snoc]
        simp only [List.length_append, List.length_cons, List.length_nil, Hn.out]
        exact hown'
      · rcases hnew' b hb with h | h
        · exact .inl h
        · exact .inr (by simp at h; omega)

theorem put_more (w : World) (B : Nat) (v : Value) (l0 : List Spn) (yf xf xt : Nat) (xv : (Int × Int × Int)) (ho : SRow w B v (l0 ++ [⟨yf, xf, xv⟩])) (hB : B ≤ w.heap.size) (hl : l0.length ≤ 8192) :
    Calls Try.prog 79 #[v, .agg (cells ⟨xf, xt, xv⟩).toArray] w (Grew w B v (l0 ++ [⟨yf, xt, xv⟩])) := by
  have hb := Blk.new w (cells ⟨xf, xt, xv⟩) 97
  have hc0 := hb.cell 0
  have hc1 := hb.cell 1
  have hc2 := hb.cell 2
  have hc3 := hb.cell 3
  have hc4 := hb.cell 4
  unfold cells at *
  simp only [] at *
  clear hb
  have hlen : (l0 ++ [(⟨yf, xf, xv⟩ : Spn)]).length = l0.length + 1 := by simp
  unfold SRow at ho
  rw [hlen] at ho
  rw [encS_snoc] at ho
  obtain ⟨g, cap, rfl⟩ := ownsRow_succ ho
  have hi : (encS l0).length = l0.length * 5 := encS_len l0
  have ho1 := ownsRow_ext ho ((Ext.refl [] w).alloc (.cells (cells ⟨xf, xt, xv⟩).toArray 97)) (by simp)
  have hst := fun nq => ((ownsRow_ext ho (((Ext.refl [] w).alloc (.cells (cells ⟨xf, xt, xv⟩).toArray 97)).drewN nq) (by simp)).stored (l0.length * 5 + 1) (.int .i64 (xt : Int))).1
  have hy0 := ho1.cellAt (l0.length * 5) (by omega)
  have hy1 := ho1.cellAt (l0.length * 5 + 1) (by omega)
  have hy2 := ho1.cellAt (l0.length * 5 + 2) (by omega)
  have hy3 := ho1.cellAt (l0.length * 5 + 3) (by omega)
  have hy4 := ho1.cellAt (l0.length * 5 + 4) (by omega)
  have hfr := ho1.frozenAt (l0.length * 5 + 1)
  rw [List.getElem?_append_right (by omega), hi, Nat.sub_self] at hy0
  rw [List.getElem?_append_right (by omega), hi, Nat.add_sub_cancel_left] at hy1
  rw [List.getElem?_append_right (by omega), hi, Nat.add_sub_cancel_left] at hy2
  rw [List.getElem?_append_right (by omega), hi, Nat.add_sub_cancel_left] at hy3
  rw [List.getElem?_append_right (by omega), hi, Nat.add_sub_cancel_left] at hy4
  have HST := Lib.hid hst
  have hgl := (ho.lt g rfl).2
  have HX := Lib.hid (fun nq => ((((Ext.refl [g] w).alloc (.cells (cells ⟨xf, xt, xv⟩).toArray 97)).drewN nq).setCell ⟨g, l0.length * 5 + 1, none⟩ (.int .i64 (xt : Int)) (.inl (by simp))))
  unfold cells at *
  generalize hn : l0.length = n at *
  have Hn := Lib.hid hn
  clear hn ho1 hlen hst ho hi
  have hw : wrap64 (n : Int) = (n : Int) := wrap64_of (by omega) (by omega)
  have b0 : (0 : Int) ≤ (n : Int) := by omega
  have b1 : (n : Int) < (n : Int) + 1 := by omega
  go_enter Try.func79, Try.ntmps79
  go_wp2
  go_quiet (fail)
  go_wp2
  go_ret
  refine ⟨_, rfl, ?_, HX.out _, fun b hb => .inl hb⟩
  have h := HST.out nq
  have hi : (encS l0).length = n * 5 := by rw [encS_len, Hn.out]
  rw [List.set_append_right _ _ (by omega), hi, Nat.add_sub_cancel_left] at h
  show World.ownsRow _ _ _ _ _ _ (encS (l0 ++ [⟨yf, xt, xv⟩]))
  rw [encS_snoc]
  simp only [List.length_append, List.length_cons, List.length_nil, Hn.out]
  exact h

/-- put, whatever there is. -/
theorem put_c (w : World) (B : Nat) (v : Value) (l : List Spn) (x : Spn) (ho : SRow w B v l) (hB : B ≤ w.heap.size) (hl : l.length ≤ 8192) :
    Calls Try.prog 79 #[v, .agg (cells x).toArray] w (Grew w B v (put l x)) := by
  rcases List.eq_nil_or_concat l with rfl | ⟨l0, y, rfl⟩
  · exact put_new w B v [] x ho hB hl rfl (by simp)
  · rw [List.concat_eq_append] at *
    by_cases e : y.t = x.f ∧ y.v = x.v
    · have he : put (l0 ++ [y]) x = l0 ++ [⟨y.f, x.t, y.v⟩] := by rw [put_snoc, if_pos e]
      rw [he]
      obtain ⟨yf, yt, yv⟩ := y
      obtain ⟨xf, xt, xv⟩ := x
      obtain ⟨e1, e2⟩ := e
      simp only [] at e1 e2
      subst e1 e2
      exact put_more w B v l0 yf yt xt yv ho hB (by simp at hl; omega)
    · refine put_new w B v (l0 ++ [y]) x ho hB hl (by rw [put_snoc, if_neg e]) (fun z hz => ?_)
      obtain rfl : y = z := by simpa using hz
      by_cases h : y.t = x.f
      · exact .inr ⟨by simp [h], fun h2 => e ⟨h, h2⟩⟩
      · exact .inl (by simp; omega)

end Go.Proofs.Ytjicpblncfgiaaa.SpU
