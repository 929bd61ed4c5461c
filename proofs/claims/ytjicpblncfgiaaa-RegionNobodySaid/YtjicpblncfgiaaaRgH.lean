/-
  Region: Find, Copy.
-/
import Derived.Test.YtjicpblncfgiaaaRgG
namespace Go.Proofs.Ytjicpblncfgiaaa
set_option linter.unusedVariables false
set_option linter.unusedSimpArgs false
open Go.RowKit RgT SpT
set_option maxHeartbeats 4000000
set_option maxRecDepth 100000
set_option linter.unusedVariables false
set_option linter.unusedSimpArgs false

theorem results_c1t {fn : Func} {p q : Tmp} {ty : TypeId} (h : fn.results = #[.cell p ty, .tmp q]) (tmps : Array Value) (P : Program) (w : World) :
    (results fn tmps).run P w = ((asAddr (tmps.getD p undef)).run P w).andThen fun a w₁ => ((loadVar ty a).run P w₁).andThen fun x w₂ => .ok (.tuple #[x, tmps.getD q undef]) w₂ := by
  simp only [results, h]
  simp [Sem.run_bind, Result.andThen]

theorem SpIs.copy_ {w : World} {sp mp : Nat} {nodes : Int} {L : List (Sp U)} (h : SpIs w sp mp nodes L) : Calls Try.prog 23 #[.pointer (some ⟨sp, 0, none⟩)] w fun e w' => ∃ sp' mp', e = .returned (.pointer (some ⟨sp', 0, none⟩)) ∧ Ext [] w w' ∧ SpIs w' sp' mp' nodes L ∧ w.heap.size ≤ sp' ∧ w.heap.size ≤ mp' := by
  have c0 := h.head.cell 0
  have c1 := h.head.cell 1
  have CI := Lib.hid (sis_c w sp mp nodes h.head)
  have CC := Lib.hid (SpU.copy_c w.drew mp L (h.map.ext0 (Ext.refl [] w).drew) h.len)
  have HH := Lib.hid (h.head.ext (Ext.refl [] w).drew (by simp))
  have HL := Lib.hid h.len
  clear h
  go_enter Try.func23, Try.ntmps23
  go_wp2_with (go_at_call 40; refine (CI.out).mono ?_; rintro e w1 ⟨rfl, rfl⟩)
  have HXc := Lib.hid (Ext.refl [] w.drew)
  go_region_held3 (fun cur => cur.cell? ⟨sp, 0, none⟩ = some (.int .i64 nodes) ∧ cur.cell? ⟨sp, 1, none⟩ = some (.pointer (some ⟨mp, 0, none⟩)))
    (first | exact ⟨(HH.out.ext HXc.out (by simp)).cell 0, (HH.out.ext HXc.out (by simp)).cell 1⟩ | exact ⟨(HH.out.ext (HXc.out.alloc _) (by simp)).cell 0, (HH.out.ext (HXc.out.alloc _) (by simp)).cell 1⟩)
    ((go_at_call 45; refine (CC.out).mono ?_; rintro e w2 ⟨mp', rfl, hle, hm, hx⟩; have HXm := Lib.hid hx; have HM := Lib.hid hm; have HLE := Lib.hid hle; have HXc := Lib.hid hx; clear hx hm hle))
  all_goals
    go_wp2
    go_ret
    exact ⟨_, mp', rfl, ((Ext.refl [] w).drew.trans HXm.out).alloc _, ⟨Blk.new _ _ _, HM.out.ext0 ((Ext.refl _ _).alloc _), HL.out⟩, HXm.out.size, HLE.out⟩

/-- What Find tells. -/
def findV (o : Option (Sp U)) : Value := .tuple #[.agg (SpU.findC o).toArray, .bool o.isSome]
theorem SpIs.find_ {w : World} {sp mp : Nat} {nodes : Int} {L : List (Sp U)} (h : SpIs w sp mp nodes L) (page : Int) : Calls Try.prog 21 #[.pointer (some ⟨sp, 0, none⟩), .int .i64 page] w fun e w' => e = .returned (findV (L.find? (SpU.findIn page))) ∧ Ext [] w w' := by
  have hx0 : Ext [] w (w.alloc (.cells #[.int .i64 0, .int .i64 0, .int .i64 0, .int .i64 0, .int .i64 0] 37)) := (Ext.refl _ _).alloc _
  have h0 := h.ext0 hx0
  have c1 := h0.head.cell 1
  obtain ⟨Kq, hA⟩ := h0.map.all h.len
  have CI := Lib.hid (sis_c _ sp mp nodes h0.head)
  have cf := SpU.find_c _ _ Kq L hA page
  have RB := Lib.hid (Blk.new w [.int .i64 0, .int .i64 0, .int .i64 0, .int .i64 0, .int .i64 0] 37)
  have HX0 := Lib.hid hx0
  clear h h0 hA hx0
  cases hf : L.find? (SpU.findIn page) with
  | none =>
    rw [hf] at cf
    simp only [SpU.findC, Option.isSome] at cf
    have CF := Lib.hid cf
    clear hf cf
    go_enter Try.func21, Try.ntmps21
    go_wp2_with (first
      | (go_at_call 40; refine (CI.out).mono ?_; rintro e w1 ⟨rfl, rfl⟩)
      | (go_at_call 43; refine (CF.out).mono ?_; rintro e w2 ⟨rfl, hx⟩; have HX2 := Lib.hid hx; have R2 := Lib.hid (RB.out.ext hx (by simp)); have z0 := R2.out.cell 0; have z1 := R2.out.cell 1; have z2 := R2.out.cell 2; have z3 := R2.out.cell 3; have z4 := R2.out.cell 4; have y0 := R2.out.frozen 0; have y1 := R2.out.frozen 1; have y2 := R2.out.frozen 2; have y3 := R2.out.frozen 3; have y4 := R2.out.frozen 4; have rl := R2.out.lt; clear hx c1))
    have F := (((((R2.out.set 0 (.int .i64 0)).set 1 (.int .i64 0)).set 2 (.int .i64 0)).set 3 (.int .i64 0)).set 4 (.int .i64 0)).alloc (.cells #[.int .i64 0, .int .i64 0, .int .i64 0, .int .i64 0, .int .i64 0] 97)
    have t0 := F.cell 0
    have t1 := F.cell 1
    have t2 := F.cell 2
    have t3 := F.cell 3
    have t4 := F.cell 4
    simp only [List.set_cons_zero, List.set_cons_succ, List.getElem?_cons_zero, List.getElem?_cons_succ] at t0 t1 t2 t3 t4
    (try simp only [Exit.inBlock, Exit.then])
    refine bodyPost_ret (?_ : (results _ _).run _ _ = .ok (.tuple #[.agg #[.int .i64 0, .int .i64 0, .int .i64 0, .int .i64 0, .int .i64 0], .bool false]) _) rfl ?_
    · rw [results_c1t rfl]
      simp [go_sem, t0, t1, t2, t3, t4]
    exact ⟨rfl, ((((((HX0.out.trans HX2.out).setCell _ _ (.inr (Nat.le_refl _))).setCell _ _ (.inr (Nat.le_refl _))).setCell _ _ (.inr (Nat.le_refl _))).setCell _ _ (.inr (Nat.le_refl _))).setCell _ _ (.inr (Nat.le_refl _))).alloc _⟩
  | some x =>
    rw [hf] at cf
    simp only [SpU.findC, SpU.cells, Option.isSome] at cf
    have CF := Lib.hid cf
    clear hf cf
    obtain ⟨xf, xt, xp, xk, xn⟩ := x
    go_enter Try.func21, Try.ntmps21
    go_wp2_with (first
      | (go_at_call 40; refine (CI.out).mono ?_; rintro e w1 ⟨rfl, rfl⟩)
      | (go_at_call 43; refine (CF.out).mono ?_; rintro e w2 ⟨rfl, hx⟩; have HX2 := Lib.hid hx; have R2 := Lib.hid (RB.out.ext hx (by simp)); have z0 := R2.out.cell 0; have z1 := R2.out.cell 1; have z2 := R2.out.cell 2; have z3 := R2.out.cell 3; have z4 := R2.out.cell 4; have y0 := R2.out.frozen 0; have y1 := R2.out.frozen 1; have y2 := R2.out.frozen 2; have y3 := R2.out.frozen 3; have y4 := R2.out.frozen 4; have rl := R2.out.lt; clear hx c1)
      | (go_at_call 44; refine (of_c _ _ _ _ _ _).mono ?_; rintro e w3 ⟨rfl, hx⟩; have HX3 := Lib.hid hx; have R3 := Lib.hid ((R2.out.alloc (.cells #[.int .i64 (xf : Int), .int .i64 (xt : Int), .int .i64 xp, .int .i64 xk, .int .i64 xn] 97)).ext hx (by simp)); clear z0 z1 z2 z3 z4 y0 y1 y2 y3 y4 rl; have z0 := R3.out.cell 0; have z1 := R3.out.cell 1; have z2 := R3.out.cell 2; have z3 := R3.out.cell 3; have z4 := R3.out.cell 4; have y0 := R3.out.frozen 0; have y1 := R3.out.frozen 1; have y2 := R3.out.frozen 2; have y3 := R3.out.frozen 3; have y4 := R3.out.frozen 4; clear hx))
    have F := (((((R3.out.set 0 (.int .i64 (xf : Int))).set 1 (.int .i64 (xt : Int))).set 2 (.int .i64 xp)).set 3 (.int .i64 xk)).set 4 (.int .i64 xn))
    have t0 := F.cell 0
    have t1 := F.cell 1
    have t2 := F.cell 2
    have t3 := F.cell 3
    have t4 := F.cell 4
    simp only [List.set_cons_zero, List.set_cons_succ, List.getElem?_cons_zero, List.getElem?_cons_succ] at t0 t1 t2 t3 t4
    (try simp only [Exit.inBlock, Exit.then])
    refine bodyPost_ret (?_ : (results _ _).run _ _ = .ok (.tuple #[.agg #[.int .i64 (xf : Int), .int .i64 (xt : Int), .int .i64 xp, .int .i64 xk, .int .i64 xn], .bool true]) _) rfl ?_
    · rw [results_c1t rfl]
      simp [go_sem, t0, t1, t2, t3, t4]
    exact ⟨rfl, ((((((((HX0.out.trans HX2.out).alloc _).trans HX3.out).setCell _ _ (.inr (Nat.le_refl _))).setCell _ _ (.inr (Nat.le_refl _))).setCell _ _ (.inr (Nat.le_refl _))).setCell _ _ (.inr (Nat.le_refl _))).setCell _ _ (.inr (Nat.le_refl _)))⟩

end Go.Proofs.Ytjicpblncfgiaaa
