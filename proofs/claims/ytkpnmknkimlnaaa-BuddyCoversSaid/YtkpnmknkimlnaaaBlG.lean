/-
  Buddy's law: both allocators are made.
-/
import Derived.Test.YtkpnmknkimlnaaaBlF
namespace Go.Proofs.Ytkpnmknkimlnaaa
set_option linter.unusedVariables false
set_option linter.unusedSimpArgs false
open Go.RowKit BuT
set_option maxHeartbeats 4000000
set_option maxRecDepth 100000
set_option linter.unusedVariables false
set_option linter.unusedSimpArgs false

theorem results_c12 {fn : Func} {p q r : Tmp} {ty : TypeId} (h : fn.results = #[.cell p ty, .tmp q, .tmp r]) (tmps : Array Value) (P : Program) (w : World) :
    (results fn tmps).run P w = ((asAddr (tmps.getD p undef)).run P w).andThen fun a w₁ => ((loadVar ty a).run P w₁).andThen fun x w₂ => .ok (.tuple #[x, tmps.getD q undef, tmps.getD r undef]) w₂ := by
  simp only [results, h]
  simp [Sem.run_bind, Result.andThen]

theorem made_bad (F n : Int) (w : World) (h : ¬ okNew F n) : Calls Try.prog 21 #[.agg #[.int .i64 F, .int .i64 n]] w fun e w' => e = .returned (.tuple #[.agg #[.pointer none, .pointer none], .bool true, .bool false]) ∧ Ext [] w w' := by
  have bA := (Blk.new w [.int .i64 F, .int .i64 n] 56).alloc (.cells #[.pointer none, .pointer none] 61)
  have bR := Blk.new (w.alloc (.cells #[.int .i64 F, .int .i64 n] 56)) [.pointer none, .pointer none] 61
  rw [World.size_alloc] at bR
  have a0 := bA.cell 0
  have a1 := bA.cell 1
  have b0 := bR.cell 0
  have b1 := bR.cell 1
  have f0 := bR.frozen 0
  have f1 := bR.frozen 1
  have C1 := Lib.hid (fun w => bnew_bad F n w h)
  have C2 := Lib.hid (fun w => rnew_bad F n w h)
  clear bA bR h
  go_enter Try.func21, Try.ntmps21
  go_wp2_with (first
    | (go_at_call 56; refine (C1.out _).mono ?_; rintro e w1 ⟨rfl, rfl⟩)
    | (go_at_call 30; refine (C2.out _).mono ?_; rintro e w1 ⟨rfl, rfl⟩))
  (try simp only [Exit.inBlock, Exit.then])
  refine bodyPost_ret (?_ : (results _ _).run _ _ = .ok (.tuple #[.agg #[.pointer none, .pointer none], .bool true, .bool false]) _) rfl ?_
  · rw [results_c12 rfl]
    simp [go_sem, b0, b1]
  exact ⟨rfl, ((Ext.refl _ _).alloc _).alloc _⟩

theorem made_is (F n : Nat) (w : World) (hF : F ≤ 8192) (h1 : 1 ≤ n) (h2 : n ≤ 1024) : Calls Try.prog 21 #[.agg #[.int .i64 F, .int .i64 n]] w fun e w' => ∃ bp bl rp, e = .returned (.tuple #[.agg #[.pointer (some ⟨bp, 0, none⟩), .pointer (some ⟨rp, 0, none⟩)], .bool true, .bool true]) ∧ Ext [] w w' ∧ Bud w' bp bl F n (newK n) (newO n) ∧ RB w' rp [bp, bl] F n (blks F (newK n) (newO n) 1 n) [] ∧ w.heap.size ≤ bp ∧ w.heap.size ≤ bl ∧ w.heap.size ≤ rp ∧ bp < rp ∧ bl < rp := by
  have bA := (Blk.new w [.int .i64 F, .int .i64 n] 56).alloc (.cells #[.pointer none, .pointer none] 61)
  have bR := Blk.new (w.alloc (.cells #[.int .i64 F, .int .i64 n] 56)) [.pointer none, .pointer none] 61
  have hx0 : Ext [] w ((w.alloc (.cells #[.int .i64 F, .int .i64 n] 56)).alloc (.cells #[.pointer none, .pointer none] 61)) := ((Ext.refl _ _).alloc _).alloc _
  have hs0 : ((w.alloc (.cells #[.int .i64 F, .int .i64 n] 56)).alloc (.cells #[.pointer none, .pointer none] 61)).heap.size = w.heap.size + 2 := by simp
  rw [World.size_alloc] at bR
  have a0 := bA.cell 0
  have a1 := bA.cell 1
  have BA := Lib.hid bA
  have BR := Lib.hid bR
  have HX0 := Lib.hid hx0
  have HS0 := Lib.hid hs0
  have C1 := Lib.hid (fun w => bnew_is F n w hF h1 h2)
  have C2 := Lib.hid (fun w => rnew_is F n w hF h1 h2)
  clear bA bR hx0 hs0
  go_enter Try.func21, Try.ntmps21
  go_wp2_with (first
    | (go_at_call 56; refine (C1.out _).mono ?_; rintro e w1 ⟨bp, bl, rfl, hp, hl, hx, hb⟩; have HX1 := Lib.hid hx; have HB1 := Lib.hid hb; have HP := Lib.hid (And.intro hp hl); have x0 := (BA.out.ext hx (by simp)).cell 0; have x1 := (BA.out.ext hx (by simp)).cell 1; clear hp hl hx hb)
    | (go_at_call 30; refine (C2.out _).mono ?_; rintro e w2 ⟨rp, vF, vT, rfl, hp, hx, hr, hown⟩; have HX2 := Lib.hid hx; have HR2 := Lib.hid hr; have HO2 := Lib.hid hown; have HP2 := Lib.hid hp; have BR2 := Lib.hid ((BR.out.ext HX1.out (by simp)).ext hx (by simp)); have y0 := BR2.out.cell 0; have y1 := BR2.out.cell 1; have g0 := BR2.out.frozen 0; have g1 := BR2.out.frozen 1; clear hp hx hr hown))
  (try simp only [Exit.inBlock, Exit.then])
  have z00 := (BR2.out.set 0 (.pointer (some ⟨bp, 0, none⟩))).cell 0
  have BF := (BR2.out.set 0 (.pointer (some ⟨bp, 0, none⟩))).set 1 (.pointer (some ⟨rp, 0, none⟩))
  have z0 := BF.cell 0
  have z1 := BF.cell 1
  simp only [List.set_cons_zero, List.set_cons_succ, List.getElem?_cons_zero, List.getElem?_cons_succ] at z0 z1 z00
  refine bodyPost_ret (?_ : (results _ _).run _ _ = .ok (.tuple #[.agg #[.pointer (some ⟨bp, 0, none⟩), .pointer (some ⟨rp, 0, none⟩)], .bool true, .bool true]) _) rfl ?_
  · rw [results_c12 rfl]
    simp [go_sem, z0, z1, z00]
  have hs0 := HS0.out
  have hs1 := HX1.out.size
  have hs2 := HX2.out.size
  have hp1 := HP.out
  have hp2 := HP2.out
  have hbp := HB1.out.head.lt
  have hbl := HB1.out.tab.lt
  have hE : ∀ (u v : Value), Ext [w.heap.size + 1] w2 ((w2.setCell ⟨w.heap.size + 1, 0, none⟩ u).setCell ⟨w.heap.size + 1, 1, none⟩ v) := fun u v => ((Ext.refl _ _).setCell _ _ (.inl (by simp))).setCell _ _ (.inl (by simp))
  have hrK : RV w2 rp [bp, bl, w.heap.size + 1] F n vF vT (blks F (newK n) (newO n) 1 n) [] :=
    ⟨HR2.out.head, HR2.out.free, HR2.out.taken, fun b hb hm => by have := HO2.out b (.inl hb); simp at hm; omega, fun b hb hm => by have := HO2.out b (.inr hb); simp at hm; omega⟩
  have hrE := hrK.ext (hE (.pointer (some ⟨bp, 0, none⟩)) (.pointer (some ⟨rp, 0, none⟩))) (by simp; omega) (fun b hb => .inl (by simp at hb ⊢; omega))
  refine ⟨bp, bl, rp, rfl, (((HX0.out.trans HX1.out).trans HX2.out).setCell _ _ (.inr (Nat.le_succ _))).setCell _ _ (.inr (Nat.le_succ _)), (HB1.out.ext HX2.out (by simp) (by simp)).ext (hE _ _) (by simp; omega) (by simp; omega), ⟨vF, vT, hrE.head, hrE.free, hrE.taken, fun b hb hm => hrE.fK b hb (by simp at hm ⊢; omega), fun b hb hm => hrE.tK b hb (by simp at hm ⊢; omega)⟩, by omega, by omega, by omega, by omega, by omega⟩

end Go.Proofs.Ytkpnmknkimlnaaa
