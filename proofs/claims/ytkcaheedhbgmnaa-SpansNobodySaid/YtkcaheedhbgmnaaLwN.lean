/-
  Spans' laws: SpansNobody, walked.
-/
import Derived.Test.YtkcaheedhbgmnaaLwG
namespace Go.Proofs.Ytkcaheedhbgmnaa
set_option linter.unusedVariables false
set_option linter.unusedSimpArgs false
open Go.RowKit SpT
set_option maxHeartbeats 4000000
set_option maxRecDepth 100000
set_option linter.unusedSectionVars false

theorem wnil (a b : Int) : SpI.withinL [] a b = [] := by
  unfold SpI.withinL
  split
  · have h := (within_ok (a := a.toNat) (b := b.toNat) (l := ([] : List (Sp Int))) ⟨by simp, List.Pairwise.nil⟩)
    cases hw : within a.toNat b.toNat ([] : List (Sp Int)) with
    | nil => rfl
    | cons x l =>
      have hx : x ∈ within a.toNat b.toNat ([] : List (Sp Int)) := by rw [hw]; simp
      obtain ⟨y, hy, _⟩ := mem_within.1 hx
      cases hy
  · rfl
theorem find_no (w : World) (p : Option Addr) (Kq : List Nat) (hA : SpI.AllIs w p Kq []) (page : Int) :
    Calls Try.prog 47 #[.pointer p, .int .i64 page] w fun e w' => e = .returned (.tuple #[.agg #[.int .i64 0, .int .i64 0, .int .i8 0], .bool false]) ∧ Ext [] w w' := SpI.find_c w p Kq [] hA page
theorem meets_no (w : World) (p : Option Addr) (Kq : List Nat) (hA : SpI.AllIs w p Kq []) (a b : Int) :
    Calls Try.prog 46 #[.pointer p, .int .i64 a, .int .i64 b] w fun e w' => e = .returned (.bool false) ∧ Ext [] w w' := by
  have h := SpI.meets_c w p Kq [] hA a b
  rw [wnil] at h
  exact h
theorem srow_nil (w : World) (B0 : Nat) : SpR.SRow w B0 (.slice none 0 0) [] := World.ownsRow_nil _ _ _ _
theorem goes_no_in (W0 : World) (p : Option Addr) (Kq : List Nat) (hA : SpI.AllIs W0 p Kq []) (a b : Int) :
    Calls Try.prog 15 #[.func (.func 62) #[] #[.pointer (some ⟨W0.heap.size + 1, 0, none⟩), .pointer (some ⟨W0.heap.size + 2, 0, none⟩), .pointer (some ⟨W0.heap.size, 0, none⟩)], .slice none 0 0, .int .i64 9]
      (((W0.alloc (.cells #[.pointer p] 23)).alloc (.cells #[.int .i64 a] 3)).alloc (.cells #[.int .i64 b] 3)) fun e w' => e = .returned (.bool true) ∧ Ext [] (((W0.alloc (.cells #[.pointer p] 23)).alloc (.cells #[.int .i64 a] 3)).alloc (.cells #[.int .i64 b] 3)) w' :=
  goes_in W0 p Kq [] hA a b (by rw [wnil]; simp) (by rw [wnil]; intro x hx; cases hx) 9 (by omega) _ 0 (by rw [wnil]; exact srow_nil _ _)
theorem goes_no_all (W0 : World) (p : Option Addr) (Kq : List Nat) (hA : SpI.AllIs W0 p Kq []) :
    Calls Try.prog 15 #[.func (.func 55) #[] #[.pointer (some ⟨W0.heap.size, 0, none⟩)], .slice none 0 0, .int .i64 9] (W0.alloc (.cells #[.pointer p] 23)) fun e w' => e = .returned (.bool true) ∧ Ext [] (W0.alloc (.cells #[.pointer p] 23)) w' := by
  have hx : Ext [] W0 (W0.alloc (.cells #[.pointer p] 23)) := (Ext.refl _ _).alloc _
  have hit := (hA.ext hx (by simp)).it _ W0.heap.size (fun _ _ => rfl) (Blk.new W0 [.pointer p] _)
  exact goes_c 55 _ _ [] _ hit (Go.Proofs.enters_of Try.func55 (by kernel_rfl) rfl) (by simp) (by intro x hx; cases hx) 9 (by omega) _ (Nat.le_refl _)
    (fun b hb => by
      rcases List.mem_cons.1 hb with rfl | hb
      · exact ⟨by simp, rfl⟩
      · have := hA.lt b hb; exact ⟨by simp; omega, rfl⟩) 0 _ (srow_nil _ _)

/-- What stands while SpansNobody walks on. -/
structure NB (w0 wy : World) (A0 : List Value) (p : Option Addr) (Kq : List Nat) (W : World) : Prop where
  x : Ext [] w0 W
  y : Ext [] wy W
  A : Blk W w0.heap.size A0 45
  F : Blk W (w0.heap.size + 1) [.bool false] 4
  AI : SpI.AllIs W p Kq []
  I : SpI.IsIs W p Kq false
  U : SpI.Unmade (.pointer p) W
  N : ∀ W', Ext [] W W' → Calls Try.prog 17 #[.pointer p] W' fun e w'' => e = .returned (.int .i64 0) ∧ W' = w''
theorem NB.ext {w0 wy : World} {A0 : List Value} {p : Option Addr} {Kq : List Nat} {W W' : World} (h : NB w0 wy A0 p Kq W) (hx : Ext [] W W') : NB w0 wy A0 p Kq W' :=
  ⟨h.x.trans hx, h.y.trans hx, h.A.ext hx (by simp), h.F.ext hx (by simp), h.AI.ext hx (by simp), h.I.ext h.AI.lt hx (by simp), fun w' hw => h.U w' (hx.trans hw), fun w' hw => h.N w' (hx.trans hw)⟩
theorem NB.nil {w0 wy : World} {A0 : List Value} {W : World} (x : Ext [] w0 W) (y : Ext [] wy W) (A : Blk W w0.heap.size A0 45) (F : Blk W (w0.heap.size + 1) [.bool false] 4) : NB w0 wy A0 none [] W :=
  ⟨x, y, A, F, SpI.AllIs.nil W, SpI.IsIs.nil W [], SpI.Unmade.nil W, fun w' _ => SpI.len_nil w'⟩
theorem NB.empty {w0 wy : World} {A0 : List Value} {W : World} {b : Nat} (x : Ext [] w0 W) (y : Ext [] wy W) (A : Blk W w0.heap.size A0 45) (F : Blk W (w0.heap.size + 1) [.bool false] 4) (h : Blk W b [.slice none 0 0, .bool false] 97) : ∃ Kq, NB w0 wy A0 (some ⟨b, 0, none⟩) Kq W :=
  ⟨_, x, y, A, F, SpI.AllIs.raw h (World.ownsRow_nil _ _ _ _) (by simp), SpI.IsIs.raw h _, SpI.Unmade.empty h, fun w' hw => SpI.len_c w' b 0 0 none (.bool false) (h.ext hw (by simp))⟩

theorem spansNobody_c (x : SAct) (w : World) : Calls Try.prog 12 #[.agg x.cells.toArray] w fun e w' => e = .returned (.bool true) ∧ Ext [] w w' := by
  obtain ⟨xc, a, b, xv⟩ := x
  unfold SAct.cells
  refine calls_of_callsIn 1000 ?_
  refine callsIn_of_wp_marks Try.func12 rfl trivial ?_ rfl
  simp only [Try.ntmps12, List.size_toArray, List.length_cons, List.length_nil, Nat.reduceAdd, Nat.reduceSub, Array.replicate_succ, Array.replicate_zero, List.push_toArray, List.append_toArray, List.nil_append, List.cons_append]
  have hx0 : Ext [] w ((w.alloc (.cells #[.bool xc, .int .i64 a, .int .i64 b, .int .i8 xv] 45)).alloc (.cells #[.bool false] 4)) := ((Ext.refl _ _).alloc _).alloc _
  have bA := (Blk.new w [.bool xc, .int .i64 a, .int .i64 b, .int .i8 xv] 45).alloc (.cells #[.bool false] 4)
  have bR := Blk.new (w.alloc (.cells #[.bool xc, .int .i64 a, .int .i64 b, .int .i8 xv] 45)) [.bool false] 4
  rw [World.size_alloc] at bR
  have S := Lib.hid (NB.nil (wy := w) hx0 hx0 bA bR)
  have CW := Lib.hid (fun w => awake08_c w)
  have k1 := bA.cell 1
  have k2 := bA.cell 2
  have k3 := bA.cell 3
  clear hx0 bA bR
  gi_wp2
  refine wpIn_loop_rounds 3 ?_
  rw [roundsIn_succ]
  gi_wp2_with (first
    | (gi_at_call 47; refine CallsIn.mono (callsIn_of_calls (find_no _ _ _ S.out.AI _)) ?_; rintro e w1 ⟨rfl, hx⟩; have S := Lib.hid (S.out.ext (hx.alloc (.cells #[.int .i64 0, .int .i64 0, .int .i8 0] 70))); have k1 := S.out.A.cell 1; have k2 := S.out.A.cell 2; have k3 := S.out.A.cell 3; clear hx)
    | (gi_at_call 51; refine CallsIn.mono (callsIn_of_calls (SpI.set_un _ _ S.out.U _ _ _)) ?_; rintro e w1 ⟨rfl, hx⟩; have S := Lib.hid (S.out.ext hx); have k1 := S.out.A.cell 1; have k2 := S.out.A.cell 2; have k3 := S.out.A.cell 3; clear hx)
    | (gi_at_call 52; refine CallsIn.mono (callsIn_of_calls (SpI.clear_un _ _ S.out.U _ _)) ?_; rintro e w1 ⟨rfl, hx⟩; have S := Lib.hid (S.out.ext hx); have k1 := S.out.A.cell 1; have k2 := S.out.A.cell 2; have k3 := S.out.A.cell 3; clear hx)
    | (gi_at_call 17; refine CallsIn.mono (callsIn_of_calls (S.out.N _ (Ext.refl _ _))) ?_; rintro e w1 ⟨rfl, rfl⟩)
    | (gi_at_call 45; refine CallsIn.mono (callsIn_of_calls (SpI.covers_no _ _ _ S.out.AI.lt _ _ (.inl S.out.I))) ?_; rintro e w1 ⟨rfl, hx⟩; have S := Lib.hid (S.out.ext hx); have k1 := S.out.A.cell 1; have k2 := S.out.A.cell 2; have k3 := S.out.A.cell 3; clear hx)
    | (gi_at_call 46; refine CallsIn.mono (callsIn_of_calls (meets_no _ _ _ S.out.AI _ _)) ?_; rintro e w1 ⟨rfl, hx⟩; have S := Lib.hid (S.out.ext hx); have k1 := S.out.A.cell 1; have k2 := S.out.A.cell 2; have k3 := S.out.A.cell 3; clear hx)
    | (gi_at_call 29; refine CallsIn.mono (callsIn_of_calls (SpI.copy_un _ _ S.out.U)) ?_; rintro e w1 ⟨rfl, hx⟩; have S := Lib.hid (S.out.ext hx); have k1 := S.out.A.cell 1; have k2 := S.out.A.cell 2; have k3 := S.out.A.cell 3; clear hx)
    | (gi_at_call 32; refine CallsIn.mono (callsIn_of_calls (SpI.gaps_c _ _ _ _)) ?_; rintro e w1 ⟨rfl, rfl⟩; have SG := S; have hfn := fun g lb w => fn_nil9 g lb w; have S := Lib.hid (S.out.ext ((((Ext.refl [] _).alloc (.cells #[.pointer none] 23)).alloc (.cells #[.int .i64 0] 3)).alloc (.cells #[.int .i64 9] 3))); generalize hwg : ((w1.alloc (.cells #[.pointer none] 23)).alloc (.cells #[.int .i64 0] 3)).alloc (.cells #[.int .i64 9] 3) = wg at *)
    | (gi_at_call 16; refine CallsIn.mono (callsIn_of_calls (SpI.all_c _ _)) ?_; rintro e w1 ⟨rfl, rfl⟩)
    | (gi_at_call 31; refine CallsIn.mono (callsIn_of_calls (SpI.within_c _ _ _ _)) ?_; rintro e w1 ⟨rfl, rfl⟩)
    | (gi_at_call 15; with_reducible refine CallsIn.mono (callsIn_of_calls (goes_no_all _ _ _ S.out.AI)) ?_; rintro e w1 ⟨rfl, hx⟩; have S := Lib.hid (S.out.ext (((Ext.refl [] _).alloc _).trans hx)); have k1 := S.out.A.cell 1; have k2 := S.out.A.cell 2; have k3 := S.out.A.cell 3; clear hx)
    | (gi_at_call 15; with_reducible refine CallsIn.mono (callsIn_of_calls (goes_no_in _ _ _ S.out.AI _ _)) ?_; rintro e w1 ⟨rfl, hx⟩; have S := Lib.hid (S.out.ext (((((Ext.refl [] _).alloc _).alloc _).alloc _).trans hx)); have k1 := S.out.A.cell 1; have k2 := S.out.A.cell 2; have k3 := S.out.A.cell 3; clear hx))
  obtain ⟨Kp, hKp, hit⟩ := SpI.gaps_it SG.out.AI SG.out.I 0 9
  simp only [Bool.false_eq_true, if_false] at hit
  rw [hwg] at hit
  have hkl := SG.out.AI.lt
  have hsg : wg.heap.size = w1.heap.size + 3 := by rw [← hwg]; simp
  have hwl := SG.out.F.lt
  refine wpIn_range (by omega) rfl (Go.Proofs.enters_of Try.func64 (by kernel_rfl) rfl) hit (SpI.pairsG_size _) [] (fun _ _ _ => True) (fun _ _ _ _ => False) (fun i X A B h hk => h) (fun c i X A B h hk => h) (by simp) (Nat.le_refl _) ?hK trivial ?round ?done ?stop
  case hK =>
    intro q hq
    rcases hKp _ hq with h | h
    · have := hkl _ h; exact ⟨by omega, rfl⟩
    · exact ⟨by omega, rfl⟩
  case round => intro l i hi; exact absurd hi (by simp [SpI.pairsG])
  case stop => exact fun D c i X Wd hD hE hi h => h.elim
  case done =>
    rintro D1 X Wd hD1 hED1 _ hx hX
    have S := Lib.hid (S.out.ext hx)
    have hb1 : w.heap.size + 1 < D1 := by omega
    clear hx hX hit hKp hkl hsg hwg hfn SG
    gi_wp2
    rw [roundsIn_succ]
    have S0 := S
    have S := Lib.hid (NB.empty (wy := Wd) (b := Wd.heap.size) (S0.out.x.alloc (.cells #[.slice none 0 0, .bool false] 97)) ((Ext.refl [] Wd).alloc (.cells #[.slice none 0 0, .bool false] 97)) (S0.out.A.alloc (.cells #[.slice none 0 0, .bool false] 97)) (S0.out.F.alloc (.cells #[.slice none 0 0, .bool false] 97)) (Blk.new Wd [.slice none 0 0, .bool false] 97))
    obtain ⟨Kq, hS⟩ := S.out
    have S := Lib.hid hS
    clear S0
    have k1 := hS.A.cell 1
    have k2 := hS.A.cell 2
    have k3 := hS.A.cell 3
    clear hS
    gi_wp2_with (first
      | (gi_at_call 47; refine CallsIn.mono (callsIn_of_calls (find_no _ _ _ S.out.AI _)) ?_; rintro e w1 ⟨rfl, hx⟩; have S := Lib.hid (S.out.ext (hx.alloc (.cells #[.int .i64 0, .int .i64 0, .int .i8 0] 70))); have k1 := S.out.A.cell 1; have k2 := S.out.A.cell 2; have k3 := S.out.A.cell 3; clear hx)
      | (gi_at_call 51; refine CallsIn.mono (callsIn_of_calls (SpI.set_un _ _ S.out.U _ _ _)) ?_; rintro e w1 ⟨rfl, hx⟩; have S := Lib.hid (S.out.ext hx); have k1 := S.out.A.cell 1; have k2 := S.out.A.cell 2; have k3 := S.out.A.cell 3; clear hx)
      | (gi_at_call 52; refine CallsIn.mono (callsIn_of_calls (SpI.clear_un _ _ S.out.U _ _)) ?_; rintro e w1 ⟨rfl, hx⟩; have S := Lib.hid (S.out.ext hx); have k1 := S.out.A.cell 1; have k2 := S.out.A.cell 2; have k3 := S.out.A.cell 3; clear hx)
      | (gi_at_call 17; refine CallsIn.mono (callsIn_of_calls (S.out.N _ (Ext.refl _ _))) ?_; rintro e w1 ⟨rfl, rfl⟩)
      | (gi_at_call 45; refine CallsIn.mono (callsIn_of_calls (SpI.covers_no _ _ _ S.out.AI.lt _ _ (.inl S.out.I))) ?_; rintro e w1 ⟨rfl, hx⟩; have S := Lib.hid (S.out.ext hx); have k1 := S.out.A.cell 1; have k2 := S.out.A.cell 2; have k3 := S.out.A.cell 3; clear hx)
      | (gi_at_call 46; refine CallsIn.mono (callsIn_of_calls (meets_no _ _ _ S.out.AI _ _)) ?_; rintro e w1 ⟨rfl, hx⟩; have S := Lib.hid (S.out.ext hx); have k1 := S.out.A.cell 1; have k2 := S.out.A.cell 2; have k3 := S.out.A.cell 3; clear hx)
      | (gi_at_call 29; refine CallsIn.mono (callsIn_of_calls (SpI.copy_un _ _ S.out.U)) ?_; rintro e w1 ⟨rfl, hx⟩; have S := Lib.hid (S.out.ext hx); have k1 := S.out.A.cell 1; have k2 := S.out.A.cell 2; have k3 := S.out.A.cell 3; clear hx)
      | (gi_at_call 32; refine CallsIn.mono (callsIn_of_calls (SpI.gaps_c _ _ _ _)) ?_; rintro e w1 ⟨rfl, rfl⟩; have SG := S; have hfn := fun g lb w => fn_nil9 g lb w; have S := Lib.hid (S.out.ext ((((Ext.refl [] _).alloc (.cells #[.pointer (some ⟨Wd.heap.size, 0, none⟩)] 23)).alloc (.cells #[.int .i64 0] 3)).alloc (.cells #[.int .i64 9] 3))); generalize hwg : ((w1.alloc (.cells #[.pointer (some ⟨Wd.heap.size, 0, none⟩)] 23)).alloc (.cells #[.int .i64 0] 3)).alloc (.cells #[.int .i64 9] 3) = wg at *)
      | (gi_at_call 16; refine CallsIn.mono (callsIn_of_calls (SpI.all_c _ _)) ?_; rintro e w1 ⟨rfl, rfl⟩)
      | (gi_at_call 31; refine CallsIn.mono (callsIn_of_calls (SpI.within_c _ _ _ _)) ?_; rintro e w1 ⟨rfl, rfl⟩)
      | (gi_at_call 15; with_reducible refine CallsIn.mono (callsIn_of_calls (goes_no_all _ _ _ S.out.AI)) ?_; rintro e w1 ⟨rfl, hx⟩; have S := Lib.hid (S.out.ext (((Ext.refl [] _).alloc _).trans hx)); have k1 := S.out.A.cell 1; have k2 := S.out.A.cell 2; have k3 := S.out.A.cell 3; clear hx)
      | (gi_at_call 15; with_reducible refine CallsIn.mono (callsIn_of_calls (goes_no_in _ _ _ S.out.AI _ _)) ?_; rintro e w1 ⟨rfl, hx⟩; have S := Lib.hid (S.out.ext (((((Ext.refl [] _).alloc _).alloc _).alloc _).trans hx)); have k1 := S.out.A.cell 1; have k2 := S.out.A.cell 2; have k3 := S.out.A.cell 3; clear hx))
    obtain ⟨Kp, hKp, hit⟩ := SpI.gaps_it SG.out.AI SG.out.I 0 9
    simp only [Bool.false_eq_true, if_false] at hit
    rw [hwg] at hit
    have hkl := SG.out.AI.lt
    have hsg : wg.heap.size = w1.heap.size + 3 := by rw [← hwg]; simp
    have hwl := SG.out.F.lt
    refine wpIn_range (by omega) rfl (Go.Proofs.enters_of Try.func64 (by kernel_rfl) rfl) hit (SpI.pairsG_size _) [] (fun _ _ _ => True) (fun _ _ _ _ => False) (fun i X A B h hk => h) (fun c i X A B h hk => h) (by simp) (Nat.le_refl _) ?hK trivial ?round ?done ?stop
    case hK =>
      intro q hq
      rcases hKp _ hq with h | h
      · have := hkl _ h; exact ⟨by omega, rfl⟩
      · exact ⟨by omega, rfl⟩
    case round => intro l i hi; exact absurd hi (by simp [SpI.pairsG])
    case stop => exact fun D c i X Wd hD hE hi h => h.elim
    case done =>
      rintro D2 X We hD2 hED2 _ hx hX
      have S := Lib.hid (S.out.ext hx)
      have hb2 : Wd.heap.size ≤ D2 := by have := SG.out.y.size; omega
      clear hx hX hit hKp hkl hsg hwg hfn SG
      gi_wp2
      rw [roundsIn_succ]
      gi_wp2_with (gi_at_call 18; refine CallsIn.mono (callsIn_of_calls (CW.out _)) ?_; rintro e wh ⟨rfl, hxh⟩; have XH := Lib.hid hxh; have S := Lib.hid (S.out.ext hxh); have kf := S.out.F.cell 0; have ff := S.out.F.frozen 0; clear hxh)
      have hl1 : D1 < Wd.heap.size := by have h := hED1; unfold Emp at h; exact (Array.getElem?_eq_some_iff.1 h).1
      have hl2 : D2 < We.heap.size := by have h := hED2; unfold Emp at h; exact (Array.getElem?_eq_some_iff.1 h).1
      refine leaves_marks [D2, D1] _ (fun q hq => ?_) ?_ (fun w' hx' hs' => ⟨_, ?_, rfl, ?_⟩)
      · have hq' : q = D2 ∨ q = D1 := by simpa using hq
        refine (Below.heap_setCell _ _ _ _ (show q ≠ w.heap.size + 1 by omega)).trans ?_
        rcases hq' with rfl | rfl
        · exact (XH.out.block q hl2 (by simp)).trans hED2
        · exact (S.out.y.block q hl1 (by simp)).trans hED1
      · simp; omega
      · have hc := ((S.out.F.set 0 (.bool true)).ext hx' (by simp; omega)).cell 0
        rw [results_cell1 rfl]
        simp [go_sem, hc]
      · exact (S.out.x.setCell _ _ (.inr (by show w.heap.size ≤ w.heap.size + 1; omega))).step hx' (fun k hk => .inr (by simp at hk; omega))

end Go.Proofs.Ytkcaheedhbgmnaa
