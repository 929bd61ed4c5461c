/-
  Buddy's law: an allocator of its own.
-/
import Derived.Test.YtkpnmknkimlnaaaBlA
namespace Go.Proofs.Ytkpnmknkimlnaaa
set_option linter.unusedVariables false
set_option linter.unusedSimpArgs false
open Go.RowKit BuT
set_option maxHeartbeats 4000000
set_option maxRecDepth 100000
set_option linter.unusedVariables false
set_option linter.unusedSimpArgs false

/-- The search, told by a list of kinds and orders. -/
theorem bestI_last {kd od : Nat → Nat} {o i p : Nat} (h : bestI kd od o i = some p) (hn : ¬ (kd i = 1 ∧ o ≤ od i ∧ od i < od p)) : bestI kd od o (i + 1) = some p := by
  unfold bestI
  rw [if_neg, h]
  rintro ⟨h1, h2, h3⟩
  exact hn ⟨h1, h2, h3 p h⟩
theorem bestI_new {kd od : Nat → Nat} {o i p : Nat} (h : bestI kd od o i = some p) (h1 : kd i = 1) (h2 : o ≤ od i) (h3 : od i < od p) : bestI kd od o (i + 1) = some i := by
  unfold bestI
  rw [if_pos]
  exact ⟨h1, h2, fun b hb => by rw [h] at hb; cases hb; exact h3⟩
theorem bestI_first {kd od : Nat → Nat} {o i : Nat} (h : bestI kd od o i = none) (h1 : kd i = 1) (h2 : o ≤ od i) : bestI kd od o (i + 1) = some i := by
  unfold bestI
  rw [if_pos]
  exact ⟨h1, h2, fun b hb => by rw [h] at hb; cases hb⟩
def awK : Nat → Nat := newK 7
def awO : Nat → Nat := newO 7
def awK1 : Nat → Nat := alK awK awO 6 0
def awO1 : Nat → Nat := alO awO 6 0
def awK2 : Nat → Nat := alK awK1 awO1 4 0
def awO2 : Nat → Nat := alO awO1 4 0
theorem aw_best : bestI awK awO 0 7 = some 6 :=
  bestI_new (bestI_last (bestI_new (bestI_last (bestI_last (bestI_last (bestI_first (kd := awK) (od := awO) (i := 0) rfl (by decide +kernel) (by decide +kernel)) (by decide +kernel)) (by decide +kernel)) (by decide +kernel)) (by decide +kernel) (by decide +kernel) (by decide +kernel)) (by decide +kernel)) (by decide +kernel) (by decide +kernel) (by decide +kernel)
theorem aw_best1 : bestI awK1 awO1 0 7 = some 4 :=
  bestI_last (bestI_last (bestI_new (bestI_last (bestI_last (bestI_last (bestI_first (kd := awK1) (od := awO1) (i := 0) rfl (by decide +kernel) (by decide +kernel)) (by decide +kernel)) (by decide +kernel)) (by decide +kernel)) (by decide +kernel) (by decide +kernel) (by decide +kernel)) (by decide +kernel)) (by decide +kernel)
theorem aw_tiles : Tiles awK awO 7 ∧ NoBud awK awO 7 := ⟨new_tiles 7, new_nobud 7⟩
theorem aw_tiles1 : Tiles awK1 awO1 7 ∧ NoBud awK1 awO1 7 := alloc_tiles aw_tiles.1 aw_tiles.2 (by decide) (by decide +kernel) (by decide +kernel)
theorem aw_tiles2 : Tiles awK2 awO2 7 ∧ NoBud awK2 awO2 7 := alloc_tiles aw_tiles1.1 aw_tiles1.2 (by decide) (by decide +kernel) (by decide +kernel)
theorem aw_at : awK2 4 = 2 ∧ awO2 4 = 0 := by decide +kernel
theorem aw_give : giveR (16 : Nat) (9 - awO2 4) (blks (16 : Nat) awK2 awO2 1 7) 4 (awO2 4) = [⟨16, 2⟩, ⟨20, 1⟩] := by decide +kernel

theorem aw_c0 (w : World) : Calls Try.prog 56 #[.int .i64 16, .int .i64 7] w fun e w' => ∃ bp bl, e = .returned (.tuple #[.pointer (some ⟨bp, 0, none⟩), .int .i64 0]) ∧ w.heap.size ≤ bp ∧ w.heap.size ≤ bl ∧ Ext [] w w' ∧ Bud w' bp bl 16 7 awK awO :=
  (bnew_is 16 7 w (by omega) (by omega) (by omega)).mono (by rintro e w' ⟨bp, bl, h⟩; exact ⟨bp, bl, h⟩)
theorem aw_c1 (w : World) (bp bl : Nat) (h : Bud w bp bl 16 7 awK awO) : Calls Try.prog 33 #[.pointer (some ⟨bp, 0, none⟩), .int .i64 0] w fun e w' => e = .returned (.tuple #[.int .i64 22, .int .i64 0]) ∧ Ext [bl] w w' ∧ Bud w' bp bl 16 7 awK1 awO1 :=
  (h.alloc_ aw_tiles.1 0 (by omega)).mono (by rw [aw_best]; rintro e w' ⟨rfl, h2, h3⟩; exact ⟨rfl, h2, h3⟩)
theorem aw_c2 (w : World) (bp bl : Nat) (h : Bud w bp bl 16 7 awK1 awO1) : Calls Try.prog 33 #[.pointer (some ⟨bp, 0, none⟩), .int .i64 0] w fun e w' => e = .returned (.tuple #[.int .i64 20, .int .i64 0]) ∧ Ext [bl] w w' ∧ Bud w' bp bl 16 7 awK2 awO2 :=
  (h.alloc_ aw_tiles1.1 0 (by omega)).mono (by rw [aw_best1]; rintro e w' ⟨rfl, h2, h3⟩; exact ⟨rfl, h2, h3⟩)
def AwEnd (w : World) (bp bl : Nat) : Prop := ∃ kd od, Bud w bp bl 16 7 kd od ∧ blks ((16 : Nat) : Int) kd od 1 7 = [⟨16, 2⟩, ⟨20, 1⟩]
theorem aw_c3 (w : World) (bp bl : Nat) (h : Bud w bp bl 16 7 awK2 awO2) : Calls Try.prog 29 #[.pointer (some ⟨bp, 0, none⟩), .int .i64 20, .int .i64 0] w fun e w' => e = .returned (.int .i64 0) ∧ Ext [bl] w w' ∧ AwEnd w' bp bl := by
  have hf := h.free_is aw_tiles2.1 aw_tiles2.2 (p0 := 4) (by omega) aw_at.1
  rw [aw_give, aw_at.2] at hf
  refine hf.mono ?_
  rintro e w' ⟨rfl, h2, kd, od, h3, _, _, h4, _⟩
  exact ⟨rfl, h2, kd, od, h3, h4⟩
theorem aw_c4 (w : World) (bp bl : Nat) (h : AwEnd w bp bl) : Calls Try.prog 32 #[.pointer (some ⟨bp, 0, none⟩)] w fun e w' => e = .returned (.int .i64 6) ∧ Ext [] w w' := by
  obtain ⟨kd, od, h3, h4⟩ := h
  refine (left_c w bp bl 16 7 kd od h3 (by rw [h4]; unfold Ords; decide) (by rw [h4]; decide)).mono ?_
  rw [h4]
  rintro e w' ⟨rfl, h⟩
  exact ⟨rfl, h⟩
theorem aw_c5 (w : World) (bp bl : Nat) (h : AwEnd w bp bl) : Calls Try.prog 35 #[.pointer (some ⟨bp, 0, none⟩)] w fun e w' => e = .returned (.int .i64 2) ∧ Ext [] w w' := by
  obtain ⟨kd, od, h3, h4⟩ := h
  refine (most_c w bp bl 16 7 kd od h3 (by rw [h4]; unfold Ords; decide) (by rw [h4]; decide)).mono ?_
  rw [h4]
  rintro e w' ⟨rfl, h⟩
  exact ⟨rfl, h⟩
theorem AwEnd.ext {w w' : World} {bp bl : Nat} (h : AwEnd w bp bl) (hx : Ext [] w w') : AwEnd w' bp bl := by
  obtain ⟨kd, od, h3, h4⟩ := h
  exact ⟨kd, od, h3.ext hx (by simp) (by simp), h4⟩

theorem awake_c (w : World) : Calls Try.prog 24 #[] w fun e w' => e = .returned (.bool true) ∧ Ext [] w w' := by
  go_enter Try.func24, Try.ntmps24
  go_wp2_with (first
    | (go_at_call 56; refine (aw_c0 _).mono ?_; rintro e w1 ⟨bp, bl, rfl, hbp, hbl, hx, hb⟩; have HX1 := Lib.hid hx; have HB1 := Lib.hid hb; have HP := Lib.hid (And.intro hbp hbl); clear hx hb hbp hbl)
    | (go_at_call 33; refine (aw_c1 _ _ _ HB1.out).mono ?_; rintro e w2 ⟨rfl, hx, hb⟩; have HX2 := Lib.hid hx; have HB2 := Lib.hid hb; clear hx hb HB1)
    | (go_at_call 33; refine (aw_c2 _ _ _ HB2.out).mono ?_; rintro e w3 ⟨rfl, hx, hb⟩; have HX3 := Lib.hid hx; have HB3 := Lib.hid hb; clear hx hb HB2)
    | (go_at_call 29; refine (aw_c3 _ _ _ HB3.out).mono ?_; rintro e w4 ⟨rfl, hx, hb⟩; have HX4 := Lib.hid hx; have HB4 := Lib.hid hb; clear hx hb HB3)
    | (go_at_call 32; refine (aw_c4 _ _ _ HB4.out).mono ?_; rintro e w5 ⟨rfl, hx⟩; have HX5 := Lib.hid hx; have HB5 := Lib.hid (HB4.out.ext hx); clear hx)
    | (go_at_call 35; refine (aw_c5 _ _ _ HB5.out).mono ?_; rintro e w6 ⟨rfl, hx⟩; have HX6 := Lib.hid hx; clear hx))
  go_ret
  refine ⟨rfl, ?_⟩
  have hl : ∀ {u v : World}, Ext [bl] u v → Ext [] w u → Ext [] w v := fun h1 h0 => h0.step h1 (fun i hi => .inr (by have := HP.out.2; simp at hi; omega))
  exact ((hl HX4.out (hl HX3.out (hl HX2.out HX1.out))).trans HX5.out).trans HX6.out

end Go.Proofs.Ytkpnmknkimlnaaa
