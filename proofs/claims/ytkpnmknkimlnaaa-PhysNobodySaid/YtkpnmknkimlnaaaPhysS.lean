/-
  Phys: the law PhysNobody, walked.
-/
import Derived.Test.YtkpnmknkimlnaaaPhysN
namespace Go.Proofs.Ytkpnmknkimlnaaa
set_option linter.unusedVariables false
set_option linter.unusedSimpArgs false
open Go.RowKit
set_option maxHeartbeats 4000000
set_option maxRecDepth 10000
set_option linter.unusedSectionVars false

/-- A memory that nobody made. -/
structure Nob (m : Value) (w : World) : Prop where
  at_ : ∀ w', Ext [] w w' → ∀ f, NoAt m f w'
  size : ∀ w', Ext [] w w' → Calls Try.prog 36 #[m] w' fun e w'' => e = .returned (.tuple #[.int .i64 0, .int .i64 0]) ∧ Ext [] w' w''
  count : ∀ w', Ext [] w w' → Calls Try.prog 18 #[m, .int .i64 0, .int .i64 0] w' fun e w'' => e = .returned (.int .i64 0) ∧ w' = w''
theorem Nob.nil (w : World) : Nob (.pointer none) w :=
  ⟨fun w' _ f => at_nil w' f, fun w' _ => size_nil w', fun w' _ => count_nil 0 0 w'⟩
theorem Nob.empty {w : World} {b : Nat} (h : Blk w b [.int .i64 0, .int .i64 0, .slice none 0 0] 93) : Nob (.pointer (some ⟨b, 0, none⟩)) w :=
  ⟨fun w' hx f => at_out w' b 0 0 none ((h.ext hx (by simp)).cell 2) f (by omega), fun w' hx => size_c w' b 0 0 ((h.ext hx (by simp)).cell 0) ((h.ext hx (by simp)).cell 1),
   fun w' hx => count_out b 0 0 0 w' ((h.ext hx (by simp)).cell 0) (.inr (by omega))⟩

theorem physNobody_c (p : PAct) (w : World) :
    Calls Try.prog 11 #[.agg p.cells.toArray] w fun e w' => e = .returned (.bool true) ∧ Ext [] w w' := by
  have CW := Lib.hid (fun w => awake02_c w)
  unfold PAct.cells
  have hB := Blk.new w [.int .i64 p.d, .int .i64 p.f, .int .i64 p.i, .int .u64 p.v, .int .i64 p.t, .int .i64 p.k, .int .i64 p.n] 37
  have HB := Lib.hid hB
  have HX0 := Lib.hid ((Ext.refl [] w).alloc (.cells #[.int .i64 p.d, .int .i64 p.f, .int .i64 p.i, .int .u64 p.v, .int .i64 p.t, .int .i64 p.k, .int .i64 p.n] 37))
  clear hB
  go_enter Try.func11, Try.ntmps11
  go_wp2
  go_loopw [3] (fun i wr => ∃ k : Nat, k ≤ 2 ∧ i = .int .i64 k ∧ Ext [] w wr ∧ Blk wr w.heap.size [.int .i64 p.d, .int .i64 p.f, .int .i64 p.i, .int .u64 p.v, .int .i64 p.t, .int .i64 p.k, .int .i64 p.n] 37) (fun i _ => 2 - (intOf i).toNat)
  case atStart => exact ⟨0, by omega, rfl, HX0.out, HB.out⟩
  case round =>
    obtain ⟨k, hk, rfl, hx, hb⟩ := hrel
    have HX := Lib.hid hx
    have HK := Lib.hid hb
    have a0 := hb.cell 0
    have a1 := hb.cell 1
    have a2 := hb.cell 2
    have a3 := hb.cell 3
    have a4 := hb.cell 4
    have a5 := hb.cell 5
    have a6 := hb.cell 6
    clear hx hb
    obtain rfl | rfl | rfl : k = 0 ∨ k = 1 ∨ k = 2 := by omega
    · have NB := Lib.hid (Nob.nil wr)
      have HXn := Lib.hid (Ext.refl [] wr)
      go_wp2_with (first
        | (go_at_call 36; refine (NB.out.size _ HXn.out).mono ?_; rintro e' w4 ⟨rfl, hx4⟩; have hb4 := HK.out.ext hx4 (by simp); have a0 := hb4.cell 0; have a1 := hb4.cell 1; have a2 := hb4.cell 2; have a3 := hb4.cell 3; have a4 := hb4.cell 4; have a5 := hb4.cell 5; have a6 := hb4.cell 6; have HX4 := Lib.hid hx4; have HB4 := Lib.hid hb4; clear hx4 hb4)
        | (go_at_call 37; refine (node_no _ _ _ (NB.out.at_ _ HX4.out _)).mono ?_; rintro e' w' ⟨rfl, rfl⟩)
        | (go_at_call 17; refine (word_no _ _ _ _ (NB.out.at_ _ HX4.out _)).mono ?_; rintro e' w' ⟨rfl, rfl⟩)
        | (go_at_call 15; refine (byte_no _ _ _ _ (NB.out.at_ _ HX4.out _)).mono ?_; rintro e' w' ⟨rfl, rfl⟩)
        | (go_at_call 38; refine (owner_no _ _ _ (NB.out.at_ _ (HX4.out.alloc _) _)).mono ?_; rintro e' w5 ⟨rfl, hx5⟩; have HX5 := Lib.hid ((HX4.out.trans hx5).alloc (.cells #[.int .i64 0, .int .i64 0] 35)); have hb5 := (HB4.out.ext hx5 (by simp)).alloc (.cells #[.int .i64 0, .int .i64 0] 35); have a0 := hb5.cell 0; have a1 := hb5.cell 1; have a2 := hb5.cell 2; have a3 := hb5.cell 3; have a4 := hb5.cell 4; have a5 := hb5.cell 5; have a6 := hb5.cell 6; have HB5 := Lib.hid hb5; clear hx5 hb5)
        | (go_at_call 39; refine (setWord_no _ _ _ _ _ (NB.out.at_ _ HX5.out _)).mono ?_; rintro e' w' ⟨rfl, rfl⟩)
        | (go_at_call 40; refine (setByte_no _ _ _ _ _ (NB.out.at_ _ HX5.out _)).mono ?_; rintro e' w' ⟨rfl, rfl⟩)
        | (go_at_call 41; refine (zero_no _ _ _ (NB.out.at_ _ HX5.out _)).mono ?_; rintro e' w' ⟨rfl, rfl⟩)
        | (go_at_call 42; refine (copy_c0 _ _ _ _ _ (NB.out.at_ _ HX5.out _) (.inl (NB.out.at_ _ HX5.out _))).mono ?_; rintro e' w' ⟨rfl, rfl⟩)
        | (go_at_call 43; refine (setOwner_no _ _ _ _ _ (NB.out.at_ _ (HX5.out.alloc _) _)).mono ?_; rintro e' w6 ⟨rfl, hx6⟩; have HX6 := Lib.hid (HX5.out.trans hx6); have HB6 := Lib.hid (HB5.out.ext hx6 (by simp)); clear hx6)
        | (go_at_call 18; refine (NB.out.count _ HX6.out).mono ?_; rintro e' w' ⟨rfl, rfl⟩))
      go_roundw
      case rel => exact ⟨1, by omega, rfl, HX.out.trans HX6.out, HB6.out⟩
      case measure => simp [intOf]
    · have NB := Lib.hid (Nob.empty (Blk.new wr [.int .i64 0, .int .i64 0, .slice none 0 0] 93))
      have hb' := HK.out.alloc (.cells #[.int .i64 0, .int .i64 0, .slice none 0 0] 93)
      have HXw := Lib.hid ((Ext.refl [] wr).alloc (.cells #[.int .i64 0, .int .i64 0, .slice none 0 0] 93))
      have HXn := Lib.hid (Ext.refl [] (wr.alloc (.cells #[.int .i64 0, .int .i64 0, .slice none 0 0] 93)))
      have HK' := Lib.hid hb'
      clear hb'
      go_wp2_with (first
        | (go_at_call 36; refine (NB.out.size _ HXn.out).mono ?_; rintro e' w4 ⟨rfl, hx4⟩; have hb4 := HK'.out.ext hx4 (by simp); have a0 := hb4.cell 0; have a1 := hb4.cell 1; have a2 := hb4.cell 2; have a3 := hb4.cell 3; have a4 := hb4.cell 4; have a5 := hb4.cell 5; have a6 := hb4.cell 6; have HX4 := Lib.hid hx4; have HB4 := Lib.hid hb4; clear hx4 hb4)
        | (go_at_call 37; refine (node_no _ _ _ (NB.out.at_ _ HX4.out _)).mono ?_; rintro e' w' ⟨rfl, rfl⟩)
        | (go_at_call 17; refine (word_no _ _ _ _ (NB.out.at_ _ HX4.out _)).mono ?_; rintro e' w' ⟨rfl, rfl⟩)
        | (go_at_call 15; refine (byte_no _ _ _ _ (NB.out.at_ _ HX4.out _)).mono ?_; rintro e' w' ⟨rfl, rfl⟩)
        | (go_at_call 38; refine (owner_no _ _ _ (NB.out.at_ _ (HX4.out.alloc _) _)).mono ?_; rintro e' w5 ⟨rfl, hx5⟩; have HX5 := Lib.hid ((HX4.out.trans hx5).alloc (.cells #[.int .i64 0, .int .i64 0] 35)); have hb5 := (HB4.out.ext hx5 (by simp)).alloc (.cells #[.int .i64 0, .int .i64 0] 35); have a0 := hb5.cell 0; have a1 := hb5.cell 1; have a2 := hb5.cell 2; have a3 := hb5.cell 3; have a4 := hb5.cell 4; have a5 := hb5.cell 5; have a6 := hb5.cell 6; have HB5 := Lib.hid hb5; clear hx5 hb5)
        | (go_at_call 39; refine (setWord_no _ _ _ _ _ (NB.out.at_ _ HX5.out _)).mono ?_; rintro e' w' ⟨rfl, rfl⟩)
        | (go_at_call 40; refine (setByte_no _ _ _ _ _ (NB.out.at_ _ HX5.out _)).mono ?_; rintro e' w' ⟨rfl, rfl⟩)
        | (go_at_call 41; refine (zero_no _ _ _ (NB.out.at_ _ HX5.out _)).mono ?_; rintro e' w' ⟨rfl, rfl⟩)
        | (go_at_call 42; refine (copy_c0 _ _ _ _ _ (NB.out.at_ _ HX5.out _) (.inl (NB.out.at_ _ HX5.out _))).mono ?_; rintro e' w' ⟨rfl, rfl⟩)
        | (go_at_call 43; refine (setOwner_no _ _ _ _ _ (NB.out.at_ _ (HX5.out.alloc _) _)).mono ?_; rintro e' w6 ⟨rfl, hx6⟩; have HX6 := Lib.hid (HX5.out.trans hx6); have HB6 := Lib.hid (HB5.out.ext hx6 (by simp)); clear hx6)
        | (go_at_call 18; refine (NB.out.count _ HX6.out).mono ?_; rintro e' w' ⟨rfl, rfl⟩))
      go_roundw
      case rel => exact ⟨2, by omega, rfl, (HX.out.trans HXw.out).trans HX6.out, HB6.out⟩
      case measure => simp [intOf]
    · go_wp2_with (go_at_call 14; refine (CW.out _).mono ?_; rintro e' w6 ⟨rfl, hx6⟩; have HX6 := Lib.hid hx6; clear hx6)
      go_ret
      exact ⟨rfl, HX.out.trans HX6.out⟩

end Go.Proofs.Ytkpnmknkimlnaaa
