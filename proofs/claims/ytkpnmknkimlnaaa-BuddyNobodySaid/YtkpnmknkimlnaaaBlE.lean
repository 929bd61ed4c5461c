/-
  Buddy's law: BuddyNobody.
-/
import Derived.Test.YtkpnmknkimlnaaaBlD
namespace Go.Proofs.Ytkpnmknkimlnaaa
set_option linter.unusedVariables false
set_option linter.unusedSimpArgs false
open Go.RowKit BuT
set_option maxHeartbeats 4000000
set_option maxRecDepth 100000
set_option linter.unusedVariables false
set_option linter.unusedSimpArgs false

theorem NoB.gone {w : World} {p : Option Addr} {K : List Nat} (c : Int) (h : NoB w (.pointer p) K) :
    Calls Try.prog 25 #[.func (.func 74) #[] #[.pointer (some ⟨w.heap.size, 0, none⟩), .pointer (some ⟨w.heap.size + 1, 0, none⟩)], .int .i64 9] ((w.alloc (.cells #[.pointer p] 58)).alloc (.cells #[.int .i64 c] 3)) fun e w' =>
      (∃ a k, e = .returned (.slice a 0 k)) ∧ Ext [] w w' := by
  have hx0 : Ext [] w ((w.alloc (.cells #[.pointer p] 58)).alloc (.cells #[.int .i64 c] 3)) := ((Ext.refl _ _).alloc _).alloc _
  have hb := (Blk.new w [.pointer p] 58).alloc (.cells #[.int .i64 c] 3)
  have hit := NoB.it _ (w.heap.size + 1) (.pointer p) K c _ hb (h.ext hx0)
  refine (bgone_c 74 _ _ [] _ hit (Go.Proofs.enters_of Try.func74 (by kernel_rfl) rfl) (by simp) 9 _ (Nat.le_refl _) (fun b hb => ⟨?_, rfl⟩)).mono ?_
  · rcases List.mem_cons.1 hb with rfl | hm
    · simp; omega
    · have := h.lt b hm; simp; omega
  · rintro e w' ⟨v, rfl, h1, h2⟩
    obtain ⟨a, k, rfl, _, _⟩ := ownsRow_form h1
    exact ⟨⟨a, k, rfl⟩, hx0.trans h2⟩

theorem buddyNobody_c (d f o h : Int) (w : World) : Calls Try.prog 10 #[.agg #[.int .i64 d, .int .i64 f, .int .i64 o, .int .i64 h]] w fun e w' => e = .returned (.bool true) ∧ Ext [] w w' := by
  have bA := Blk.new w [.int .i64 d, .int .i64 f, .int .i64 o, .int .i64 h] 67
  have hx0 : Ext [] w (w.alloc (.cells #[.int .i64 d, .int .i64 f, .int .i64 o, .int .i64 h] 67)) := (Ext.refl _ _).alloc _
  have BA := Lib.hid bA
  have HX0 := Lib.hid hx0
  have hlt : w.heap.size < (w.alloc (.cells #[.int .i64 d, .int .i64 f, .int .i64 o, .int .i64 h] 67)).heap.size := by simp
  clear bA hx0
  go_enter Try.func10, Try.ntmps10
  go_wp2
  generalize w.alloc (.cells #[.int .i64 d, .int .i64 f, .int .i64 o, .int .i64 h] 67) = w0 at *
  go_loopg [3, 4, 5, 6] 2 (fun g z _ _ _ wr => ∃ i : Nat, i ≤ 2 ∧ g = 2 - i ∧ z = .int .i64 i ∧ Ext [] w0 wr)
  case atStart => exact ⟨0, by omega, rfl, rfl, Ext.refl _ _⟩
  case round =>
    obtain ⟨i, hi, hg, rfl, hx⟩ := hrel
    have HX := Lib.hid hx
    have S0 := Lib.hid (BA.out.ext hx (by simp))
    have k1 := S0.out.cell 1
    have k2 := S0.out.cell 2
    have N0 : Hid (NoB wr (.pointer none) []) := .inl ⟨rfl, rfl⟩
    have hwl := hx.size
    clear hx
    obtain rfl | rfl | rfl : i = 0 ∨ i = 1 ∨ i = 2 := by omega
    · clear hi
      go_wp2_with (first
        | (go_at_call 33; refine (N0.out.alloc_ _).mono ?_; rintro e w1 ⟨rfl, hx⟩; have N0 := Lib.hid (N0.out.ext hx); have S0 := Lib.hid (S0.out.ext hx (by simp)); have HX := Lib.hid (HX.out.trans hx); clear k1 k2; have k1 := S0.out.cell 1; have k2 := S0.out.cell 2; clear hx)
        | (go_at_call 29; refine (N0.out.free_ _ _).mono ?_; rintro e w1 ⟨rfl, hx⟩; have N0 := Lib.hid (N0.out.ext hx); have S0 := Lib.hid (S0.out.ext hx (by simp)); have HX := Lib.hid (HX.out.trans hx); clear k1 k2; have k1 := S0.out.cell 1; have k2 := S0.out.cell 2; clear hx)
        | (go_at_call 34; refine (N0.out.shatter_ _ _).mono ?_; rintro e w1 ⟨rfl, hx⟩; have N0 := Lib.hid (N0.out.ext hx); have S0 := Lib.hid (S0.out.ext hx (by simp)); have HX := Lib.hid (HX.out.trans hx); clear k1 k2; have k1 := S0.out.cell 1; have k2 := S0.out.cell 2; clear hx)
        | (go_at_call 32; refine (NoB.left_ _ _ _ N0.out).mono ?_; rintro e w1 ⟨rfl, hx⟩; have N0 := Lib.hid (N0.out.ext hx); have S0 := Lib.hid (S0.out.ext hx (by simp)); have HX := Lib.hid (HX.out.trans hx); clear k1 k2; have k1 := S0.out.cell 1; have k2 := S0.out.cell 2; clear hx)
        | (go_at_call 35; refine (NoB.most_ _ _ _ N0.out).mono ?_; rintro e w1 ⟨rfl, hx⟩; have N0 := Lib.hid (N0.out.ext hx); have S0 := Lib.hid (S0.out.ext hx (by simp)); have HX := Lib.hid (HX.out.trans hx); clear k1 k2; have k1 := S0.out.cell 1; have k2 := S0.out.cell 2; clear hx)
        | (go_at_call 26; refine (Bud.free_blocks).mono ?_; rintro e w1 ⟨rfl, rfl⟩)
        | (go_at_call 27; refine (Bud.taken_blocks).mono ?_; rintro e w1 ⟨rfl, rfl⟩)
        | (go_at_call 25; refine (N0.out.gone _).mono ?_; rintro e w1 ⟨⟨sa, sk, rfl⟩, hx⟩; have N0 := Lib.hid (N0.out.ext hx); have S0 := Lib.hid (S0.out.ext hx (by simp)); have HX := Lib.hid (HX.out.trans hx); clear k1 k2; have k1 := S0.out.cell 1; have k2 := S0.out.cell 2; clear hx))
      go_roundg (2 - 1)
      case measure => omega
      case rel => exact ⟨1, by omega, by omega, by go_num, HX.out⟩
    · clear hi N0
      have N0 : Hid (NoB (wr.alloc (.cells #[.int .i64 0, .slice none 0 0] 87)) (.pointer (some ⟨wr.heap.size, 0, none⟩)) [wr.heap.size]) := .inr ⟨_, rfl, rfl, Blk.new wr [.int .i64 0, .slice none 0 0] 87⟩
      have hx : Ext [] wr (wr.alloc (.cells #[.int .i64 0, .slice none 0 0] 87)) := (Ext.refl _ _).alloc _
      have S0 := Lib.hid (S0.out.ext hx (by simp))
      have HX := Lib.hid (HX.out.trans hx)
      clear k1 k2 hx
      have k1 := S0.out.cell 1
      have k2 := S0.out.cell 2
      go_wp2_with (first
        | (go_at_call 33; refine (N0.out.alloc_ _).mono ?_; rintro e w1 ⟨rfl, hx⟩; have N0 := Lib.hid (N0.out.ext hx); have S0 := Lib.hid (S0.out.ext hx (by simp)); have HX := Lib.hid (HX.out.trans hx); clear k1 k2; have k1 := S0.out.cell 1; have k2 := S0.out.cell 2; clear hx)
        | (go_at_call 29; refine (N0.out.free_ _ _).mono ?_; rintro e w1 ⟨rfl, hx⟩; have N0 := Lib.hid (N0.out.ext hx); have S0 := Lib.hid (S0.out.ext hx (by simp)); have HX := Lib.hid (HX.out.trans hx); clear k1 k2; have k1 := S0.out.cell 1; have k2 := S0.out.cell 2; clear hx)
        | (go_at_call 34; refine (N0.out.shatter_ _ _).mono ?_; rintro e w1 ⟨rfl, hx⟩; have N0 := Lib.hid (N0.out.ext hx); have S0 := Lib.hid (S0.out.ext hx (by simp)); have HX := Lib.hid (HX.out.trans hx); clear k1 k2; have k1 := S0.out.cell 1; have k2 := S0.out.cell 2; clear hx)
        | (go_at_call 32; refine (NoB.left_ _ _ _ N0.out).mono ?_; rintro e w1 ⟨rfl, hx⟩; have N0 := Lib.hid (N0.out.ext hx); have S0 := Lib.hid (S0.out.ext hx (by simp)); have HX := Lib.hid (HX.out.trans hx); clear k1 k2; have k1 := S0.out.cell 1; have k2 := S0.out.cell 2; clear hx)
        | (go_at_call 35; refine (NoB.most_ _ _ _ N0.out).mono ?_; rintro e w1 ⟨rfl, hx⟩; have N0 := Lib.hid (N0.out.ext hx); have S0 := Lib.hid (S0.out.ext hx (by simp)); have HX := Lib.hid (HX.out.trans hx); clear k1 k2; have k1 := S0.out.cell 1; have k2 := S0.out.cell 2; clear hx)
        | (go_at_call 26; refine (Bud.free_blocks).mono ?_; rintro e w1 ⟨rfl, rfl⟩)
        | (go_at_call 27; refine (Bud.taken_blocks).mono ?_; rintro e w1 ⟨rfl, rfl⟩)
        | (go_at_call 25; refine (N0.out.gone _).mono ?_; rintro e w1 ⟨⟨sa, sk, rfl⟩, hx⟩; have N0 := Lib.hid (N0.out.ext hx); have S0 := Lib.hid (S0.out.ext hx (by simp)); have HX := Lib.hid (HX.out.trans hx); clear k1 k2; have k1 := S0.out.cell 1; have k2 := S0.out.cell 2; clear hx))
      go_roundg (2 - 2)
      case measure => omega
      case rel => exact ⟨2, by omega, by omega, by go_num, HX.out⟩
    · clear hi N0 k1 k2
      go_wp2_with (go_at_call 24; refine (awake_c _).mono ?_; rintro e w1 ⟨rfl, hx⟩; have HX := Lib.hid (HX.out.trans hx); clear hx)
      go_ret
      exact ⟨rfl, HX0.out.trans HX.out⟩

end Go.Proofs.Ytkpnmknkimlnaaa
