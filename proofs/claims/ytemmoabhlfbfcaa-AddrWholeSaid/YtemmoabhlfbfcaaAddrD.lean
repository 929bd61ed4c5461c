/-
  The law AddrWhole: base and place make the address, the four entries the page.
-/
import Derived.Test.YtemmoabhlfbfcaaAddrC
namespace Go.Proofs.Ytemmoabhlfbfcaa
set_option linter.unusedVariables false
set_option linter.unusedSimpArgs false
open Go.RowKit
set_option maxHeartbeats 400000

theorem down8_four (page : Int) (h0 : 0 ≤ page) (h1 : page < 4096) : down8 page 4 = 0 := by simp only [down8]; omega
theorem idx_bd (page level : Int) : 0 ≤ idx page level ∧ idx page level < 8 := by unfold idx; omega
theorem acc_step (page : Int) (k : Nat) (hk : k < 4) : down8 page (4 - k) * 8 + idx page k = down8 page (3 - k) := by
  unfold idx
  have e1 : (3 - (k : Int)).toNat = 3 - k := by omega
  have e2 : 4 - k = (3 - k) + 1 := by omega
  rw [e1, e2]
  show down8 page (3 - k) / 8 * 8 + down8 page (3 - k) % 8 = _
  omega

theorem addrWhole_no (a : Int) (w : World) (h : a < 0 ∨ 262144 ≤ a) : Calls Try.prog 8 #[.int .i64 a] w fun e w' => e = .returned (.bool true) ∧ Ext [] w w' := by
  go_enter Try.func8, Try.ntmps8
  go_wp2_with (first
    | (go_at_call 32; refine (page_no _ _ h).mono ?_; rintro e w' ⟨rfl, rfl⟩)
    | (go_at_call 20; refine (awake_c _).mono ?_; rintro e w' ⟨rfl, hx⟩))
  go_ret
  exact ⟨rfl, hx⟩
theorem base_ok (a : Int) (w : World) (h0 : 0 ≤ a) (h1 : a < 4096) : Calls Try.prog 33 #[.int .i64 a] w fun e w' => e = .returned (two (a * 64) 0) ∧ w = w' := by
  have := base_c a w; unfold baseS at this; rwa [if_pos ⟨h0, h1⟩] at this

theorem addrWhole_ok (a : Int) (w : World) (h0 : 0 ≤ a) (h1 : a < 262144) : Calls Try.prog 8 #[.int .i64 a] w fun e w' => e = .returned (.bool true) ∧ Ext [] w w' := by
  have p0 : 0 ≤ a / 64 := by omega
  have p1 : a / 64 < 4096 := by omega
  have c1 := fun w => page_ok a w h0 h1
  have c2 := fun w => base_ok (a / 64) w p0 p1
  generalize hp : a / 64 = p at *
  have hsum : p * 64 + a % 64 = a := by omega
  have ho : 0 ≤ a % 64 ∧ a % 64 < 64 := by omega
  generalize a % 64 = o at *
  clear hp
  have hs : (p * 64 + o == a) = true := by simpa using hsum
  have C1 := Lib.hid c1
  have C2 := Lib.hid c2
  have Hsum := Lib.hid hsum
  clear c1 c2 hsum
  unfold two at C2
  go_enter Try.func8, Try.ntmps8
  go_wp2_with (first
    | (go_at_call 32; refine (C1.out _).mono ?_; rintro e w' ⟨rfl, rfl⟩)
    | (go_at_call 33; refine (C2.out _).mono ?_; rintro e w' ⟨rfl, rfl⟩))
  go_loop [8, 9] (fun v i => ∃ k : Nat, k ≤ 4 ∧ i = .int .i64 k ∧ v = .int .i64 (down8 p (4 - k))) (fun _ i => 4 - (intOf i).toNat)
  case atStart => exact ⟨0, by omega, rfl, by rw [show 4 - 0 = 4 from rfl, down8_four p p0 p1]⟩
  case round =>
    obtain ⟨k, hk, rfl, rfl⟩ := hrel
    by_cases hlt : k < 4
    · have hb := down8_bd p p0 p1 (4 - k)
      have hi := idx_bd p k
      have C3 := Lib.hid (fun w => index_ok p k w p0 p1 (by omega) (by omega))
      unfold two at C3
      have Ha := Lib.hid (acc_step p k hlt)
      generalize hd : down8 p (4 - k) = d at *
      generalize hx : idx p k = x at *
      clear hd hx
      go_wp2_with (go_at_call 34; refine (C3.out _).mono ?_; rintro e w' ⟨rfl, rfl⟩)
      go_round
      case rel => exact ⟨k + 1, by omega, by go_num, by rw [show 4 - (k + 1) = 3 - k from by omega, ← Ha.out]⟩
      case measure => simp [intOf]; omega
    · have hk4 : k = 4 := by omega
      subst hk4
      have hp0 : down8 p (4 - 4) = p := rfl
      rw [hp0]
      clear hp0
      go_wp2_with (go_at_call 20; refine (awake_c _).mono ?_; rintro e w' ⟨rfl, hx⟩)
      go_ret
      exact ⟨rfl, hx⟩

theorem addrWhole_c (a : Int) (w : World) : Calls Try.prog 8 #[.int .i64 a] w fun e w' => e = .returned (.bool true) ∧ Ext [] w w' := by
  by_cases h : 0 ≤ a ∧ a < 262144
  · exact addrWhole_ok a w h.1 h.2
  · exact addrWhole_no a w (by omega)

end Go.Proofs.Ytemmoabhlfbfcaa
