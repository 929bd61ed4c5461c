/-
  Walks over package phys: words and bytes written and read.
-/
import Derived.Test.YtkpnmknkimlnaaaPhysA
namespace Go.Proofs.Ytkpnmknkimlnaaa
set_option linter.unusedVariables false
set_option linter.unusedSimpArgs false
open Go.RowKit
set_option maxHeartbeats 1000000
set_option maxRecDepth 10000

theorem setWord_no (m : Value) (f i v : Int) (w : World) (h : NoAt m f w) : Calls Try.prog 39 #[m, .int .i64 f, .int .i64 i, .int .u64 v] w fun e w' => e = .returned (.int .i64 1) ∧ w = w' := by
  have H := Lib.hid h
  clear h
  go_enter Try.func39, Try.ntmps39
  go_wp2_with (go_at_call 51; refine (H.out).mono ?_; rintro e w' ⟨rfl, rfl⟩)
  go_ret
  exact ⟨rfl, rfl⟩
theorem setWord_out (m : Value) (f i v : Int) (bl o : Nat) (w : World) (h : AtIs m f bl o w) (hi : i < 0 ∨ 8 ≤ i) : Calls Try.prog 39 #[m, .int .i64 f, .int .i64 i, .int .u64 v] w fun e w' => e = .returned (.int .i64 1) ∧ w = w' := by
  have H := Lib.hid h
  clear h
  rcases hi with hi | hi
  all_goals
    go_enter Try.func39, Try.ntmps39
    go_wp2_with (go_at_call 51; refine (H.out).mono ?_; rintro e w' ⟨rfl, rfl⟩)
    all_goals
      go_ret
      exact ⟨rfl, rfl⟩
theorem setWord_is (m : Value) (f v : Int) (i : Nat) (bl o : Nat) (w : World) (h : AtIs m f bl o w) (hi : i < 8) (x : Value) (c : w.cell? ⟨bl, o + i, none⟩ = some x) (fr : w.frozen? ⟨bl, o + i, none⟩ = false) :
    Calls Try.prog 39 #[m, .int .i64 f, .int .i64 i, .int .u64 v] w fun e w' => e = .returned (.int .i64 0) ∧ w' = w.setCell ⟨bl, o + i, none⟩ (.int .u64 v) := by
  have H := Lib.hid h
  clear h
  have h0 : ¬ ((i : Int) < 0) := by omega
  have h1 : ¬ ((i : Int) ≥ 8) := by omega
  go_enter Try.func39, Try.ntmps39
  go_wp2_with (go_at_call 51; refine (H.out).mono ?_; rintro e w' ⟨rfl, rfl⟩)
  go_ret
  exact ⟨rfl, rfl⟩

theorem byte_no (m : Value) (f i : Int) (w : World) (h : NoAt m f w) : Calls Try.prog 15 #[m, .int .i64 f, .int .i64 i] w fun e w' => e = .returned (.tuple #[.int .u8 0, .int .i64 1]) ∧ w = w' := by
  have H := Lib.hid h
  clear h
  go_enter Try.func15, Try.ntmps15
  go_wp2_with (go_at_call 51; refine (H.out).mono ?_; rintro e w' ⟨rfl, rfl⟩)
  go_ret2
  exact ⟨rfl, rfl⟩
theorem byte_out (m : Value) (f i : Int) (bl o : Nat) (w : World) (h : AtIs m f bl o w) (hi : i < 0 ∨ 64 ≤ i) : Calls Try.prog 15 #[m, .int .i64 f, .int .i64 i] w fun e w' => e = .returned (.tuple #[.int .u8 0, .int .i64 1]) ∧ w = w' := by
  have H := Lib.hid h
  clear h
  rcases hi with hi | hi
  all_goals
    go_enter Try.func15, Try.ntmps15
    go_wp2_with (go_at_call 51; refine (H.out).mono ?_; rintro e w' ⟨rfl, rfl⟩)
    all_goals
      go_ret2
      exact ⟨rfl, rfl⟩
/-- A byte of a word. -/
def byteOf (v : Int) : Nat → Int
  | 0 => v % 256
  | 1 => v / 256 % 256
  | 2 => v / 65536 % 256
  | 3 => v / 16777216 % 256
  | 4 => v / 4294967296 % 256
  | 5 => v / 1099511627776 % 256
  | 6 => v / 281474976710656 % 256
  | _ => v / 72057594037927936 % 256
/-- A word with another byte. -/
def byteIn (v b : Int) : Nat → Int
  | 0 => bits .or .u64 (bits .andNot .u64 v 255) b
  | 1 => bits .or .u64 (bits .andNot .u64 v 65280) (b * 256)
  | 2 => bits .or .u64 (bits .andNot .u64 v 16711680) (b * 65536)
  | 3 => bits .or .u64 (bits .andNot .u64 v 4278190080) (b * 16777216)
  | 4 => bits .or .u64 (bits .andNot .u64 v 1095216660480) (b * 4294967296)
  | 5 => bits .or .u64 (bits .andNot .u64 v 280375465082880) (b * 1099511627776)
  | 6 => bits .or .u64 (bits .andNot .u64 v 71776119061217280) (b * 281474976710656)
  | _ => bits .or .u64 (bits .andNot .u64 v 18374686479671623680) (b * 72057594037927936)
theorem byte_is (m : Value) (f : Int) (q r : Nat) (bl o : Nat) (w : World) (h : AtIs m f bl o w) (hq : q < 8) (hr : r < 8) (v : Int) (c : w.cell? ⟨bl, o + q, none⟩ = some (.int .u64 v)) :
    Calls Try.prog 15 #[m, .int .i64 f, .int .i64 ((q * 8 + r : Nat) : Int)] w fun e w' => e = .returned (.tuple #[.int .u8 (byteOf v r), .int .i64 0]) ∧ w = w' := by
  have H := Lib.hid h
  clear h
  have h0 : ¬ (((q * 8 + r : Nat) : Int) < 0) := by omega
  have h1 : ¬ (((q * 8 + r : Nat) : Int) ≥ 64) := by omega
  have h2 : ((q * 8 + r : Nat) : Int) / 8 = (q : Int) := by omega
  have h3 : ((q * 8 + r : Nat) : Int) % 8 = (r : Int) := by omega
  generalize ((q * 8 + r : Nat) : Int) = i at *
  have hn : r = 0 ∨ r = 1 ∨ r = 2 ∨ r = 3 ∨ r = 4 ∨ r = 5 ∨ r = 6 ∨ r = 7 := by omega
  rcases hn with rfl | rfl | rfl | rfl | rfl | rfl | rfl | rfl
  all_goals
    go_enter Try.func15, Try.ntmps15
    go_wp2_with (go_at_call 51; refine (H.out).mono ?_; rintro e w' ⟨rfl, rfl⟩)
    go_ret2
    exact ⟨rfl, rfl⟩

theorem setByte_no (m : Value) (f i v : Int) (w : World) (h : NoAt m f w) : Calls Try.prog 40 #[m, .int .i64 f, .int .i64 i, .int .u8 v] w fun e w' => e = .returned (.int .i64 1) ∧ w = w' := by
  have H := Lib.hid h
  clear h
  go_enter Try.func40, Try.ntmps40
  go_wp2_with (go_at_call 51; refine (H.out).mono ?_; rintro e w' ⟨rfl, rfl⟩)
  go_ret
  exact ⟨rfl, rfl⟩
theorem setByte_out (m : Value) (f i v : Int) (bl o : Nat) (w : World) (h : AtIs m f bl o w) (hi : i < 0 ∨ 64 ≤ i) : Calls Try.prog 40 #[m, .int .i64 f, .int .i64 i, .int .u8 v] w fun e w' => e = .returned (.int .i64 1) ∧ w = w' := by
  have H := Lib.hid h
  clear h
  rcases hi with hi | hi
  all_goals
    go_enter Try.func40, Try.ntmps40
    go_wp2_with (go_at_call 51; refine (H.out).mono ?_; rintro e w' ⟨rfl, rfl⟩)
    all_goals
      go_ret
      exact ⟨rfl, rfl⟩
theorem setByte_is (m : Value) (f b : Int) (q r : Nat) (bl o : Nat) (w : World) (h : AtIs m f bl o w) (hq : q < 8) (hr : r < 8) (hb : 0 ≤ b ∧ b < 256) (v : Int) (c : w.cell? ⟨bl, o + q, none⟩ = some (.int .u64 v)) (fr : w.frozen? ⟨bl, o + q, none⟩ = false) :
    Calls Try.prog 40 #[m, .int .i64 f, .int .i64 ((q * 8 + r : Nat) : Int), .int .u8 b] w fun e w' => e = .returned (.int .i64 0) ∧ w' = w.drew.setCell ⟨bl, o + q, none⟩ (.int .u64 (byteIn v b r)) := by
  have H := Lib.hid h
  clear h
  have h0 : ¬ (((q * 8 + r : Nat) : Int) < 0) := by omega
  have h1 : ¬ (((q * 8 + r : Nat) : Int) ≥ 64) := by omega
  have h2 : ((q * 8 + r : Nat) : Int) / 8 = (q : Int) := by omega
  have h3 : ((q * 8 + r : Nat) : Int) % 8 = (r : Int) := by omega
  generalize ((q * 8 + r : Nat) : Int) = i at *
  have hn : r = 0 ∨ r = 1 ∨ r = 2 ∨ r = 3 ∨ r = 4 ∨ r = 5 ∨ r = 6 ∨ r = 7 := by omega
  rcases hn with rfl | rfl | rfl | rfl | rfl | rfl | rfl | rfl
  all_goals
    go_enter Try.func40, Try.ntmps40
    go_wp2_with (go_at_call 51; refine (H.out).mono ?_; rintro e w' ⟨rfl, rfl⟩)
    go_region
    go_wp2
    go_ret
    exact ⟨rfl, rfl⟩

end Go.Proofs.Ytkpnmknkimlnaaa
