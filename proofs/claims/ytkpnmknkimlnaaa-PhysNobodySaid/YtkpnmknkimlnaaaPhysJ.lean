/-
  Phys: a memory made; the law's small question.
-/
import Derived.Test.YtkpnmknkimlnaaaPhysI
namespace Go.Proofs.Ytkpnmknkimlnaaa
set_option linter.unusedVariables false
set_option linter.unusedSimpArgs false
open Go.RowKit
set_option maxHeartbeats 1000000
set_option maxRecDepth 10000
set_option linter.unusedSectionVars false

def zeroF : Nat → Int := fun _ => 0
theorem frameZ_at (k : Nat) : frameZ[k % frameZ.size]! = memF zeroF zeroF zeroF k := by
  have h : k % frameZ.size < 10 := Nat.mod_lt _ (by show 0 < 10; omega)
  have e : frameZ.size = 10 := rfl
  unfold memF zeroF
  rw [e] at h ⊢
  have : k % 10 = 0 ∨ k % 10 = 1 ∨ k % 10 = 2 ∨ k % 10 = 3 ∨ k % 10 = 4 ∨ k % 10 = 5 ∨ k % 10 = 6 ∨ k % 10 = 7 ∨ k % 10 = 8 ∨ k % 10 = 9 := by omega
  rcases this with h | h | h | h | h | h | h | h | h | h <;> rw [h] <;> rfl

/-- A new memory. -/
def MNew (N E : Nat) (w : World) (e : Ending) (w' : World) : Prop :=
  ∃ bm bl : Nat, e = .returned (.tuple #[.pointer (some ⟨bm, 0, none⟩), .int .i64 0]) ∧ Ext [] w w' ∧ w.heap.size ≤ bm ∧ w.heap.size ≤ bl ∧ MemIs w' bm bl N E zeroF zeroF zeroF

theorem mnew_c (N E : Nat) (w : World) (hN : 1 ≤ N ∧ N ≤ 8) (hE : 1 ≤ E ∧ E ≤ 1024) : Calls Try.prog 44 #[.int .i64 N, .int .i64 E] w (MNew N E w) :=
  (new_is N E w hN hE).mono fun e w' hh => by
    obtain ⟨rfl, rfl⟩ := hh
    have s1 : (w.alloc (.cells (madeCells frameZ (N * E * 10)) 117)).heap.size = w.heap.size + 1 := by simp
    have hB := Blk.new (w.alloc (.cells (madeCells frameZ (N * E * 10)) 117)) [.int .i64 N, .int .i64 E, .slice (some ⟨w.heap.size, 0, none⟩) (N * E) (N * E)] 93
    rw [s1] at hB
    exact ⟨_, _, rfl, ((Ext.refl [] w).alloc _).alloc _, by omega, by omega, ⟨hN, hE, by omega, hB, ((Cells.made w frameZ (N * E * 10) 117).alloc _).congr (fun k _ => frameZ_at k)⟩⟩

/-- The reference's new memory. -/
def RNew2 (N E : Nat) (w : World) (e : Ending) (w' : World) : Prop :=
  ∃ br bw bo : Nat, e = .returned (.tuple #[.pointer (some ⟨br, 0, none⟩), .int .i64 0]) ∧ Ext [] w w' ∧ w.heap.size ≤ br ∧ w.heap.size ≤ bw ∧ w.heap.size ≤ bo ∧ RefIs w' br bw bo N E zeroF zeroF zeroF
theorem rnew_c (N E : Nat) (w : World) (hN : 1 ≤ N ∧ N ≤ 8) (hE : 1 ≤ E ∧ E ≤ 1024) : Calls Try.prog 45 #[.int .i64 N, .int .i64 E] w (RNew2 N E w) :=
  (rnew_is N E w hN hE).mono fun e w' hh => by
    obtain ⟨br, bw, bo, rfl, hx, h1, h2, h3, d1, d2, d3, hB, hW, hO⟩ := hh
    exact ⟨br, bw, bo, rfl, hx, h1, h2, h3, ⟨hN, hE, d1, d2, d3, hB, hW, hO.congr (fun k _ => by unfold ownF zeroF; split <;> rfl)⟩⟩

theorem awake02_c (w : World) : Calls Try.prog 14 #[] w fun e w' => e = .returned (.bool true) ∧ Ext [] w w' := by
  have C := Lib.hid (fun w => mnew_c 1 1 w (by omega) (by omega))
  have hz : getW (1 * 1) (setB (1 * 1) zeroF 0 9 5) 0 1 = .tuple #[.int .u64 1280, .int .i64 0] := by kernel_rfl
  have hy : errB (okB (1 * 1) 0 9) = 0 := by kernel_rfl
  have HZ := Lib.hid hz
  have HY := Lib.hid hy
  clear hz hy
  go_enter Try.func14, Try.ntmps14
  go_wp2_with (first
    | (go_at_call 44; refine (C.out _).mono ?_; rintro e w2 ⟨bm, bl, rfl, hx, hbm, hbl, hM⟩; have HS := Lib.hid (hM.setByte 0 9 5 (by omega)); have H1 := Lib.hid hM; clear hM)
    | (go_at_call 40; refine (HS.out).mono ?_; rintro e w3 ⟨rfl, hx3, hM⟩; rw [HY.out]; have HW := Lib.hid (hM.word 0 1); rw [HZ.out] at HW; clear hM)
    | (go_at_call 17; refine (HW.out).mono ?_; rintro e w4 ⟨rfl, hx4⟩))
  go_ret
  exact ⟨rfl, (hx.step hx3 (by simp; omega)).trans hx4⟩

end Go.Proofs.Ytkpnmknkimlnaaa
