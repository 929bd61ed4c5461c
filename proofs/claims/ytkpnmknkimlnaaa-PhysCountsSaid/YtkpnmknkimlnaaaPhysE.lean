/-
  Walks over phys: New; and the reference's: New.
-/
import Derived.Test.YtkpnmknkimlnaaaPhysD
namespace Go.Proofs.Ytkpnmknkimlnaaa
set_option linter.unusedVariables false
set_option linter.unusedSimpArgs false
open Go.RowKit
set_option maxHeartbeats 1000000
set_option maxRecDepth 10000

theorem info_of {t : TypeId} {size bytes : Nat} {z : Value} (h : (Try.prog.info? t).map (fun i => (i.size, i.bytes, i.zero)) = some (size, bytes, some z)) : ∃ i, Try.prog.info? t = some i ∧ i.size = size ∧ i.bytes = bytes ∧ i.zero = some z := by
  cases hi : Try.prog.info? t with
  | none => rw [hi] at h; cases h
  | some i =>
    rw [hi] at h
    simp at h
    exact ⟨i, rfl, h.1, h.2.1, h.2.2⟩

/-- make([]E, n), where a row of the table says E's size, bytes and zero value. -/
theorem make_of {t e : TypeId} {size bytes : Nat} {z : Value} (ht : Try.prog.underlying t = some (.slice e)) (h : (Try.prog.info? e).map (fun i => (i.size, i.bytes, i.zero)) = some (size, bytes, some z)) (n : Nat) (hn : n ≤ 65536) (hb : bytes ≤ 4096) (w : World) :
    (Instr.makeSlice t (.int .i64 n) (.int .i64 n)).run Try.prog w = .ok (.slice (some ⟨w.heap.size, 0, none⟩) n n) (w.alloc (.cells (madeCells z.cells (n * size)) e)) := by
  obtain ⟨i, hi, rfl, rfl, hz⟩ := info_of h
  have h1 : i.bytes * n ≤ 4096 * 65536 := Nat.mul_le_mul hb hn
  have h2 : (i.bytes : Int) * (n : Int) ≤ 281474976710656 := by
    have : ((i.bytes * n : Nat) : Int) ≤ 281474976710656 := by omega
    rwa [Int.natCast_mul] at this
  have := run_make (P := Try.prog) w t e i z ht hi hz .i64 .i64 n n (by omega) (by omega) h2 (by omega)
  simpa using this

/-- What New tells, where it makes none. -/
def newBad (N E : Int) : Bool := decide (N < 1) || decide (8 < N) || decide (E < 1) || decide (1024 < E)

theorem new_bad (N E : Int) (w : World) (h : newBad N E = true) : Calls Try.prog 44 #[.int .i64 N, .int .i64 E] w fun e w' => e = .returned (.tuple #[.pointer none, .int .i64 1]) ∧ w = w' := by
  unfold newBad at h
  simp only [Bool.or_eq_true, decide_eq_true_eq] at h
  have h' : N < 1 ∨ (¬ N < 1 ∧ 8 < N) ∨ (¬ N < 1 ∧ ¬ 8 < N ∧ E < 1) ∨ (¬ N < 1 ∧ ¬ 8 < N ∧ ¬ E < 1 ∧ 1024 < E) := by omega
  clear h
  rcases h' with h | ⟨h1, h⟩ | ⟨h1, h2, h⟩ | ⟨h1, h2, h3, h⟩
  all_goals
    go_enter Try.func44, Try.ntmps44
    go_wp2
    go_ret2
    exact ⟨rfl, rfl⟩

def frameZ : Array Value := #[.int .u64 0, .int .u64 0, .int .u64 0, .int .u64 0, .int .u64 0, .int .u64 0, .int .u64 0, .int .u64 0, .int .i64 0, .int .i64 0]

theorem new_is (N E : Nat) (w : World) (hN : 1 ≤ N ∧ N ≤ 8) (hE : 1 ≤ E ∧ E ≤ 1024) : Calls Try.prog 44 #[.int .i64 N, .int .i64 E] w fun e w' =>
    e = .returned (.tuple #[.pointer (some ⟨w.heap.size + 1, 0, none⟩), .int .i64 0]) ∧ w' = (w.alloc (.cells (madeCells frameZ (N * E * 10)) 117)).alloc (.cells #[.int .i64 N, .int .i64 E, .slice (some ⟨w.heap.size, 0, none⟩) (N * E) (N * E)] 93) := by
  have h1 : ¬ ((N : Int) < 1) := by omega
  have h2 : ¬ ((N : Int) > 8) := by omega
  have h3 : ¬ ((E : Int) < 1) := by omega
  have h4 : ¬ ((E : Int) > 1024) := by omega
  have hm : (N : Int) * (E : Int) = ((N * E : Nat) : Int) := by simp
  have hle : N * E ≤ 8 * 1024 := Nat.mul_le_mul hN.2 hE.2
  have mk : ∀ w, (Instr.makeSlice 91 (.int .i64 ((N * E : Nat) : Int)) (.int .i64 ((N * E : Nat) : Int))).run Try.prog w = .ok (.slice (some ⟨w.heap.size, 0, none⟩) (N * E) (N * E)) (w.alloc (.cells (madeCells frameZ (N * E * 10)) 117)) := make_of (t := 91) (e := 117) (size := 10) (bytes := 80) (z := .agg frameZ) Try.underlying91 (by kernel_rfl) (N * E) (by omega) (by omega)
  generalize hM : N * E = M at *
  clear hM
  go_enter Try.func44, Try.ntmps44
  go_wp2
  go_ret2
  exact ⟨rfl, rfl⟩

/-! The reference. Its memory: block br, cells Nodes, Frames, W, O. -/
theorem rnew_bad (N E : Int) (w : World) (h : newBad N E = true) : Calls Try.prog 45 #[.int .i64 N, .int .i64 E] w fun e w' => e = .returned (.tuple #[.pointer none, .int .i64 1]) ∧ w = w' := by
  unfold newBad at h
  simp only [Bool.or_eq_true, decide_eq_true_eq] at h
  have h' : N < 1 ∨ (¬ N < 1 ∧ 8 < N) ∨ (¬ N < 1 ∧ ¬ 8 < N ∧ E < 1) ∨ (¬ N < 1 ∧ ¬ 8 < N ∧ ¬ E < 1 ∧ 1024 < E) := by omega
  clear h
  rcases h' with h | ⟨h1, h⟩ | ⟨h1, h2, h⟩ | ⟨h1, h2, h3, h⟩
  all_goals
    go_enter Try.func45, Try.ntmps45
    go_wp2
    go_ret2
    exact ⟨rfl, rfl⟩

def wordZ : Array Value := #[.int .u64 0]
def ownZ : Array Value := #[.int .i64 0, .int .i64 0]

theorem wordZ_at (k : Nat) : wordZ[k % wordZ.size]! = .int .u64 0 := by
  have : k % wordZ.size = 0 := by show k % 1 = 0; omega
  rw [this]; rfl
theorem ownZ_at (k : Nat) : ownZ[k % ownZ.size]! = .int .i64 0 := by
  have h : k % ownZ.size < 2 := Nat.mod_lt _ (by show 0 < 2; omega)
  have : k % ownZ.size = 0 ∨ k % ownZ.size = 1 := by omega
  rcases this with h | h <;> rw [h] <;> rfl

/-- The reference's new memory. -/
def RNew (N E : Nat) (w : World) (e : Ending) (w' : World) : Prop :=
  ∃ br bw bo : Nat, e = .returned (.tuple #[.pointer (some ⟨br, 0, none⟩), .int .i64 0]) ∧ Ext [] w w' ∧ w.heap.size ≤ br ∧ w.heap.size ≤ bw ∧ w.heap.size ≤ bo ∧ br ≠ bw ∧ br ≠ bo ∧ bw ≠ bo ∧
    Blk w' br [.int .i64 N, .int .i64 E, .slice (some ⟨bw, 0, none⟩) (N * E * 8) (N * E * 8), .slice (some ⟨bo, 0, none⟩) (N * E) (N * E)] 50 ∧
    Cells w' bw (N * E * 8) (fun _ => .int .u64 0) ∧ Cells w' bo (N * E * 2) (fun _ => .int .i64 0)

theorem rnew_fin (N E : Nat) (w : World) :
    RNew N E w (.returned (.tuple #[.pointer (some ⟨w.heap.size + 1 + 1, 0, none⟩), .int .i64 0])) (((w.alloc (.cells (madeCells wordZ (N * E * 8)) 33)).alloc (.cells (madeCells ownZ (N * E * 2)) 35)).alloc (.cells #[.int .i64 N, .int .i64 E, .slice (some ⟨w.heap.size, 0, none⟩) (N * E * 8) (N * E * 8), .slice (some ⟨w.heap.size + 1, 0, none⟩) (N * E) (N * E)] 50)).drew ∧
    RNew N E w (.returned (.tuple #[.pointer (some ⟨w.heap.size + 1 + 1, 0, none⟩), .int .i64 0])) (((w.alloc (.cells (madeCells ownZ (N * E * 2)) 35)).alloc (.cells (madeCells wordZ (N * E * 8)) 33)).alloc (.cells #[.int .i64 N, .int .i64 E, .slice (some ⟨w.heap.size + 1, 0, none⟩) (N * E * 8) (N * E * 8), .slice (some ⟨w.heap.size, 0, none⟩) (N * E) (N * E)] 50)).drew := by
  have s1 : ∀ (w : World) (o : Obj), (w.alloc o).heap.size = w.heap.size + 1 := fun w o => by simp
  constructor
  · have c1 := (((Cells.made w wordZ (N * E * 8) 33).alloc (.cells (madeCells ownZ (N * E * 2)) 35)).alloc (.cells #[.int .i64 N, .int .i64 E, .slice (some ⟨w.heap.size, 0, none⟩) (N * E * 8) (N * E * 8), .slice (some ⟨w.heap.size + 1, 0, none⟩) (N * E) (N * E)] 50)).drew
    have c2 := ((Cells.made (w.alloc (.cells (madeCells wordZ (N * E * 8)) 33)) ownZ (N * E * 2) 35).alloc (.cells #[.int .i64 N, .int .i64 E, .slice (some ⟨w.heap.size, 0, none⟩) (N * E * 8) (N * E * 8), .slice (some ⟨w.heap.size + 1, 0, none⟩) (N * E) (N * E)] 50)).drew
    have c3 := (Blk.new ((w.alloc (.cells (madeCells wordZ (N * E * 8)) 33)).alloc (.cells (madeCells ownZ (N * E * 2)) 35)) [.int .i64 N, .int .i64 E, .slice (some ⟨w.heap.size, 0, none⟩) (N * E * 8) (N * E * 8), .slice (some ⟨w.heap.size + 1, 0, none⟩) (N * E) (N * E)] 50).ext (Ext.refl [] _).drew (by simp)
    simp only [s1] at c2 c3
    exact ⟨_, _, _, rfl, ((((Ext.refl [] w).alloc _).alloc _).alloc _).drew, by omega, by omega, by omega, by omega, by omega, by omega, c3, c1.congr (fun k _ => wordZ_at k), c2.congr (fun k _ => ownZ_at k)⟩
  · have c1 := (((Cells.made w ownZ (N * E * 2) 35).alloc (.cells (madeCells wordZ (N * E * 8)) 33)).alloc (.cells #[.int .i64 N, .int .i64 E, .slice (some ⟨w.heap.size + 1, 0, none⟩) (N * E * 8) (N * E * 8), .slice (some ⟨w.heap.size, 0, none⟩) (N * E) (N * E)] 50)).drew
    have c2 := ((Cells.made (w.alloc (.cells (madeCells ownZ (N * E * 2)) 35)) wordZ (N * E * 8) 33).alloc (.cells #[.int .i64 N, .int .i64 E, .slice (some ⟨w.heap.size + 1, 0, none⟩) (N * E * 8) (N * E * 8), .slice (some ⟨w.heap.size, 0, none⟩) (N * E) (N * E)] 50)).drew
    have c3 := (Blk.new ((w.alloc (.cells (madeCells ownZ (N * E * 2)) 35)).alloc (.cells (madeCells wordZ (N * E * 8)) 33)) [.int .i64 N, .int .i64 E, .slice (some ⟨w.heap.size + 1, 0, none⟩) (N * E * 8) (N * E * 8), .slice (some ⟨w.heap.size, 0, none⟩) (N * E) (N * E)] 50).ext (Ext.refl [] _).drew (by simp)
    simp only [s1] at c2 c3
    exact ⟨_, _, _, rfl, ((((Ext.refl [] w).alloc _).alloc _).alloc _).drew, by omega, by omega, by omega, by omega, by omega, by omega, c3, c2.congr (fun k _ => wordZ_at k), c1.congr (fun k _ => ownZ_at k)⟩

theorem rnew_is (N E : Nat) (w : World) (hN : 1 ≤ N ∧ N ≤ 8) (hE : 1 ≤ E ∧ E ≤ 1024) : Calls Try.prog 45 #[.int .i64 N, .int .i64 E] w (RNew N E w) := by
  have h1 : ¬ ((N : Int) < 1) := by omega
  have h2 : ¬ ((N : Int) > 8) := by omega
  have h3 : ¬ ((E : Int) < 1) := by omega
  have h4 : ¬ ((E : Int) > 1024) := by omega
  have hm : (N : Int) * (E : Int) = ((N * E : Nat) : Int) := by simp
  have hle : N * E ≤ 8 * 1024 := Nat.mul_le_mul hN.2 hE.2
  have mk : ∀ w, (Instr.makeSlice 47 (.int .i64 ((N * E * 8 : Nat) : Int)) (.int .i64 ((N * E * 8 : Nat) : Int))).run Try.prog w = .ok (.slice (some ⟨w.heap.size, 0, none⟩) (N * E * 8) (N * E * 8)) (w.alloc (.cells (madeCells wordZ (N * E * 8)) 33)) := fun w => by
    have := make_of (t := 47) (e := 33) (size := 1) (bytes := 8) (z := .int .u64 0) Try.underlying47 (by kernel_rfl) (N * E * 8) (by omega) (by omega) w
    rwa [Nat.mul_one] at this
  have mk2 : ∀ w, (Instr.makeSlice 48 (.int .i64 ((N * E : Nat) : Int)) (.int .i64 ((N * E : Nat) : Int))).run Try.prog w = .ok (.slice (some ⟨w.heap.size, 0, none⟩) (N * E) (N * E)) (w.alloc (.cells (madeCells ownZ (N * E * 2)) 35)) := make_of (t := 48) (e := 35) (size := 2) (bytes := 16) (z := .agg ownZ) Try.underlying48 (by kernel_rfl) (N * E) (by omega) (by omega)
  have hm8 : ((N * E : Nat) : Int) * 8 = ((N * E * 8 : Nat) : Int) := by simp
  have hwK : wrap64 ((N * E * 8 : Nat) : Int) = ((N * E * 8 : Nat) : Int) := wrap64_of (by omega) (by omega)
  have hwM : wrap64 ((N * E : Nat) : Int) = ((N * E : Nat) : Int) := wrap64_of (by omega) (by omega)
  have fin := rnew_fin N E w
  generalize N * E * 8 = K at *
  generalize N * E = M at *
  have Fin := Lib.hid fin
  clear hle fin
  go_enter Try.func45, Try.ntmps45
  go_wp2
  go_region
  all_goals go_wp2
  · go_ret2
    exact Fin.out.1
  · go_ret2
    exact Fin.out.2

end Go.Proofs.Ytkpnmknkimlnaaa
