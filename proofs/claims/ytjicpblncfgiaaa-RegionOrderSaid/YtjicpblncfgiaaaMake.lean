/-
  make, at any element type: one equation for all worlds.
-/
import Derived.Test.YtjicpblncfgiaaaRows
import Derived.Test.YtjicpblncfgiaaaMem
namespace Go.Proofs.Ytjicpblncfgiaaa
set_option linter.unusedVariables false
set_option linter.unusedSimpArgs false
open Go.RowKit

theorem inf_of {t : TypeId} {size bytes : Nat} {z : Value} (h : (Try.prog.info? t).map (fun i => (i.size, i.bytes, i.zero)) = some (size, bytes, some z)) : ∃ i, Try.prog.info? t = some i ∧ i.size = size ∧ i.bytes = bytes ∧ i.zero = some z := by
  cases hi : Try.prog.info? t with
  | none => rw [hi] at h; cases h
  | some i =>
    rw [hi] at h
    simp at h
    exact ⟨i, rfl, h.1, h.2.1, h.2.2⟩

/-- make([]E, n), where a row of the table says E's size, bytes and zero value. -/
theorem mk_of {t e : TypeId} {size bytes : Nat} {z : Value} (ht : Try.prog.underlying t = some (.slice e)) (h : (Try.prog.info? e).map (fun i => (i.size, i.bytes, i.zero)) = some (size, bytes, some z)) (n : Nat) (hn : n ≤ 65536) (hb : bytes ≤ 4096) (w : World) :
    (Instr.makeSlice t (.int .i64 n) (.int .i64 n)).run Try.prog w = .ok (.slice (some ⟨w.heap.size, 0, none⟩) n n) (w.alloc (.cells (madeCells z.cells (n * size)) e)) := by
  obtain ⟨i, hi, rfl, rfl, hz⟩ := inf_of h
  have h1 : i.bytes * n ≤ 4096 * 65536 := Nat.mul_le_mul hb hn
  have h2 : (i.bytes : Int) * (n : Int) ≤ 281474976710656 := by
    have : ((i.bytes * n : Nat) : Int) ≤ 281474976710656 := by omega
    rwa [Int.natCast_mul] at this
  have := run_make (P := Try.prog) w t e i z ht hi hz .i64 .i64 n n (by omega) (by omega) h2 (by omega)
  simpa using this

end Go.Proofs.Ytjicpblncfgiaaa
