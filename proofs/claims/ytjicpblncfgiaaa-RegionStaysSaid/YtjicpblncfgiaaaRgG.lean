/-
  Region: what a space is in memory; New, Len, of, Find, Copy.
-/
import Derived.Test.YtjicpblncfgiaaaRgB
namespace Go.Proofs.Ytjicpblncfgiaaa
set_option linter.unusedVariables false
set_option linter.unusedSimpArgs false
open Go.RowKit RgT SpT
set_option maxHeartbeats 4000000
set_option maxRecDepth 100000
set_option linter.unusedVariables false
set_option linter.unusedSimpArgs false

/-- A space with its map of spans. -/
structure SpIs (w : World) (sp mp : Nat) (nodes : Int) (L : List (Sp U)) : Prop where
  head : Blk w sp [.int .i64 nodes, .pointer (some ⟨mp, 0, none⟩)] 53
  map : SpU.MapIs w mp L
  len : L.length ≤ 4096
theorem NoRow.space {w : World} {b : Nat} {cs : List Value} (h : Blk w b cs 53) : SpU.NoRow w b := fun cur e => by
  unfold Blk at h; rw [h] at e; injection e with e; injection e with _ e; exact absurd e (by decide)
theorem SpIs.ext0 {w w' : World} {sp mp : Nat} {nodes : Int} {L : List (Sp U)} (h : SpIs w sp mp nodes L) (hx : Ext [] w w') : SpIs w' sp mp nodes L := ⟨h.head.ext hx (by simp), h.map.ext0 hx, h.len⟩
theorem snew_bad (nodes : Int) (w : World) (h : nodes < 1 ∨ 8 < nodes) : Calls Try.prog 35 #[.int .i64 nodes] w fun e w' => e = .returned (.tuple #[.pointer none, .int .i64 1]) ∧ w = w' := by
  rcases h with h | h
  · go_enter Try.func35, Try.ntmps35
    go_wp2
    go_ret2
    exact ⟨rfl, rfl⟩
  · have h1 : 1 ≤ nodes := by omega
    go_enter Try.func35, Try.ntmps35
    go_wp2
    go_ret2
    exact ⟨rfl, rfl⟩
def SNew (w : World) (nodes : Int) (e : Ending) (w' : World) : Prop :=
  ∃ sp mp, e = .returned (.tuple #[.pointer (some ⟨sp, 0, none⟩), .int .i64 0]) ∧ Ext [] w w' ∧ SpIs w' sp mp nodes [] ∧ w.heap.size ≤ sp ∧ w.heap.size ≤ mp
theorem snew_is (nodes : Int) (w : World) (h1 : 1 ≤ nodes) (h8 : nodes ≤ 8) : Calls Try.prog 35 #[.int .i64 nodes] w (SNew w nodes) := by
  have hm := (SpU.MapIs.new w).ext0 ((Ext.refl [] _).alloc (.cells #[.int .i64 nodes, .pointer (some ⟨w.heap.size, 0, none⟩)] 53))
  have HM := Lib.hid hm
  clear hm
  go_enter Try.func35, Try.ntmps35
  go_wp2_with (go_at_call 53; refine (SpU.new_c _).mono ?_; rintro e w1 ⟨rfl, rfl⟩)
  go_ret2
  have hb := Blk.new (w.alloc (.cells #[.slice none 0 0, .bool true] 121)) [.int .i64 nodes, .pointer (some ⟨w.heap.size, 0, none⟩)] 53
  rw [World.size_alloc] at hb
  exact ⟨_, _, rfl, ((Ext.refl _ _).alloc _).alloc _, ⟨hb, HM.out, by simp⟩, by omega, by omega⟩
section
variable {w : World} {sp mp : Nat} {nodes : Int} {L : List (Sp U)} (h : SpIs w sp mp nodes L)
include h
theorem SpIs.len_ : Calls Try.prog 18 #[.pointer (some ⟨sp, 0, none⟩)] w fun e w' => e = .returned (.int .i64 (L.length : Int)) ∧ w = w' := by
  have c1 := h.head.cell 1
  have CI := Lib.hid (sis_c w sp mp nodes h.head)
  have CL := Lib.hid (SpU.MapIs.len h.map)
  clear h
  go_enter Try.func18, Try.ntmps18
  go_wp2_with (first | (go_at_call 40; refine (CI.out).mono ?_; rintro e w1 ⟨rfl, rfl⟩) | (go_at_call 41; refine (CL.out).mono ?_; rintro e w1 ⟨rfl, rfl⟩))
  go_ret
  exact ⟨rfl, rfl⟩
end

theorem of_c (f t p k n : Int) (w : World) : Calls Try.prog 44 #[.agg #[.int .i64 f, .int .i64 t, .int .i64 p, .int .i64 k, .int .i64 n]] w fun e w' => e = .returned (.agg #[.int .i64 f, .int .i64 t, .int .i64 p, .int .i64 k, .int .i64 n]) ∧ Ext [] w w' := by
  have b := (Blk.new w [.int .i64 f, .int .i64 t, .int .i64 p, .int .i64 k, .int .i64 n] 97).alloc (.cells #[.int .i64 0, .int .i64 0, .int .i64 0, .int .i64 0, .int .i64 0] 37)
  have b' := Blk.new w [.int .i64 f, .int .i64 t, .int .i64 p, .int .i64 k, .int .i64 n] 97
  have r := Blk.new (w.alloc (.cells #[.int .i64 f, .int .i64 t, .int .i64 p, .int .i64 k, .int .i64 n] 97)) [.int .i64 f, .int .i64 t, .int .i64 p, .int .i64 k, .int .i64 n] 37
  rw [World.size_alloc] at r
  have c0 := b.cell 0
  have c1 := b.cell 1
  have c2 := b.cell 2
  have c3 := b.cell 3
  have c4 := b.cell 4
  have z0 := r.cell 0
  have z1 := r.cell 1
  have z2 := r.cell 2
  have z3 := r.cell 3
  have z4 := r.cell 4
  clear b b' r
  go_enter Try.func44, Try.ntmps44
  go_wp2
  (try simp only [Exit.inBlock, Exit.then])
  refine bodyPost_ret (?_ : (results _ _).run _ _ = .ok (.agg #[.int .i64 f, .int .i64 t, .int .i64 p, .int .i64 k, .int .i64 n]) _) rfl ?_
  · rw [results_cell1 rfl]
    simp [go_sem, z0, z1, z2, z3, z4]
  exact ⟨rfl, ((Ext.refl _ _).alloc _).alloc _⟩

end Go.Proofs.Ytjicpblncfgiaaa
