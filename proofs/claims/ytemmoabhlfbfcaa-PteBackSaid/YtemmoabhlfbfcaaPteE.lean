/-
  The laws PteDecodes and PteLeaves, walked.
-/
import Derived.Test.YtemmoabhlfbfcaaPteD
namespace Go.Proofs.Ytemmoabhlfbfcaa
set_option linter.unusedVariables false
set_option linter.unusedSimpArgs false
open Go.RowKit
set_option maxHeartbeats 2000000
set_option maxRecDepth 10000

theorem PTE.decV_form (v : Int) : ∃ (p : PTE) (e : Int), PTE.decV v = .tuple #[.agg p.cells, .int .i64 e] := by
  unfold PTE.decV; split
  · exact ⟨_, _, rfl⟩
  · exact ⟨_, _, rfl⟩

theorem pteDecodes_c (v : Int) (w0 : (Lit.int .u64 v).wf = true) (w : World) :
    Calls Try.prog 9 #[.int .u64 v] w fun e w' => e = .returned (.bool true) ∧ Ext [] w w' := by
  have hb : 0 ≤ v ∧ v < 18446744073709551616 := by simp [Lit.wf, IntKind.min, IntKind.max, IntKind.signed, IntKind.bits] at w0; omega
  have C := Lib.hid (fun w => dec_c v w)
  have CR := Lib.hid (fun w => rdec_c v hb.1 hb.2 w)
  obtain ⟨p, e, he⟩ := PTE.decV_form v
  rw [he] at C CR
  clear he hb w0
  obtain ⟨pr, wr, hu, ac, di, ma, re, fr⟩ := p
  unfold PTE.cells at *
  simp only [] at *
  go_enter Try.func9, Try.ntmps9
  go_wp2_with (first
    | (go_at_call 35; refine (C.out _).mono ?_; rintro e w2 ⟨rfl, hx⟩; have hB := Blk.new w2 [.bool pr, .bool wr, .bool hu, .bool ac, .bool di, .bool ma, .bool re, .int .i64 fr] 39)
    | (go_at_call 36; refine (CR.out _).mono ?_; rintro e w3 ⟨rfl, hx3⟩; obtain ⟨k0, k1, k2, k3, k4, k5, k6, k7⟩ := ((hB.ext hx3 (by simp)).alloc (.cells #[.bool pr, .bool wr, .bool hu, .bool ac, .bool di, .bool ma, .bool re, .int .i64 fr] 39)).cells8 rfl)
    | (go_at_call 29; refine (awake05_c _).mono ?_; rintro e w4 ⟨rfl, hx4⟩))
  go_ret
  exact ⟨rfl, (((hx.alloc _).trans hx3).alloc _).trans hx4⟩

theorem leafV_form (fr perm : Int) (hu re : Bool) : (∃ wr : Bool, perm = (PTE.mk true wr hu false false false re fr).lets ∧ leafV fr perm hu re = .tuple #[.agg (PTE.mk true wr hu false false false re fr).cells, .int .i64 0]) ∨ leafV fr perm hu re = .tuple #[.agg PTE.zero.cells, .int .i64 1] := by
  unfold leafV
  split
  · next h =>
    unfold leafOk at h
    simp at h
    left
    rcases h.1 with h | h
    · subst h; exact ⟨false, rfl, rfl⟩
    · subst h; exact ⟨true, rfl, rfl⟩
  · exact .inr rfl

theorem pteLeaves_c (fr perm : Int) (f : Int) (w2 : (Lit.int .u8 f).wf = true) (w : World) :
    Calls Try.prog 10 #[.int .i64 fr, .int .i64 perm, .int .u8 f] w fun e w' => e = .returned (.bool true) ∧ Ext [] w w' := by
  have hb : 0 ≤ f ∧ f < 256 := by simp [Lit.wf, IntKind.min, IntKind.max, IntKind.signed, IntKind.bits] at w2; omega
  have C := Lib.hid (fun w => leaf_c fr perm (bits .and .u8 f 1 != 0) (bits .and .u8 f 2 != 0) w)
  have CR := Lib.hid (fun w => rleaf_c fr perm (bits .and .u8 f 1 != 0) (bits .and .u8 f 2 != 0) w)
  have hform := leafV_form fr perm (bits .and .u8 f 1 != 0) (bits .and .u8 f 2 != 0)
  rcases hform with ⟨wr, hp, he⟩ | he
  · have CP := Lib.hid (fun w => perm_c (PTE.mk true wr (bits .and .u8 f 1 != 0) false false false (bits .and .u8 f 2 != 0) fr) w)
    rw [← hp] at CP
    rw [he] at C CR
    clear he hp w2 hb
    unfold PTE.cells at *
    simp only [] at *
    go_enter Try.func10, Try.ntmps10
    go_wp2_with (first
      | (go_at_call 37; refine (C.out _).mono ?_; rintro e w2 ⟨rfl, hx⟩; have hB := Blk.new w2 [.bool true, .bool wr, .bool (bits .and .u8 f 1 != 0), .bool false, .bool false, .bool false, .bool (bits .and .u8 f 2 != 0), .int .i64 fr] 39)
      | (go_at_call 38; refine (CR.out _).mono ?_; rintro e w3 ⟨rfl, hx3⟩; obtain ⟨k0, k1, k2, k3, k4, k5, k6, k7⟩ := ((hB.ext hx3 (by simp)).alloc (.cells #[.bool true, .bool wr, .bool (bits .and .u8 f 1 != 0), .bool false, .bool false, .bool false, .bool (bits .and .u8 f 2 != 0), .int .i64 fr] 39)).cells8 rfl)
      | (go_at_call 39; refine (CP.out _).mono ?_; rintro e w4 ⟨rfl, hx4⟩)
      | (go_at_call 29; refine (awake05_c _).mono ?_; rintro e w5 ⟨rfl, hx5⟩))
    go_ret
    exact ⟨rfl, ((((hx.alloc _).trans hx3).alloc _).trans hx4).trans hx5⟩
  · rw [he] at C CR
    clear he w2 hb
    unfold PTE.zero PTE.cells at *
    simp only [] at *
    go_enter Try.func10, Try.ntmps10
    go_wp2_with (first
      | (go_at_call 37; refine (C.out _).mono ?_; rintro e w2 ⟨rfl, hx⟩; have hB := Blk.new w2 [.bool false, .bool false, .bool false, .bool false, .bool false, .bool false, .bool false, .int .i64 0] 39)
      | (go_at_call 38; refine (CR.out _).mono ?_; rintro e w3 ⟨rfl, hx3⟩; obtain ⟨k0, k1, k2, k3, k4, k5, k6, k7⟩ := ((hB.ext hx3 (by simp)).alloc (.cells #[.bool false, .bool false, .bool false, .bool false, .bool false, .bool false, .bool false, .int .i64 0] 39)).cells8 rfl)
      | (go_at_call 29; refine (awake05_c _).mono ?_; rintro e w5 ⟨rfl, hx5⟩))
    go_ret
    exact ⟨rfl, (((hx.alloc _).trans hx3).alloc _).trans hx5⟩

end Go.Proofs.Ytemmoabhlfbfcaa
