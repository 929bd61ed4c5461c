/-
  Phys: both memories read alike.
-/
import Derived.Test.YtkpnmknkimlnaaaPhysL
namespace Go.Proofs.Ytkpnmknkimlnaaa
set_option linter.unusedVariables false
set_option linter.unusedSimpArgs false
open Go.RowKit
set_option maxHeartbeats 2000000
set_option maxRecDepth 10000
set_option linter.unusedSectionVars false

theorem getW_form (n : Nat) (wd : Nat → Int) (f i : Int) : ∃ a e : Int, getW n wd f i = .tuple #[.int .u64 a, .int .i64 e] := by
  unfold getW; split <;> exact ⟨_, _, rfl⟩
theorem getO_form (n : Nat) (kd nd : Nat → Int) (f : Int) : ∃ a b e : Int, getO n kd nd f = .tuple #[.agg #[.int .i64 a, .int .i64 b], .int .i64 e] := by
  unfold getO; split <;> exact ⟨_, _, _, rfl⟩
theorem getN_form (n : Nat) (E : Int) (f : Int) : ∃ a e : Int, (if hasF n f then Value.tuple #[.int .i64 (wrap64 (f / E)), .int .i64 0] else .tuple #[.int .i64 0, .int .i64 1]) = .tuple #[.int .i64 a, .int .i64 e] := by
  split <;> exact ⟨_, _, rfl⟩

theorem is_c (bm bl br bw bo N E : Nat) (wd kd nd : Nat → Int) (w : World) (h : BothIs w bm bl br bw bo N E wd kd nd) :
    Calls Try.prog 20 #[.pointer (some ⟨bm, 0, none⟩), .pointer (some ⟨br, 0, none⟩)] w fun e w' => e = .returned (.bool true) ∧ Ext [] w w' := by
  have hm := h.ref.mul.1
  have hw := h.ref.mul.2.1
  have H := Lib.hid h
  have CS := Lib.hid h.mem.size
  have HL := Lib.hid h.mem.le
  clear h
  go_enter Try.func20, Try.ntmps20
  go_wp2_with (go_at_call 36; refine (CS.out).mono ?_; rintro e w1 ⟨rfl, hx1⟩; have c0 := (H.out.ext hx1).ref.head.cell 0; have c1 := (H.out.ext hx1).ref.head.cell 1; have HX1 := Lib.hid hx1; clear hx1)
  clear c0 c1
  generalize hM : N * E = M at *
  have hmw : wrap64 ((N : Int) * (E : Int)) = (M : Int) := by rw [hm, hw]
  clear hm hw
  go_loopw [7] (fun i wr => ∃ x : Int, -1 ≤ x ∧ x ≤ M + 1 ∧ i = .int .i64 x ∧ Ext [] w wr) (fun i _ => (M + 2) - (intOf i + 1).toNat)
  case atStart => exact ⟨-1, by omega, by omega, rfl, HX1.out⟩
  case round =>
    obtain ⟨x, hx0, hx1, rfl, hx⟩ := hrel
    by_cases hlt : x ≤ M
    · have HXr := Lib.hid hx
      clear hx
      go_wp2
      rw [hmw]
      go_loopw [8] (fun i wr2 => ∃ y : Int, -1 ≤ y ∧ y ≤ 9 ∧ i = .int .i64 y ∧ Ext [] w wr2) (fun i _ => 10 - (intOf i + 1).toNat)
      case atStart => exact ⟨-1, by omega, by omega, rfl, HXr.out⟩
      case round =>
        obtain ⟨y, hy0, hy1, rfl, hx⟩ := hrel
        by_cases hl : y ≤ 8
        · have B := H.out.ext hx
          obtain ⟨a, e, hg⟩ := getW_form (N * E) wd x y
          have CW := Lib.hid (show Calls Try.prog 17 _ wr _ from hg ▸ B.mem.word x y)
          have CR := Lib.hid (fun w' (hx' : Ext [] wr w') => show Calls Try.prog 53 _ w' _ from hg ▸ (B.ext hx').ref.word x y)
          have HX := Lib.hid hx
          clear hx B hg
          go_wp2_with (first
            | (go_at_call 17; refine (CW.out).mono ?_; rintro e w2 ⟨rfl, hx2⟩; have HX2 := Lib.hid hx2; clear hx2)
            | (go_at_call 53; refine (CR.out _ HX2.out).mono ?_; rintro e w3 ⟨rfl, hx3⟩))
          go_roundw
          case rel => exact ⟨y + 1, by omega, by omega, rfl, (HX.out.trans HX2.out).drew⟩
          case measure => simp [intOf]; omega
        · obtain rfl : y = 9 := by omega
          have B := H.out.ext hx
          have hwx : wrap64 (x + 1) = x + 1 := wrap64_of (by omega) (by have := HL.out; omega)
          have HWX := Lib.hid hwx
          clear hwx
          obtain ⟨o1, o2, oe, ho⟩ := getO_form (N * E) kd nd x
          obtain ⟨n1, ne, hn⟩ := getN_form (N * E) E x
          have CO := Lib.hid (show Calls Try.prog 38 _ wr _ from ho ▸ B.mem.owner x)
          have CRO := Lib.hid (fun w' (hx' : Ext [] wr w') => show Calls Try.prog 54 _ w' _ from ho ▸ (B.ext hx').ref.owner x)
          have CN := Lib.hid (fun w' (hx' : Ext [] wr w') => show Calls Try.prog 37 _ w' _ from hn ▸ (B.ext hx').mem.node x)
          have CRN := Lib.hid (fun w' (hx' : Ext [] wr w') => show Calls Try.prog 55 _ w' _ from hn ▸ (B.ext hx').ref.node x)
          have HX := Lib.hid hx
          clear hx B ho hn
          go_wp2_with (first
            | (go_at_call 38; refine (CO.out).mono ?_; rintro e w2 ⟨rfl, hx2⟩; have hB := Blk.new w2 [.int .i64 o1, .int .i64 o2] 35; have HX2 := Lib.hid (hx2.alloc (.cells #[.int .i64 o1, .int .i64 o2] 35)); clear hx2)
            | (go_at_call 54; refine (CRO.out _ HX2.out).mono ?_; rintro e w3 ⟨rfl, hx3⟩; have hB1 := (hB.ext hx3 (by simp)).alloc (.cells #[.int .i64 o1, .int .i64 o2] 35); have hC := Blk.new w3 [.int .i64 o1, .int .i64 o2] 35; have HX3 := Lib.hid ((HX2.out.trans hx3).alloc (.cells #[.int .i64 o1, .int .i64 o2] 35)); clear hx3 hB)
            | (go_at_call 37; refine (CN.out _ HX3.out).mono ?_; rintro e w4 ⟨rfl, hx4⟩; have hB2 := hB1.ext hx4 (by simp); have hC2 := hC.ext hx4 (by simp); have HX4 := Lib.hid (HX3.out.trans hx4); clear hx4 hB1 hC)
            | (go_at_call 55; refine (CRN.out _ HX4.out).mono ?_; rintro e w5 ⟨rfl, hx5⟩; have b0 := (hB2.ext hx5 (by simp)).cell 0; have b1 := (hB2.ext hx5 (by simp)).cell 1; have d0 := (hC2.ext hx5 (by simp)).cell 0; have d1 := (hC2.ext hx5 (by simp)).cell 1; have HX5 := Lib.hid (HX4.out.trans hx5); clear hx5 hB2 hC2))
          go_roundw
          case rel => exact ⟨x + 1, by omega, by omega, by rw [HWX.out], HX.out.trans HX5.out⟩
          case measure => simp [intOf, HWX.out]; omega
    · have HX := Lib.hid hx
      clear hx
      go_wp2
      go_ret
      exact ⟨rfl, HX.out⟩

end Go.Proofs.Ytkpnmknkimlnaaa
