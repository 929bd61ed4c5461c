/-
  Buddy's law: both allocators tell the same.
-/
import Derived.Test.YtkpnmknkimlnaaaBlI
namespace Go.Proofs.Ytkpnmknkimlnaaa
set_option linter.unusedVariables false
set_option linter.unusedSimpArgs false
open Go.RowKit BuT
set_option maxHeartbeats 4000000
set_option maxRecDepth 100000
set_option linter.unusedVariables false
set_option linter.unusedSimpArgs false

theorem is_c (w : World) (bp bl rp F n : Nat) (kd od : Nat → Nat) (h : BJ w bp bl rp F n kd od) :
    Calls Try.prog 22 #[.agg #[.pointer (some ⟨bp, 0, none⟩), .pointer (some ⟨rp, 0, none⟩)]] w fun e w' => e = .returned (.bool true) ∧ Ext [] w w' := by
  have hx0 : Ext [] w (w.alloc (.cells #[.pointer (some ⟨bp, 0, none⟩), .pointer (some ⟨rp, 0, none⟩)] 61)).drew := ((Ext.refl _ _).alloc _).drew
  have P := Lib.hid ((Blk.new w [.pointer (some ⟨bp, 0, none⟩), .pointer (some ⟨rp, 0, none⟩)] 61).ext (Ext.refl [] _).drew (by simp))
  have hJ := h.ext0 hx0
  obtain ⟨vF, vT, hR⟩ := hJ.ref
  have J := Lib.hid hJ
  have HR := Lib.hid hR
  have HX0 := Lib.hid hx0
  have HXc := Lib.hid (Ext.refl [] (w.alloc (.cells #[.pointer (some ⟨bp, 0, none⟩), .pointer (some ⟨rp, 0, none⟩)] 61)).drew)
  have e1 : (leftB (blks (F : Int) kd od 1 n) == leftB (blks (F : Int) kd od 1 n)) = true := by simp
  have e2 : (mostB (blks (F : Int) kd od 1 n) == mostB (blks (F : Int) kd od 1 n)) = true := by simp
  have O1 := Lib.hid (h.ords 1 (by omega))
  have L1 := Lib.hid (h.len 1)
  have L2 := Lib.hid (h.len 2)
  have t1 : (blks (F : Int) kd od 1 n).take (9999 : Int).toNat = blks (F : Int) kd od 1 n := List.take_of_length_le (by have := h.len 1; simp; omega)
  have t2 : (blks (F : Int) kd od 2 n).take (9999 : Int).toNat = blks (F : Int) kd od 2 n := List.take_of_length_le (by have := h.len 2; simp; omega)
  have T1 := Lib.hid t1
  have T2 := Lib.hid t2
  clear t1 t2 h hJ hR hx0
  go_enter Try.func22, Try.ntmps22
  go_wp2
  go_region_held3 (fun cur => cur.cell? ⟨w.heap.size, 0, none⟩ = some (.pointer (some ⟨bp, 0, none⟩)) ∧ cur.cell? ⟨w.heap.size, 1, none⟩ = some (.pointer (some ⟨rp, 0, none⟩)) ∧ cur.cell? ⟨rp, 2, none⟩ = some vF ∧ cur.cell? ⟨rp, 3, none⟩ = some vT)
    (exact ⟨(P.out.ext HXc.out (by simp)).cell 0, (P.out.ext HXc.out (by simp)).cell 1, (HR.out.ext0 HXc.out).head.cell 2, (HR.out.ext0 HXc.out).head.cell 3⟩)
    (first
    | (go_at_call 26; generalize (w.alloc (.cells #[.pointer (some ⟨bp, 0, none⟩), .pointer (some ⟨rp, 0, none⟩)] 61)).drew = cur at *; refine (Bud.free_blocks).mono ?_; rintro e w1 ⟨rfl, rfl⟩; have GB := Lib.hid (Bud.gone (J.out.bud.ext HXc.out (by simp) (by simp)) 1 1 rfl 9999); have HXb := Lib.hid HXc.out; have HXc := Lib.hid ((HXc.out.alloc (.cells #[.pointer (some ⟨bp, 0, none⟩)] 58)).alloc (.cells #[.int .i64 1] 3)))
    | (go_at_call 27; refine (Bud.taken_blocks).mono ?_; rintro e w1 ⟨rfl, rfl⟩; have GT := Lib.hid (Bud.gone (J.out.bud.ext HXc.out (by simp) (by simp)) 2 2 rfl 9999); have HXb := Lib.hid HXc.out; have HXc := Lib.hid ((HXc.out.alloc (.cells #[.pointer (some ⟨bp, 0, none⟩)] 58)).alloc (.cells #[.int .i64 2] 3)))
    | (go_at_call 25; refine (GB.out).mono ?_; rintro e w1 ⟨v1, rfl, h1, hx⟩; have V1 := Lib.hid (BSl.of h1); have HXc := Lib.hid (HXb.out.trans hx); clear GB h1 hx)
    | (go_at_call 25; refine (GT.out).mono ?_; rintro e w1 ⟨v2, rfl, h1, hx⟩; have V2 := Lib.hid (BSl.of h1); have HXc := Lib.hid (HXb.out.trans hx); clear GT h1 hx)
    | (go_at_call 31; refine (same_t _ _ _ _ _ V1.out (BSl.of (HR.out.ext0 HXc.out).free) T1.out (by rw [T1.out]; have := L1.out; omega)).mono ?_; rintro e w1 ⟨rfl, hx⟩; clear V1; have HXc := Lib.hid (HXc.out.trans hx); clear hx)
    | (go_at_call 31; refine (same_t _ _ _ _ _ V2.out (BSl.of (HR.out.ext0 HXc.out).taken) T2.out (by rw [T2.out]; have := L2.out; omega)).mono ?_; rintro e w1 ⟨rfl, hx⟩; clear V2; have HXc := Lib.hid (HXc.out.trans hx); clear hx)
    | (go_at_call 32; refine (left_c _ bp bl F n kd od (J.out.bud.ext HXc.out (by simp) (by simp)) O1.out L1.out).mono ?_; rintro e w1 ⟨rfl, hx⟩; have HXc := Lib.hid (HXc.out.trans hx); clear hx)
    | (go_at_call 35; refine (most_c _ bp bl F n kd od (J.out.bud.ext HXc.out (by simp) (by simp)) O1.out L1.out).mono ?_; rintro e w1 ⟨rfl, hx⟩; have HXc := Lib.hid (HXc.out.trans hx); clear hx)
    | (go_at_call 57; refine (rleft_c _ rp [bp, bl] F n _ _ (J.out.ext0 HXc.out).ref O1.out (by have := L1.out; omega)).mono ?_; rintro e w1 ⟨rfl, rfl⟩)
    | (go_at_call 58; refine (rmost_c _ rp [bp, bl] F n _ _ (J.out.ext0 HXc.out).ref O1.out (by have := L1.out; omega)).mono ?_; rintro e w1 ⟨rfl, rfl⟩))
  all_goals
    go_wp2
    go_ret
    exact ⟨rfl, HX0.out.trans HXc.out⟩

end Go.Proofs.Ytkpnmknkimlnaaa
