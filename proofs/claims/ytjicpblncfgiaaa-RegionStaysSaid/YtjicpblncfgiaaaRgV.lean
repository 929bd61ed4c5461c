/-
  Region's laws: awake.
-/
import Derived.Test.YtjicpblncfgiaaaRgQ
namespace Go.Proofs.Ytjicpblncfgiaaa
set_option linter.unusedVariables false
set_option linter.unusedSimpArgs false
open Go.RowKit RgT SpT
set_option maxHeartbeats 4000000
set_option maxRecDepth 100000
set_option linter.unusedVariables false
set_option linter.unusedSimpArgs false

def cA : Cl := ⟨1, 8, 4, 3, 0, 0, 0, 0⟩
def cB : Cl := ⟨3, 9, 1, 1, 0, 0, 0, 0⟩
theorem awake_1 : (applyL 1 cA []).1 = 0 := by decide +kernel
theorem awake_2 : (applyL 1 cB (applyL 1 cA []).2).1 = 0 := by decide +kernel
theorem awake_3 : (applyL 1 cB (applyL 1 cA []).2).2.length = 3 := by decide +kernel
theorem awake_c (w : World) : Calls Try.prog 19 #[] w fun e w' => e = .returned (.bool true) ∧ Ext [] w w' := by
  have CN := Lib.hid (snew_is 1 w (by omega) (by omega))
  have CA := Lib.hid (fun w sp mp (h : SpIs w sp mp 1 []) => (by
    have := sapply_c w sp mp 1 [] (fun _ => none) h Tie.nil cA
    unfold SApp at this
    rw [awake_1] at this
    exact this : Calls Try.prog 20 #[.pointer (some ⟨sp, 0, none⟩), .agg #[.int .i64 1, .int .i64 8, .int .i64 4, .int .i64 3, .int .i64 0, .int .i64 0, .int .i64 0, .int .i64 0]] w fun e w' => e = .returned (.agg #[.int .i64 0, .int .i64 0]) ∧ Ext [sp] w w' ∧ ∃ mp, SpIs w' sp mp 1 (applyL 1 cA []).2))
  have CB := Lib.hid (fun w sp mp (h : SpIs w sp mp 1 (applyL 1 cA []).2) => (by
    have := sapply_c w sp mp 1 _ _ h (apply_tie Tie.nil 1 cA).2 cB
    unfold SApp at this
    rw [awake_2] at this
    exact this : Calls Try.prog 20 #[.pointer (some ⟨sp, 0, none⟩), .agg #[.int .i64 3, .int .i64 9, .int .i64 1, .int .i64 1, .int .i64 0, .int .i64 0, .int .i64 0, .int .i64 0]] w fun e w' => e = .returned (.agg #[.int .i64 0, .int .i64 0]) ∧ Ext [sp] w w' ∧ ∃ mp, SpIs w' sp mp 1 (applyL 1 cB (applyL 1 cA []).2).2))
  have HL := Lib.hid awake_3
  generalize (applyL 1 cB (applyL 1 cA []).2).2 = L2 at *
  generalize (applyL 1 cA []).2 = L1 at *
  have HSP := Lib.hid (fun (n : Nat) => (rfl : n = n))
  go_enter Try.func19, Try.ntmps19
  go_wp2_with (first
    | (go_at_call 35; refine (CN.out).mono ?_; rintro e w1 ⟨sp, mp, rfl, hx, hs, n1, n2⟩; have HX1 := Lib.hid hx; have HS1 := Lib.hid hs; have HN := Lib.hid n1; clear hx hs n1 n2)
    | (go_at_call 20; with_reducible refine (CA.out _ _ _ HS1.out).mono ?_; rintro e w2 ⟨rfl, hx, mp2, hs⟩; have HS2 := Lib.hid (hs.ext0 ((Ext.refl [] w2).alloc (.cells #[.int .i64 0, .int .i64 0] 42))); have HX2 := Lib.hid (hx.alloc (.cells #[.int .i64 0, .int .i64 0] 42)); have HB2 := Lib.hid (Blk.new w2 [.int .i64 0, .int .i64 0] 42); have hne := hs.head.lt; have HNE := Lib.hid (show w2.heap.size ≠ sp by omega); clear hx hs hne)
    | (go_at_call 20; with_reducible refine (CB.out _ _ _ HS2.out).mono ?_; rintro e w3 ⟨rfl, hx, mp3, hs⟩; have HB3 := Lib.hid ((HB2.out.ext hx (by simpa using HNE.out)).alloc (.cells #[.int .i64 0, .int .i64 0] 42)); have b0 := HB3.out.cell 0; have HS3 := Lib.hid (hs.ext0 ((Ext.refl [] w3).alloc (.cells #[.int .i64 0, .int .i64 0] 42))); have HX3 := Lib.hid (hx.alloc (.cells #[.int .i64 0, .int .i64 0] 42)); clear hx hs)
    | (go_at_call 18; have cl := SpIs.len_ HS3.out; rw [HL.out] at cl; refine cl.mono ?_; clear cl; rintro e w4 ⟨rfl, rfl⟩))
  go_ret
  exact ⟨rfl, (HX1.out.step HX2.out (by have := HN.out; simpa using this)).step HX3.out (by have := HN.out; simpa using this)⟩

end Go.Proofs.Ytjicpblncfgiaaa
