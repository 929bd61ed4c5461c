/-
  Buddy: what an allocator is; is, taken, none.
-/
import Derived.Test.YtkpnmknkimlnaaaRows
import Derived.Test.YtkpnmknkimlnaaaBuX
import Derived.Deep.RegionHeld3
import Derived.StillTailTactics
namespace Go.Proofs.Ytkpnmknkimlnaaa
set_option linter.unusedVariables false
set_option linter.unusedSimpArgs false
open Go.RowKit BuT
set_option maxHeartbeats 4000000
set_option maxRecDepth 100000
set_option linter.unusedVariables false
set_option linter.unusedSimpArgs false

theorem dN (M : List Nat) (w : World) (n : Nat) : Ext M w (w.drewN n) := (Ext.refl M w).drewN n
/-- The table, cell by cell. -/
def tabF (kd od : Nat → Nat) : Nat → Value := fun q => if q % 2 = 0 then .int .i64 ((kd (q / 2) : Nat) : Int) else .int .i64 ((od (q / 2) : Nat) : Int)
theorem tabF_0 (kd od : Nat → Nat) (i : Nat) : tabF kd od (i * 2) = .int .i64 ((kd i : Nat) : Int) := by
  unfold tabF; rw [if_pos (by omega), show i * 2 / 2 = i by omega]
theorem tabF_1 (kd od : Nat → Nat) (i : Nat) : tabF kd od (i * 2 + 1) = .int .i64 ((od i : Nat) : Int) := by
  unfold tabF; rw [if_neg (by omega), show (i * 2 + 1) / 2 = i by omega]
/-- An allocator of n frames from F on. -/
structure Bud (w : World) (bp bl F n : Nat) (kd od : Nat → Nat) : Prop where
  head : Blk w bp [.int .i64 F, .slice (some ⟨bl, 0, none⟩) n n] 87
  tab : Cells w bl (n * 2) (tabF kd od)
  ne : bp ≠ bl
  n1 : 1 ≤ n
  n2 : n ≤ 1024
  F8 : F ≤ 8192
theorem Bud.ext {M : List Nat} {w w' : World} {bp bl F n : Nat} {kd od : Nat → Nat} (h : Bud w bp bl F n kd od) (e : Ext M w w') (h1 : bp ∉ M) (h2 : bl ∉ M) : Bud w' bp bl F n kd od :=
  ⟨h.head.ext e h1, h.tab.ext e h2, h.ne, h.n1, h.n2, h.F8⟩
theorem Bud.kc {w : World} {bp bl F n : Nat} {kd od : Nat → Nat} (h : Bud w bp bl F n kd od) {i : Nat} (hi : i < n) : w.cell? ⟨bl, i * 2, none⟩ = some (.int .i64 ((kd i : Nat) : Int)) := by
  rw [h.tab.cell (by omega), tabF_0]
theorem Bud.oc {w : World} {bp bl F n : Nat} {kd od : Nat → Nat} (h : Bud w bp bl F n kd od) {i : Nat} (hi : i < n) : w.cell? ⟨bl, i * 2 + 1, none⟩ = some (.int .i64 ((od i : Nat) : Int)) := by
  rw [h.tab.cell (by omega), tabF_1]

section
variable {w : World} {bp bl F n : Nat} {kd od : Nat → Nat} (h : Bud w bp bl F n kd od)
include h
theorem Bud.is_ : Calls Try.prog 67 #[.pointer (some ⟨bp, 0, none⟩)] w fun e w' => e = .returned (.bool true) ∧ w = w' := by
  have c1 := h.head.cell 1
  have n1 := h.n1
  have h0 : decide ((n : Int) > 0) = true := by simp; omega
  have h0' : decide (0 < n) = true := by simp; omega
  clear h
  go_enter Try.func67, Try.ntmps67
  go_wp2
  go_ret
  exact ⟨rfl, rfl⟩
theorem Bud.none_ : Calls Try.prog 65 #[.pointer (some ⟨bp, 0, none⟩)] w fun e w' => e = .returned (.int .i64 4) ∧ w = w' := by
  have C := Lib.hid h.is_
  clear h
  go_enter Try.func65, Try.ntmps65
  go_wp2_with (go_at_call 67; refine (C.out).mono ?_; rintro e w' ⟨rfl, rfl⟩)
  go_ret
  exact ⟨rfl, rfl⟩
end
/-- Where a taken block of this order begins; -1: nowhere. -/
def takI (F n : Nat) (kd od : Nat → Nat) (f o : Int) : Int := if (F : Int) ≤ f ∧ f < (F : Int) + n ∧ kd (f - F).toNat = 2 ∧ ((od (f - F).toNat : Nat) : Int) = o then f - F else -1
section
variable {w : World} {bp bl F n : Nat} {kd od : Nat → Nat} (h : Bud w bp bl F n kd od)
include h
theorem Bud.taken_low (f o : Int) (h1 : f < (F : Int)) : Calls Try.prog 64 #[.pointer (some ⟨bp, 0, none⟩), .int .i64 f, .int .i64 o] w fun e w' => e = .returned (.int .i64 (-1)) ∧ Ext [] w w' := by
  have CI := Lib.hid (fun (w' : World) (e : Ext [] w w') => (h.ext e (by simp) (by simp)).is_)
  have c0 := h.head.cell 0
  have c1 := h.head.cell 1
  have n1 := h.n1
  have n2 := h.n2
  have F8 := h.F8
  clear h
  go_enter Try.func64, Try.ntmps64
  go_wp2
  go_quiet ((go_at_call 67; exact Calls.quiet_of_same ((CI.out _ (dN _ _ _)).mono fun _ _ h => ⟨h.1, h.2.symm⟩)))
  go_wp2
  go_ret
  exact ⟨rfl, dN _ _ _⟩
theorem Bud.taken_high (f o : Int) (hf : f ≤ 9223372036854775807) (h2 : (F : Int) + n ≤ f) : Calls Try.prog 64 #[.pointer (some ⟨bp, 0, none⟩), .int .i64 f, .int .i64 o] w fun e w' => e = .returned (.int .i64 (-1)) ∧ Ext [] w w' := by
  have CI := Lib.hid (fun (w' : World) (e : Ext [] w w') => (h.ext e (by simp) (by simp)).is_)
  have c0 := h.head.cell 0
  have c1 := h.head.cell 1
  have n1 := h.n1
  have n2 := h.n2
  have F8 := h.F8
  have h3 : (n : Int) ≤ f - F := by omega
  have hd2 : decide (f < (F : Int)) = false := by simp; omega
  have hs4 : IntKind.i64.wrap (f - (F : Int)) = f - F := IntWalk.i64_in _ (by omega)
  clear h h2
  go_enter Try.func64, Try.ntmps64
  go_wp2
  go_quiet ((go_at_call 67; exact Calls.quiet_of_same ((CI.out _ (dN _ _ _)).mono fun _ _ h => ⟨h.1, h.2.symm⟩)))
  go_wp2
  go_ret
  exact ⟨rfl, dN _ _ _⟩
theorem Bud.taken_is {i : Nat} (hin : i < n) (hk : kd i = 2) : Calls Try.prog 64 #[.pointer (some ⟨bp, 0, none⟩), .int .i64 ((F : Int) + (i : Int)), .int .i64 ((od i : Nat) : Int)] w fun e w' => e = .returned (.int .i64 (i : Int)) ∧ Ext [] w w' := by
  have CI := Lib.hid (fun (w' : World) (e : Ext [] w w') => (h.ext e (by simp) (by simp)).is_)
  have c0 := h.head.cell 0
  have c1 := h.head.cell 1
  have n1 := h.n1
  have n2 := h.n2
  have F8 := h.F8
  have k0 := h.kc hin
  have k1 := h.oc hin
  have hs2 : (F : Int) + (i : Int) - (F : Int) = (i : Int) := by omega
  have hs3 : IntKind.i64.wrap ((i : Nat) : Int) = (i : Int) := IntWalk.i64_in _ (by omega)
  have hd : decide (n ≤ i) = false := by simp; omega
  have hd2 : decide ((F : Int) + (i : Int) < (F : Int)) = false := by rw [decide_eq_false_iff_not]; omega
  have i0 : (0 : Int) ≤ (i : Int) := by omega
  have i1 : (i : Int) < (n : Int) := by omega
  clear h
  rw [hk] at k0
  generalize od i = d at *
  go_enter Try.func64, Try.ntmps64
  go_wp2
  go_quiet ((go_at_call 67; exact Calls.quiet_of_same ((CI.out _ (dN _ _ _)).mono fun _ _ h => ⟨h.1, h.2.symm⟩)))
  go_wp2
  go_ret
  exact ⟨rfl, dN _ _ _⟩
theorem Bud.taken_kind {i : Nat} (hin : i < n) (hk : kd i ≠ 2) (o : Int) : Calls Try.prog 64 #[.pointer (some ⟨bp, 0, none⟩), .int .i64 ((F : Int) + (i : Int)), .int .i64 o] w fun e w' => e = .returned (.int .i64 (-1)) ∧ Ext [] w w' := by
  have CI := Lib.hid (fun (w' : World) (e : Ext [] w w') => (h.ext e (by simp) (by simp)).is_)
  have c0 := h.head.cell 0
  have c1 := h.head.cell 1
  have n1 := h.n1
  have n2 := h.n2
  have F8 := h.F8
  have k0 := h.kc hin
  have k1 := h.oc hin
  have hs2 : (F : Int) + (i : Int) - (F : Int) = (i : Int) := by omega
  have hs3 : IntKind.i64.wrap ((i : Nat) : Int) = (i : Int) := IntWalk.i64_in _ (by omega)
  have hd : decide (n ≤ i) = false := by simp; omega
  have hd2 : decide ((F : Int) + (i : Int) < (F : Int)) = false := by rw [decide_eq_false_iff_not]; omega
  have i0 : (0 : Int) ≤ (i : Int) := by omega
  have i1 : (i : Int) < (n : Int) := by omega
  clear h
  generalize od i = d at *
  generalize kd i = c at *
  have e3 : ((c : Int) == 2) = false := beq_eq_false_iff_ne.2 (by omega)
  clear hk
  go_enter Try.func64, Try.ntmps64
  go_wp2
  go_quiet ((go_at_call 67; exact Calls.quiet_of_same ((CI.out _ (dN _ _ _)).mono fun _ _ h => ⟨h.1, h.2.symm⟩)))
  go_wp2
  go_ret
  exact ⟨rfl, dN _ _ _⟩
theorem Bud.taken_ord {i : Nat} (hin : i < n) (hk : kd i = 2) (o : Int) (ho : ((od i : Nat) : Int) ≠ o) : Calls Try.prog 64 #[.pointer (some ⟨bp, 0, none⟩), .int .i64 ((F : Int) + (i : Int)), .int .i64 o] w fun e w' => e = .returned (.int .i64 (-1)) ∧ Ext [] w w' := by
  have CI := Lib.hid (fun (w' : World) (e : Ext [] w w') => (h.ext e (by simp) (by simp)).is_)
  have c0 := h.head.cell 0
  have c1 := h.head.cell 1
  have n1 := h.n1
  have n2 := h.n2
  have F8 := h.F8
  have k0 := h.kc hin
  have k1 := h.oc hin
  have hs2 : (F : Int) + (i : Int) - (F : Int) = (i : Int) := by omega
  have hs3 : IntKind.i64.wrap ((i : Nat) : Int) = (i : Int) := IntWalk.i64_in _ (by omega)
  have hd : decide (n ≤ i) = false := by simp; omega
  have hd2 : decide ((F : Int) + (i : Int) < (F : Int)) = false := by rw [decide_eq_false_iff_not]; omega
  have i0 : (0 : Int) ≤ (i : Int) := by omega
  have i1 : (i : Int) < (n : Int) := by omega
  clear h
  rw [hk] at k0
  generalize od i = d at *
  have e3 : ((d : Int) == o) = false := beq_eq_false_iff_ne.2 ho
  clear hk ho
  go_enter Try.func64, Try.ntmps64
  go_wp2
  go_quiet ((go_at_call 67; exact Calls.quiet_of_same ((CI.out _ (dN _ _ _)).mono fun _ _ h => ⟨h.1, h.2.symm⟩)))
  go_wp2
  go_ret
  exact ⟨rfl, dN _ _ _⟩
theorem Bud.taken_ (f o : Int) (hf : f ≤ 9223372036854775807) : Calls Try.prog 64 #[.pointer (some ⟨bp, 0, none⟩), .int .i64 f, .int .i64 o] w fun e w' => e = .returned (.int .i64 (takI F n kd od f o)) ∧ Ext [] w w' := by
  by_cases h1 : f < (F : Int)
  · rw [show takI F n kd od f o = -1 by unfold takI; rw [if_neg (by omega)]]
    exact h.taken_low f o h1
  · by_cases h2 : (F : Int) + n ≤ f
    · rw [show takI F n kd od f o = -1 by unfold takI; rw [if_neg (by omega)]]
      exact h.taken_high f o hf h2
    · obtain ⟨i, rfl⟩ : ∃ i : Nat, f = (F : Int) + i := ⟨(f - F).toNat, by omega⟩
      have hin : i < n := by omega
      have ht : takI F n kd od ((F : Int) + i) o = if kd i = 2 ∧ ((od i : Nat) : Int) = o then (i : Int) else -1 := by
        unfold takI
        rw [show (F : Int) + (i : Int) - (F : Int) = (i : Int) by omega, Int.toNat_natCast]
        by_cases e : kd i = 2 ∧ ((od i : Nat) : Int) = o
        · rw [if_pos e, if_pos ⟨by omega, by omega, e⟩]
        · rw [if_neg e, if_neg (fun h => e ⟨h.2.2.1, h.2.2.2⟩)]
      rw [ht]
      by_cases e1 : kd i = 2
      · by_cases e2 : ((od i : Nat) : Int) = o
        · rw [if_pos ⟨e1, e2⟩, ← e2]; exact h.taken_is hin e1
        · rw [if_neg (fun h => e2 h.2)]; exact h.taken_ord hin e1 o e2
      · rw [if_neg (fun h => e1 h.1)]; exact h.taken_kind hin e1 o
end

end Go.Proofs.Ytkpnmknkimlnaaa
