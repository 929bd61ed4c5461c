/-
  Walks over package pte and its reference: words of page tables.
-/
import Derived.Test.YtemmoabhlfbfcaaRows
import Derived.Test.YtemmoabhlfbfcaaBase
namespace Go.Proofs.Ytemmoabhlfbfcaa
set_option linter.unusedVariables false
set_option linter.unusedSimpArgs false
open Go.RowKit
set_option maxHeartbeats 1000000
set_option maxRecDepth 10000

structure PTE where
  pr : Bool
  wr : Bool
  hu : Bool
  ac : Bool
  di : Bool
  ma : Bool
  re : Bool
  fr : Int

def PTE.cells (p : PTE) : Array Value := #[.bool p.pr, .bool p.wr, .bool p.hu, .bool p.ac, .bool p.di, .bool p.ma, .bool p.re, .int .i64 p.fr]
def PTE.zero : PTE := ⟨false, false, false, false, false, false, false, 0⟩
def PTE.isZero (p : PTE) : Bool := !p.pr && !p.wr && !p.hu && !p.ac && !p.di && !p.ma && !p.re && (p.fr == 0)

/-- May these parts be? -/
def PTE.may (p : PTE) : Bool :=
  decide (0 ≤ p.fr) && decide (p.fr < 8192) &&
  (if !p.pr && !p.ma then p.isZero else !(p.ma && (p.pr || p.ac || p.di)) && !(p.hu && p.re) && (!p.re || (!p.wr && !p.di)))

/-- Why parts may not be. -/
def PTE.err (p : PTE) : Int := if p.may then 0 else 1

theorem rmay_c (p : PTE) (w : World) : Calls Try.prog 52 #[.agg p.cells] w fun e w' => e = .returned (.bool p.may) ∧ Ext [] w w' := by
  obtain ⟨pr, wr, hu, ac, di, ma, re, fr⟩ := p
  unfold PTE.cells
  simp only []
  go_enter Try.func52, Try.ntmps52
  go_wp2
  all_goals (go_ret; refine ⟨ret_bool ?_, (Ext.refl _ _).alloc _⟩; (simp_all [PTE.may, PTE.isZero] <;> try omega))

theorem rcheck_c (p : PTE) (w : World) : Calls Try.prog 28 #[.agg p.cells] w fun e w' => e = .returned (.int .i64 p.err) ∧ Ext [] w w' := by
  obtain ⟨pr, wr, hu, ac, di, ma, re, fr⟩ := p
  have C := Lib.hid (fun w => rmay_c ⟨pr, wr, hu, ac, di, ma, re, fr⟩ w)
  unfold PTE.err
  generalize PTE.may _ = m at *
  unfold PTE.cells at *
  simp only [] at *
  cases m
  all_goals
    go_enter Try.func28, Try.ntmps28
    go_wp2_with (go_at_call 52; refine (C.out _).mono ?_; rintro e w' ⟨rfl, hx⟩)
    go_ret
    exact ⟨rfl, ((Ext.refl [] w).alloc _).trans hx⟩

theorem check_c (p : PTE) (w : World) : Calls Try.prog 27 #[.agg p.cells] w fun e w' => e = .returned (.int .i64 p.err) ∧ Ext [] w w' := by
  obtain ⟨pr, wr, hu, ac, di, ma, re, fr⟩ := p
  unfold PTE.cells
  simp only []
  go_enter Try.func27, Try.ntmps27
  go_wp2
  all_goals (go_ret; refine ⟨ret_int ?_, (Ext.refl _ _).alloc _⟩; (simp_all [PTE.err, PTE.may, PTE.isZero] <;> try omega))

def bitV (b : Bool) (c : Int) : Int := if b then c else 0
theorem bit_c (b : Bool) (c : Int) (w : World) : Calls Try.prog 51 #[.bool b, .int .u64 c] w fun e w' => e = .returned (.int .u64 (bitV b c)) ∧ w = w' := by
  cases b
  all_goals
    go_enter Try.func51, Try.ntmps51
    go_wp2
    go_ret
    exact ⟨rfl, rfl⟩
theorem rbit_c (b : Bool) (n : Nat) (h : n < 7) (w : World) : Calls Try.prog 55 #[.bool b, .int .u64 n] w fun e w' => e = .returned (.int .u64 (bitV b ((2 ^ n : Nat) : Int))) ∧ w = w' := by
  have hn : n = 0 ∨ n = 1 ∨ n = 2 ∨ n = 3 ∨ n = 4 ∨ n = 5 ∨ n = 6 := by omega
  rcases hn with rfl | rfl | rfl | rfl | rfl | rfl | rfl
  all_goals
    cases b
    all_goals
      go_enter Try.func55, Try.ntmps55
      go_wp2
      go_ret
      exact ⟨rfl, rfl⟩

end Go.Proofs.Ytemmoabhlfbfcaa
