/-
  Region: what Check tells.
-/
import Derived.Test.YtjicpblncfgiaaaRgA
import Derived.Deep.RegionHeld3
namespace Go.Proofs.Ytjicpblncfgiaaa
set_option linter.unusedVariables false
set_option linter.unusedSimpArgs false
open Go.RowKit
set_option maxHeartbeats 4000000
set_option maxRecDepth 100000
set_option linter.unusedVariables false
set_option linter.unusedSimpArgs false

/-- A call's cells. -/
def callC (k pg n pm pk pn ad by_ : Int) : List Value := [.int .i64 k, .int .i64 pg, .int .i64 n, .int .i64 pm, .int .i64 pk, .int .i64 pn, .int .i64 ad, .int .i64 by_]
/-- Why a call may not be. -/
def chkS (nodes k pg n pm pk pn : Int) : Int := if (1 ≤ k ∧ k ≤ 4) ∧ rangeS pg n = 0 ∧ ((k = 1 ∨ k = 3) → permB pm = true) ∧ ((k = 1 ∨ k = 4) → polB pk pn nodes = true) then 0 else 1
theorem rangeS_two (pg n : Int) : rangeS pg n = 0 ∨ rangeS pg n = 1 := by unfold rangeS; split <;> simp

end Go.Proofs.Ytjicpblncfgiaaa
