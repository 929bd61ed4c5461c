/-
  A quiet region that draws its order, within a round of a range over a function: as outside of it. It names no program.
-/
import Derived.Test.YtjicpblncfgiaaaBase
import Derived.Sort.QuietIn
namespace Go.Proofs.Ytjicpblncfgiaaa
set_option linter.unusedVariables false
set_option linter.unusedSimpArgs false
open Go.RowKit

def noDefer (l : List Oper) : Bool := l.all fun o => match o.op with
  | .defer _ => false
  | _ => true
theorem op_R {l₀ n : Nat} {P : Program} {o : Oper} {a : Act} {w : World} {K : Act → World → Prop} {Q : Exit → Act → World → Prop} (hd : ∀ c, o.op ≠ .defer c) (h : o.wpIn Fence.wide n P a w K Q) : o.wpIn (WR l₀) n P a w K Q := by
  obtain ⟨h1, h2⟩ := h
  refine ⟨h1, ?_⟩
  rw [Oper.semAt_eq _ _ _ hd] at h2 ⊢
  exact h2
theorem opAt_R {l₀ n : Nat} {P : Program} {ops : Array Oper} {i : Nat} {a : Act} {w : World} {K : Act → World → Prop} {Q : Exit → Act → World → Prop} (hd : ∀ o, o ∈ ops.toList → ∀ c, o.op ≠ .defer c) (h : wpOpIn Fence.wide n P ops Q i K a w) : wpOpIn (WR l₀) n P ops Q i K a w := by
  unfold wpOpIn at *
  split
  · rename_i ho; simp only [ho] at h; exact h
  · rename_i o ho
    simp only [ho] at h
    have hm : o ∈ ops.toList := by
      obtain ⟨hi, rfl⟩ := Array.getElem?_eq_some_iff.1 ho
      simp
    split
    · rename_i hw; simp only [hw, if_true] at h; exact op_R (hd o hm) h
    · rename_i hw; simp only [hw] at h; exact h
theorem any_R {l₀ n : Nat} {P : Program} {md : Region.Mode} {ops : Array Oper} {Q : Exit → Act → World → Prop} (hd : ∀ o, o ∈ ops.toList → ∀ c, o.op ≠ .defer c) : ∀ (fuel : Nat) (listed : Array Bool) (a : Act) (w : World), wpAnyIn Fence.wide n P md ops Q fuel listed a w → wpAnyIn (WR l₀) n P md ops Q fuel listed a w
  | 0, _, _, _, h => h
  | fuel + 1, _, _, _, h => ⟨h.1, fun i hi => opAt_R hd (wpOpIn_mono (fun a w h => any_R hd fuel _ a w h) (h.2 i hi))⟩

theorem wpIn_quiet_R {l₀ n id : Nat} {P : Program} {Q : Exit → Act → World → Prop} {a : Act} {w : World} {l : List Oper} (hm : P.follows .mixedOrders = true) (hB : Region.lexB .any l.toArray = true) (hn : noDefer l = true)
    (h : wpQuietIn Fence.wide n P l.toArray (fun w' => ∃ n, w' = w.drewN n) (fun a' => ∀ w', (∃ n, w' = w.drewN n) → Q .normal a' w') l a) : (Code.region id l.toArray true).wpIn (WR l₀) n P Q a w := by
  have hd : ∀ o, o ∈ l.toArray.toList → ∀ c, o.op ≠ .defer c := fun o ho c e => by
    unfold noDefer at hn
    rw [List.all_eq_true] at hn
    have := hn o (by simpa using ho)
    rw [e] at this; cases this
  simp only [Region.lexB, Bool.and_eq_true] at hB
  refine wpIn_region_any hm (any_R hd _ _ _ _ (wpAnyIn_of_quiet (C := fun w' => ∃ n, w' = w.drewN n) (Q := fun a' => ∀ w', (∃ n, w' = w.drewN n) → Q .normal a' w') rfl (fun _ w' hw' h => h w' hw') _ _ _ _ ⟨1, rfl⟩ ?_))
  have := wpAnyQIn_lex (F := Fence.wide) (n := n) (C := fun w' => ∃ n, w' = w.drewN n) (md := .any) hB.1 l 0 (Array.replicate l.toArray.size false) a (by simp) (by simpa using hB.2) (by simpa using h)
  simpa using this

end Go.Proofs.Ytjicpblncfgiaaa
