/-
  Iterators within rounds: a yield of an outer loop called in an inner loop's round. It names no program.
-/
import Derived.Test.YtjicpblncfgiaaaBase
namespace Go.Proofs.Ytjicpblncfgiaaa
set_option linter.unusedVariables false
set_option linter.unusedSimpArgs false
open Go.RowKit

theorem roundIn_any {F : Fence} {n m l : Nat} {P : Program} {f : FuncId} {tmps : Array Value} {assign body : Code} {w : World} {R : Ending → World → Prop} (h : RoundIn Fence.wide n P l f tmps assign body w R) (hF : F = Fence.wide ∨ ∃ l₀, F = WR l₀) : RoundIn F m P l f tmps assign body w R := by
  rcases hF with rfl | ⟨l₀, rfl⟩
  · exact ⟨h.1, fun c cs _ => h.2 c cs (fun d hd => by cases hd)⟩
  · exact ⟨h.1, fun c cs _ => h.2 c cs (fun d hd => by cases hd)⟩
/-- A yield, called in a round of another loop. -/
theorem _root_.Go.YieldAt.inR {n m l l₀ : Nat} {P : Program} {a : Array Value} {W : World} {R : Ending → World → Prop} (h : YieldAt Fence.wide n P l a W R) : YieldAt (WR l₀) m P l a W R := by
  obtain ⟨fn, tmps, assign, body, h1, h2⟩ := h
  exact ⟨fn, tmps, assign, body, h1, roundIn_any h2 (.inr ⟨l₀, rfl⟩)⟩
theorem yield_in {P : Program} {l n : Nat} {xs : List (Array Value)} {i : Nat} {a : Array Value} {W : World} {R : Ending → World → Prop} (l₀ m : Nat) (hx : xs[i]? = some a)
    (h : ∀ (h : i < xs.length), YieldAt Fence.wide n P l xs[i] W R) : YieldAt (WR l₀) m P l a W R := Go.YieldAt.inR (yield_at hx h)

/-- A function whose two results lie in cells. -/
theorem results_cell2 {fn : Func} {p q : Tmp} {ty tz : TypeId} (h : fn.results = #[.cell p ty, .cell q tz]) (tmps : Array Value) (P : Program) (w : World) :
    (results fn tmps).run P w = ((asAddr (tmps.getD p undef)).run P w).andThen fun a w₁ => ((loadVar ty a).run P w₁).andThen fun x w₂ => ((asAddr (tmps.getD q undef)).run P w₂).andThen fun b w₃ => ((loadVar tz b).run P w₃).andThen fun y w₄ => .ok (.tuple #[x, y]) w₄ := by
  simp only [results, h]
  simp [Sem.run_bind, Result.andThen]
theorem yield_w {P : Program} {l n : Nat} {xs : List (Array Value)} {i : Nat} {a : Array Value} {W : World} {R : Ending → World → Prop} (m : Nat) (hx : xs[i]? = some a)
    (h : ∀ (h : i < xs.length), YieldAt Fence.wide n P l xs[i] W R) : YieldAt Fence.wide m P l a W R := by
  obtain ⟨fn, tmps, assign, body, h1, h2⟩ := yield_at hx h
  exact ⟨fn, tmps, assign, body, h1, roundIn_any h2 (.inl rfl)⟩

end Go.Proofs.Ytjicpblncfgiaaa
