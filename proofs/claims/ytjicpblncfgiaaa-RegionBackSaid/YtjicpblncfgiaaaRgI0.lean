/-
  Region's reference: rows of regions; append in a region that draws; how All goes on.
-/
import Derived.Test.YtjicpblncfgiaaaRgF
namespace Go.Proofs.Ytjicpblncfgiaaa
set_option linter.unusedVariables false
set_option linter.unusedSimpArgs false
open Go.RowKit RgT SpT
set_option maxHeartbeats 4000000
set_option maxRecDepth 100000
set_option linter.unusedVariables false
set_option linter.unusedSimpArgs false

/-- A slice of regions, owned from block B on. -/
abbrev GRow (w : World) (B : Nat) (v : Value) (l : List (Sp U)) : Prop := w.ownsRow B 37 5 v l.length (SpU.encS l)
theorem T_reg : SlT Try.prog 28 37 (.agg #[.int .i64 0, .int .i64 0, .int .i64 0, .int .i64 0, .int .i64 0]) 5 40 := ⟨Try.underlying28, by kernel_rfl, rfl, by decide⟩
def GNew (w : World) (l : List (Sp U)) (e : Ending) (w' : World) : Prop := ∃ v, e = .returned v ∧ GRow w' w.heap.size v l ∧ Ext [] w w'

/-- Append at a step of a region that draws its order. -/
theorem step_app {P : Program} {w : World} {ops : Array Oper} {o : Oper} {a : Act} {K : Act → World → Prop} {Q : Exit → Act → World → Prop} {E : Prop} {s x : Operand} {t e : TypeId} {z : Value} {size bytes base n m : Nat} {v xv : Value} {xs news : List Value}
    (T : SlT P t e z size bytes) (hown : w.ownsRow base e size v n xs) (hx : Sl w size xv news) (hgd : o.guard = none) (ho : o.op = .call { callee := .builtin .append, args := #[s, x], argTypes := #[t, t] })
    (hs : a.eval s = v) (hxv : a.eval x = xv) (hl : news.length = m * size) (h1 : ∀ u ∈ news, u.oneCell' = true)
    (h63 : n + m ≤ maxLen) (hbytes : (n + m) * bytes ≤ 140737488355328) (hbase : base ≤ w.heap.size)
    (h : ∀ v' w', w'.ownsRow base e size v' (n + m) (xs ++ news) → Ext (own v) w w' → (∀ b, v'.ownBlock = some b → v.ownBlock = some b ∨ w.heap.size ≤ b) → K (a.put o.dst v') w') :
    if Region.wanted o (yielded ops a.tmps) = true then Oper.wp P o a w K Q else E := by
  have hw : Region.wanted o (yielded ops a.tmps) = true := by simp [Region.wanted, hgd]
  rw [if_pos hw]
  obtain ⟨i, hi, hz0, hz1, hz2⟩ := info_parts T.info
  obtain ⟨v', w', hrun, r1, r2, r3⟩ := run_append_x (P := P) w base t o.type e i z size bytes T.und hi hz0 hz1 hz2 T.cells T.pos v n xs hown xv m news hx hl h1 h63 hbytes hbase
  simp [Oper.wp, execOp, ho, resolve, invoke, builtin, hs, hxv, hrun, Result.andThen, Oper.upon]
  exact h v' w' r1 r2 r3

theorem allK_len (f : Nat → Option U) : ∀ k, (allK f k).length ≤ k
  | 0 => Nat.le_refl _
  | k + 1 => by
    have h1 := allK_len f k
    cases hf : f k with
    | none => rw [allK_none hf]; omega
    | some v =>
      rw [allK_some hf]
      have h2 := put_len (allK f k) ⟨k, k + 1, v⟩
      omega
theorem allK_first {f : Nat → Option U} {k : Nat} {v : U} (hf : f k = some v) (e : allK f k = []) : allK f (k + 1) = [] ++ [⟨k, k + 1, v⟩] := by
  rw [allK_some hf, e, put_nil]; rfl
theorem allK_more {f : Nat → Option U} {k : Nat} {v : U} {l : List (Sp U)} {y : Sp U} (hf : f k = some v) (e : allK f k = l ++ [y]) :
    allK f (k + 1) = if y.t = k ∧ y.v = v then l ++ [⟨y.f, k + 1, y.v⟩] else l ++ [y] ++ [⟨k, k + 1, v⟩] := by
  rw [allK_some hf, e, put_snoc]
/-- Policies that differ. -/
theorem neP (a b : Int × Int) (h : a ≠ b) (w : World) : (binOp .neq 35 (.agg #[.int .i64 a.1, .int .i64 a.2]) (.agg #[.int .i64 b.1, .int .i64 b.2])).run Try.prog w = .ok (.bool true) w := by
  obtain ⟨a1, a2⟩ := a
  obtain ⟨b1, b2⟩ := b
  go_simp
  intro h1 h2
  exact h (by rw [h1, h2])
theorem eqP (a : Int × Int) (w : World) : (binOp .neq 35 (.agg #[.int .i64 a.1, .int .i64 a.2]) (.agg #[.int .i64 a.1, .int .i64 a.2])).run Try.prog w = .ok (.bool false) w := by
  obtain ⟨a1, a2⟩ := a
  go_simp

end Go.Proofs.Ytjicpblncfgiaaa
