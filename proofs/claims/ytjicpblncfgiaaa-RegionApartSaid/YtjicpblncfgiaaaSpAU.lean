/-
  Spans of values (basin/region.use): what lies in memory; put.
-/
import Derived.Test.YtjicpblncfgiaaaRows
import Derived.Test.YtjicpblncfgiaaaSl
import Derived.Test.YtjicpblncfgiaaaMem
import Derived.Test.YtjicpblncfgiaaaSpT
import Derived.Laws.ResultCell
namespace Go.Proofs.Ytjicpblncfgiaaa.SpU
open Go.RowKit SpT
set_option maxHeartbeats 1000000
set_option maxRecDepth 10000
set_option linter.unusedVariables false
set_option linter.unusedSimpArgs false
set_option linter.unusedSectionVars false

abbrev Spn := Sp (Int × Int × Int)
/-- The cells of an interval. -/
def cells (x : Spn) : List Value := [.int .i64 (x.f : Int), .int .i64 (x.t : Int), .int .i64 (x.v).1, .int .i64 (x.v).2.1, .int .i64 (x.v).2.2]
def encS : List Spn → List Value
  | [] => []
  | x :: l => cells x ++ encS l
theorem encS_len : ∀ l : List Spn, (encS l).length = l.length * 5
  | [] => rfl
  | x :: l => by rw [encS, List.length_append, encS_len l, List.length_cons, Nat.add_mul, Nat.one_mul, Nat.add_comm]; rfl
theorem encS_append : ∀ l l' : List Spn, encS (l ++ l') = encS l ++ encS l'
  | [], _ => rfl
  | x :: l, l' => by rw [List.cons_append, encS, encS, encS_append l l', List.append_assoc]
theorem encS_one (x : Spn) : encS [x] = cells x := by rw [encS, encS, List.append_nil]
theorem encS_snoc (l : List Spn) (x : Spn) : encS (l ++ [x]) = encS l ++ cells x := by rw [encS_append, encS_one]
theorem encS_at {l : List Spn} {i : Nat} (hi : i < l.length) {j : Nat} (hj : j < 5) : (encS l)[i * 5 + j]? = (cells l[i])[j]? := by
  have e : l = l.take i ++ [l[i]] ++ l.drop (i + 1) := by
    rw [← List.take_succ_eq_append_getElem hi, List.take_append_drop]
  have h1 : (encS (l.take i)).length = i * 5 := by rw [encS_len, List.length_take, Nat.min_eq_left (by omega)]
  have h2 : encS l = encS (l.take i) ++ (cells l[i] ++ encS (l.drop (i + 1))) := by
    conv => lhs; rw [e]
    rw [encS_append, encS_append, encS_one, List.append_assoc]
  rw [h2, List.getElem?_append_right (by omega), h1, Nat.add_sub_cancel_left, List.getElem?_append_left (show j < (cells l[i]).length from hj)]
theorem encS_one' (l : List Spn) : ∀ u ∈ encS l, u.oneCell' = true := by
  induction l with
  | nil => intro u hu; cases hu
  | cons x l ih =>
    intro u hu
    rcases List.mem_append.1 hu with hu | hu
    · simp [cells] at hu
      rcases hu with rfl | rfl | hu <;> first | rfl | (rcases hu with rfl | rfl <;> rfl) | (rcases hu with rfl | rfl | rfl <;> rfl) | (subst hu; rfl)
    · exact ih u hu

theorem lit_at (w : World) {H : Nat} (sz n : Nat) (cs : List Value) (e : TypeId) (hm : n ≤ maxLen) (hs : cs.length = n * sz) (hH : w.heap.size = H) : Sl (w.alloc (.cells cs.toArray e)) sz (.slice (some ⟨H, 0, none⟩) n n) cs := hH ▸ Sl.lit w sz n cs e hm hs
/-- A slice of intervals, owned from block B on. -/
abbrev SRow (w : World) (B : Nat) (v : Value) (l : List Spn) : Prop := w.ownsRow B 97 5 v l.length (encS l)
theorem T_span : SlT Try.prog 119 97 (.agg #[.int .i64 0, .int .i64 0, .int .i64 0, .int .i64 0, .int .i64 0]) 5 40 := ⟨Try.underlying119, by kernel_rfl, rfl, by decide⟩

end Go.Proofs.Ytjicpblncfgiaaa.SpU
