/-
  Spans of values (basin/region.use): a map in memory; is, may, New, Len, turn.
-/
import Derived.Test.YtjicpblncfgiaaaSpCU
namespace Go.Proofs.Ytjicpblncfgiaaa.SpU
open Go.RowKit SpT
set_option maxHeartbeats 2000000
set_option maxRecDepth 10000
set_option linter.unusedVariables false
set_option linter.unusedSimpArgs false
set_option linter.unusedSectionVars false

/-- The map in block bm has just these intervals. -/
def MapIs (w : World) (bm : Nat) (l : List Spn) : Prop := ∃ v, Blk w bm [v, .bool true] 121 ∧ SRow w 0 v l
/-- The same, the row in a block from B on. -/
def MapN (w : World) (B bm : Nat) (l : List Spn) : Prop := ∃ v, Blk w bm [v, .bool true] 121 ∧ SRow w B v l
theorem MapN.is {w : World} {B bm : Nat} {l : List Spn} (h : MapN w B bm l) : MapIs w bm l := by obtain ⟨v, h1, h2⟩ := h; exact ⟨v, h1, ownsRow_base h2 (Nat.zero_le _)⟩
theorem MapN.base {w : World} {B B' bm : Nat} {l : List Spn} (h : MapN w B bm l) (hb : B' ≤ B) : MapN w B' bm l := by obtain ⟨v, h1, h2⟩ := h; exact ⟨v, h1, ownsRow_base h2 hb⟩
theorem MapN.ext0 {w w' : World} {B bm : Nat} {l : List Spn} (h : MapN w B bm l) (hx : Ext [] w w') : MapN w' B bm l := by obtain ⟨v, h1, h2⟩ := h; exact ⟨v, h1.ext hx (by simp), ownsRow_ext h2 hx (by simp)⟩
/-- The block is no row of intervals. -/
def NoRow (w : World) (b : Nat) : Prop := ∀ cur, w.heap[b]? ≠ some (.cells cur 97 (0, 0))
theorem NoRow.map {w : World} {b : Nat} {cs : List Value} (h : Blk w b cs 121) : NoRow w b := fun cur e => by
  unfold Blk at h; rw [h] at e; injection e with e; injection e with _ e; exact absurd e (by decide)
theorem MapIs.ext {M : List Nat} {w w' : World} {bm : Nat} {l : List Spn} (h : MapIs w bm l) (hx : Ext M w w') (hb : bm ∉ M) (hM : ∀ b, b ∈ M → NoRow w b) : MapIs w' bm l := by
  obtain ⟨v, h1, h2⟩ := h
  refine ⟨v, h1.ext hx hb, ownsRow_ext h2 hx (fun b hb hm => ?_)⟩
  rcases h2.2 with ⟨rfl, _⟩ | ⟨g, cap, cur, rfl, _, hh, _⟩
  · cases hb
  · cases hb; exact hM _ hm cur hh
theorem MapIs.ext0 {w w' : World} {bm : Nat} {l : List Spn} (h : MapIs w bm l) (hx : Ext [] w w') : MapIs w' bm l := h.ext hx (by simp) (by simp)
theorem MapIs.lt {w : World} {bm : Nat} {l : List Spn} (h : MapIs w bm l) : bm < w.heap.size := by obtain ⟨v, h1, _⟩ := h; exact h1.lt
theorem MapIs.noRow {w : World} {bm : Nat} {l : List Spn} (h : MapIs w bm l) : NoRow w bm := by obtain ⟨v, h1, _⟩ := h; exact NoRow.map h1

theorem is_c (w : World) (bm : Nat) (v : Value) (b : Bool) (h : Blk w bm [v, .bool b] 121) : Calls Try.prog 66 #[.pointer (some ⟨bm, 0, none⟩)] w fun e w' => e = .returned (.bool b) ∧ w = w' := by
  have h1 := h.cell 1
  clear h
  go_enter Try.func66, Try.ntmps66
  go_wp2
  go_ret
  exact ⟨rfl, rfl⟩
theorem is_nil (w : World) : Calls Try.prog 66 #[.pointer none] w fun e w' => e = .returned (.bool false) ∧ w = w' := by
  go_enter Try.func66, Try.ntmps66
  go_wp2
  go_ret
  exact ⟨rfl, rfl⟩
def mayB (a b : Int) : Bool := decide (0 ≤ a) && (decide (a < b) && decide (b ≤ 4096))
theorem may_c (a b : Int) (w : World) : Calls Try.prog 75 #[.int .i64 a, .int .i64 b] w fun e w' => e = .returned (.bool (mayB a b)) ∧ w = w' := by
  by_cases h1 : 0 ≤ a
  · by_cases h2 : a < b
    · by_cases h3 : b ≤ 4096
      · have hm : mayB a b = true := by simp [mayB]; omega
        rw [hm]
        clear hm
        go_enter Try.func75, Try.ntmps75
        go_wp2
        go_ret
        exact ⟨rfl, rfl⟩
      · have hm : mayB a b = false := by simp [mayB]; omega
        rw [hm]
        clear hm
        go_enter Try.func75, Try.ntmps75
        go_wp2
        go_ret
        exact ⟨rfl, rfl⟩
    · have hm : mayB a b = false := by simp [mayB]; omega
      rw [hm]
      clear hm
      go_enter Try.func75, Try.ntmps75
      go_wp2
      go_ret
      exact ⟨rfl, rfl⟩
  · have hm : mayB a b = false := by simp [mayB]; omega
    rw [hm]
    clear hm
    go_enter Try.func75, Try.ntmps75
    go_wp2
    go_ret
    exact ⟨rfl, rfl⟩
theorem mayB_yes {a b : Int} (h : mayB a b = true) : ∃ x y : Nat, a = x ∧ b = y ∧ x < y ∧ y ≤ 4096 := by
  simp [mayB] at h
  exact ⟨a.toNat, b.toNat, by omega, by omega, by omega, by omega⟩

theorem new_c (w : World) : Calls Try.prog 53 #[] w fun e w' => e = .returned (.pointer (some ⟨w.heap.size, 0, none⟩)) ∧ w' = w.alloc (.cells #[.slice none 0 0, .bool true] 121) := by
  go_enter Try.func53, Try.ntmps53
  go_wp2
  go_ret
  exact ⟨rfl, rfl⟩
theorem MapIs.new (w : World) : MapIs (w.alloc (.cells #[.slice none 0 0, .bool true] 121)) w.heap.size [] :=
  ⟨_, Blk.new w [.slice none 0 0, .bool true] _, World.ownsRow_nil _ _ _ _⟩

theorem len_c (w : World) (bm n cap : Nat) (a : Option Addr) (b : Value) (h : Blk w bm [.slice a n cap, b] 121) : Calls Try.prog 41 #[.pointer (some ⟨bm, 0, none⟩)] w fun e w' => e = .returned (.int .i64 n) ∧ w = w' := by
  have h0 := h.cell 0
  clear h
  go_enter Try.func41, Try.ntmps41
  go_wp2
  go_ret
  exact ⟨rfl, rfl⟩
theorem len_nil (w : World) : Calls Try.prog 41 #[.pointer none] w fun e w' => e = .returned (.int .i64 0) ∧ w = w' := by
  go_enter Try.func41, Try.ntmps41
  go_wp2
  go_ret
  exact ⟨rfl, rfl⟩
theorem MapIs.len {w : World} {bm : Nat} {l : List Spn} (h : MapIs w bm l) : Calls Try.prog 41 #[.pointer (some ⟨bm, 0, none⟩)] w fun e w' => e = .returned (.int .i64 l.length) ∧ w = w' := by
  obtain ⟨v, h1, h2⟩ := h
  obtain ⟨a, cap, rfl, _, _⟩ := ownsRow_form h2
  exact len_c w bm _ cap a _ h1

/-- turn is refused. -/
theorem turn_no (m : Value) (a b : Int) (now : Value) (w : World) (h : (Calls Try.prog 66 #[m] w fun e w' => e = .returned (.bool false) ∧ w = w') ∨ ((Calls Try.prog 66 #[m] w fun e w' => e = .returned (.bool true) ∧ w = w') ∧ mayB a b = false)) :
    Calls Try.prog 74 #[m, .int .i64 a, .int .i64 b, now] w fun e w' => e = .returned (.int .i64 1) ∧ w = w' := by
  have CM := Lib.hid (fun w => may_c a b w)
  rcases h with h | ⟨h, hb⟩
  · have H := Lib.hid h
    clear h
    go_enter Try.func74, Try.ntmps74
    go_wp2_with (go_at_call 66; refine (H.out).mono ?_; rintro e w' ⟨rfl, rfl⟩)
    go_ret
    exact ⟨rfl, rfl⟩
  · have H := Lib.hid h
    rw [hb] at CM
    clear h hb
    go_enter Try.func74, Try.ntmps74
    go_wp2_with (first
      | (go_at_call 66; refine (H.out).mono ?_; rintro e w' ⟨rfl, rfl⟩)
      | (go_at_call 75; refine (CM.out _).mono ?_; rintro e w' ⟨rfl, rfl⟩))
    go_ret
    exact ⟨rfl, rfl⟩

end Go.Proofs.Ytjicpblncfgiaaa.SpU
