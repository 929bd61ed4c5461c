/-
  Spans of values (basin/region.use): Copy.
-/
import Derived.Test.YtjicpblncfgiaaaSpLU
namespace Go.Proofs.Ytjicpblncfgiaaa.SpU
open Go.RowKit SpT
set_option maxHeartbeats 2000000
set_option maxRecDepth 10000
set_option linter.unusedVariables false
set_option linter.unusedSimpArgs false
set_option linter.unusedSectionVars false

def NewRow (w : World) (l : List Spn) (e : Ending) (w' : World) : Prop := ∃ v, e = .returned v ∧ SRow w' w.heap.size v l ∧ Ext [] w w'

theorem clone_c (w : World) (v : Value) (l : List Spn) (h : SRow w 0 v l) (hl : l.length ≤ 4096) : Calls Try.prog 67 #[v] w (NewRow w l) := by
  rcases h.2 with ⟨rfl, hn⟩ | ⟨g, cap, cur, rfl, _, hh, hn, hc, hs, ht⟩
  · have hl0 : l = [] := List.eq_nil_of_length_eq_zero hn
    subst hl0
    have he := fun (w : World) a n c n' c' => Lib.run_eql_slice_nil (P := Try.prog) w 119 _ a n c n' c' Try.underlying119
    go_enter Try.func67, Try.ntmps67
    go_wp2
    go_ret
    exact ⟨_, rfl, World.ownsRow_nil _ _ _ _, Ext.refl _ _⟩
  · have ho := owns_empty (w.alloc (.cells #[] 97)) (B := w.heap.size) (size := 5) (cap := 0) (cur := #[]) (Nat.le_refl _) (World.alloc_heap_new w (.cells #[] 97)) (by unfold maxLen; omega) rfl
    have hx := (Sl.of_own h).ext ((Ext.refl [] w).alloc (.cells #[] 97)) (by simp)
    have HO := Lib.hid ho
    have HX := Lib.hid hx
    have hlen := encS_len l
    have HL := Lib.hid hlen
    have ho1 := encS_one' l
    have HO1 := Lib.hid ho1
    have he := fun (w : World) a n c n' c' => Lib.run_eql_slice_nil (P := Try.prog) w 119 _ a n c n' c' Try.underlying119
    clear ho hx hlen ho1 h hh hs ht
    go_enter Try.func67, Try.ntmps67
    go_wp2_with (at_builtin; refine wpList_app T_span HO.out HX.out rfl rfl rfl rfl HL.out HO1.out (by unfold maxLen; omega) (by omega) (by simp) ?_; intro v' w' hown' hext' hnew')
    go_ret
    refine ⟨_, rfl, ?_, ((Ext.refl [] w).alloc _).step hext' (fun k hk => by simp [own, Value.ownBlock] at hk; omega)⟩
    have h2 : w'.ownsRow w.heap.size 97 5 v' (0 + l.length) ([] ++ encS l) := hown'
    rw [Nat.zero_add, List.nil_append] at h2
    exact h2

/-- A new map, like another. -/
def Copied (w : World) (l : List Spn) (e : Ending) (w' : World) : Prop := ∃ bm, e = .returned (.pointer (some ⟨bm, 0, none⟩)) ∧ w.heap.size ≤ bm ∧ MapIs w' bm l ∧ Ext [] w w'
/-- The same: its row is new. -/
def CopiedN (w : World) (l : List Spn) (e : Ending) (w' : World) : Prop := ∃ bm, e = .returned (.pointer (some ⟨bm, 0, none⟩)) ∧ w.heap.size ≤ bm ∧ MapN w' w.heap.size bm l ∧ Ext [] w w'
theorem copy_cn (w : World) (bm : Nat) (l : List Spn) (h : MapIs w bm l) (hl : l.length ≤ 4096) : Calls Try.prog 45 #[.pointer (some ⟨bm, 0, none⟩)] w (CopiedN w l) := by
  obtain ⟨v, h1, h2⟩ := h
  have CI := Lib.hid (is_c w bm v true h1)
  have CC := Lib.hid (clone_c w v l h2 hl)
  obtain ⟨a, cap, rfl, _, _⟩ := ownsRow_form h2
  have k0 := h1.cell 0
  clear h1 h2
  go_enter Try.func45, Try.ntmps45
  go_wp2_with (first
    | (go_at_call 66; refine (CI.out).mono ?_; rintro e w' ⟨rfl, rfl⟩)
    | (go_at_call 67; refine (CC.out).mono ?_; rintro e w1 ⟨v1, rfl, hr, hx⟩; obtain ⟨a1, c1, rfl, _, _⟩ := ownsRow_form hr; have HR := Lib.hid hr; clear hr))
  go_ret
  have hr := HR.out
  have hx2 : Ext [] w1 (w1.alloc (.cells #[.slice a1 l.length c1, .bool true] 121)) := (Ext.refl _ _).alloc _
  exact ⟨_, rfl, hx.size, ⟨_, Blk.new w1 [.slice a1 l.length c1, .bool true] _, ownsRow_ext hr hx2 (by simp)⟩, hx.trans hx2⟩
theorem copy_c (w : World) (bm : Nat) (l : List Spn) (h : MapIs w bm l) (hl : l.length ≤ 4096) : Calls Try.prog 45 #[.pointer (some ⟨bm, 0, none⟩)] w (Copied w l) :=
  (copy_cn w bm l h hl).mono fun e w' ⟨b, h1, h2, h3, h4⟩ => ⟨b, h1, h2, h3.is, h4⟩
theorem copy_un (w : World) (m : Value) (hm : Unmade m w) : Calls Try.prog 45 #[m] w fun e w' => e = .returned (.pointer none) ∧ Ext [] w w' := by
  have CI := Lib.hid (hm w (Ext.refl _ _))
  clear hm
  go_enter Try.func45, Try.ntmps45
  go_wp2_with (go_at_call 66; refine (CI.out).mono ?_; rintro e w' ⟨rfl, rfl⟩)
  go_ret
  exact ⟨rfl, Ext.refl _ _⟩

end Go.Proofs.Ytjicpblncfgiaaa.SpU
