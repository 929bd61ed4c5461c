/-
  Spans of values (basin/region.use): Set, Clear, Copy.
-/
import Derived.Test.YtjicpblncfgiaaaSpEU
namespace Go.Proofs.Ytjicpblncfgiaaa.SpU
open Go.RowKit SpT
set_option maxHeartbeats 2000000
set_option maxRecDepth 10000
set_option linter.unusedVariables false
set_option linter.unusedSimpArgs false
set_option linter.unusedSectionVars false

def setL (l : List Spn) (a b : Int) (v : (Int × Int × Int)) : List Spn := if mayB a b = true then turn a.toNat b.toNat l [⟨a.toNat, b.toNat, v⟩] else l
def clearL (l : List Spn) (a b : Int) : List Spn := if mayB a b = true then turn a.toNat b.toNat l [] else l
def code (ok : Bool) : Int := if ok then 0 else 1
/-- A map changed: its row is new. -/
def DoneN (w : World) (bm : Nat) (l : List Spn) (e : Ending) (w' : World) : Prop := e = .returned (.int .i64 0) ∧ Ext [bm] w w' ∧ MapN w' w.heap.size bm l
/-- A map changed, or not. -/
def Done (w : World) (bm : Nat) (ok : Bool) (l : List Spn) (e : Ending) (w' : World) : Prop := e = .returned (.int .i64 (code ok)) ∧ Ext [bm] w w' ∧ MapIs w' bm l

theorem set_cn (w : World) (bm : Nat) (l : List Spn) (hm : MapIs w bm l) (hl : l.length ≤ 4096) (a b : Int) (v : (Int × Int × Int)) (hb : mayB a b = true) :
    Calls Try.prog 62 #[.pointer (some ⟨bm, 0, none⟩), .int .i64 a, .int .i64 b, (.agg #[.int .i64 (v).1, .int .i64 (v).2.1, .int .i64 (v).2.2])] w (DoneN w bm (setL l a b v)) := by
  unfold setL
  rw [if_pos hb]
  obtain ⟨x, y, rfl, rfl, hxy, hy⟩ := mayB_yes hb
  have hbx := Blk.new w [.int .i64 (v).1, .int .i64 (v).2.1, .int .i64 (v).2.2] 93
  have kb2 := hbx.cell 0
  have kb3 := hbx.cell 1
  have kb4 := hbx.cell 2
  have hx : Ext [] w ((w.alloc (.cells #[.int .i64 (v).1, .int .i64 (v).2.1, .int .i64 (v).2.2] 93)).alloc (.cells #[.int .i64 (x : Int), .int .i64 (y : Int), .int .i64 (v).1, .int .i64 (v).2.1, .int .i64 (v).2.2] 97)) := ((Ext.refl _ _).alloc _).alloc _
  have hs := lit_at (w.alloc (.cells #[.int .i64 (v).1, .int .i64 (v).2.1, .int .i64 (v).2.2] 93)) 5 1 (encS [⟨x, y, v⟩]) 97 (by decide) rfl rfl
  rw [World.size_alloc] at hs
  have C := Lib.hid (turn_cn _ bm l [⟨x, y, v⟩] (hm.ext0 hx) hl x y hxy hy (some ⟨w.heap.size + 1, 0, none⟩) 1 hs (by simp))
  have HX := Lib.hid hx
  have e1 : (x : Int).toNat = x := by omega
  have e2 : (y : Int).toNat = y := by omega
  rw [e1, e2]
  generalize turn x y l [⟨x, y, v⟩] = l' at *
  clear hm hb hl hs hx e1 e2 hbx
  go_enter Try.func62, Try.ntmps62
  go_wp2_with (go_at_call 74; refine (C.out).mono ?_; rintro e w' ⟨rfl, hx2, hm2⟩)
  go_ret
  exact ⟨rfl, (HX.out.mono (by simp)).trans hx2, hm2.base HX.out.size⟩

theorem set_c (w : World) (bm : Nat) (l : List Spn) (hm : MapIs w bm l) (hl : l.length ≤ 4096) (a b : Int) (v : (Int × Int × Int)) :
    Calls Try.prog 62 #[.pointer (some ⟨bm, 0, none⟩), .int .i64 a, .int .i64 b, (.agg #[.int .i64 (v).1, .int .i64 (v).2.1, .int .i64 (v).2.2])] w (Done w bm (mayB a b) (setL l a b v)) := by
  cases hb : mayB a b
  · rw [show setL l a b v = l by unfold setL; rw [hb]; simp]
    have hbx := Blk.new w [.int .i64 (v).1, .int .i64 (v).2.1, .int .i64 (v).2.2] 93
    have kb2 := hbx.cell 0
    have kb3 := hbx.cell 1
    have kb4 := hbx.cell 2
    have hx : Ext [] w ((w.alloc (.cells #[.int .i64 (v).1, .int .i64 (v).2.1, .int .i64 (v).2.2] 93)).alloc (.cells #[.int .i64 a, .int .i64 b, .int .i64 (v).1, .int .i64 (v).2.1, .int .i64 (v).2.2] 97)) := ((Ext.refl _ _).alloc _).alloc _
    obtain ⟨vm, hB, _⟩ := hm.ext0 hx
    have C := Lib.hid (turn_no (.pointer (some ⟨bm, 0, none⟩)) a b (.slice (some ⟨w.heap.size + 1, 0, none⟩) 1 1) _ (.inr ⟨is_c _ bm vm true hB, hb⟩))
    have HM := Lib.hid (hm.ext0 hx)
    clear hm hb hB hl hbx
    go_enter Try.func62, Try.ntmps62
    go_wp2_with (go_at_call 74; refine (C.out).mono ?_; rintro e w' ⟨rfl, rfl⟩)
    go_ret
    exact ⟨rfl, hx.mono (by simp), HM.out⟩
  · exact (set_cn w bm l hm hl a b v hb).mono fun e w' ⟨h1, h2, h3⟩ => ⟨h1, h2, h3.is⟩

theorem clear_cn (w : World) (bm : Nat) (l : List Spn) (hm : MapIs w bm l) (hl : l.length ≤ 4096) (a b : Int) (hb : mayB a b = true) :
    Calls Try.prog 63 #[.pointer (some ⟨bm, 0, none⟩), .int .i64 a, .int .i64 b] w (DoneN w bm (clearL l a b)) := by
  unfold clearL
  rw [if_pos hb]
  obtain ⟨x, y, rfl, rfl, hxy, hy⟩ := mayB_yes hb
  have C := Lib.hid (turn_cn _ bm l [] hm hl x y hxy hy none 0 (Sl.nil _ _) (by simp))
  have e1 : (x : Int).toNat = x := by omega
  have e2 : (y : Int).toNat = y := by omega
  rw [e1, e2]
  generalize turn x y l [] = l' at *
  clear hm hb hl e1 e2
  go_enter Try.func63, Try.ntmps63
  go_wp2_with (go_at_call 74; refine (C.out).mono ?_; rintro e w' ⟨rfl, hx2, hm2⟩)
  go_ret
  exact ⟨rfl, hx2, hm2⟩

theorem clear_c (w : World) (bm : Nat) (l : List Spn) (hm : MapIs w bm l) (hl : l.length ≤ 4096) (a b : Int) :
    Calls Try.prog 63 #[.pointer (some ⟨bm, 0, none⟩), .int .i64 a, .int .i64 b] w (Done w bm (mayB a b) (clearL l a b)) := by
  cases hb : mayB a b
  · rw [show clearL l a b = l by unfold clearL; rw [hb]; simp]
    have hm' := hm
    obtain ⟨vm, hB, _⟩ := hm'
    have C := Lib.hid (turn_no (.pointer (some ⟨bm, 0, none⟩)) a b (.slice none 0 0) _ (.inr ⟨is_c _ bm vm true hB, hb⟩))
    have HM := Lib.hid hm
    clear hm hb hB hl
    go_enter Try.func63, Try.ntmps63
    go_wp2_with (go_at_call 74; refine (C.out).mono ?_; rintro e w' ⟨rfl, rfl⟩)
    go_ret
    exact ⟨rfl, Ext.refl _ _, HM.out⟩
  · exact (clear_cn w bm l hm hl a b hb).mono fun e w' ⟨h1, h2, h3⟩ => ⟨h1, h2, h3.is⟩

/-- A map that nobody made. -/
def Unmade (m : Value) (w : World) : Prop := ∀ w', Ext [] w w' → Calls Try.prog 66 #[m] w' fun e w'' => e = .returned (.bool false) ∧ w' = w''
theorem Unmade.nil (w : World) : Unmade (.pointer none) w := fun w' _ => is_nil w'
theorem Unmade.empty {w : World} {b : Nat} {v : Value} (h : Blk w b [v, .bool false] 121) : Unmade (.pointer (some ⟨b, 0, none⟩)) w := fun w' hx => is_c w' b v false (h.ext hx (by simp))
theorem set_un (w : World) (m : Value) (hm : Unmade m w) (a b : Int) (v : (Int × Int × Int)) :
    Calls Try.prog 62 #[m, .int .i64 a, .int .i64 b, (.agg #[.int .i64 (v).1, .int .i64 (v).2.1, .int .i64 (v).2.2])] w fun e w' => e = .returned (.int .i64 1) ∧ Ext [] w w' := by
  have hbx := Blk.new w [.int .i64 (v).1, .int .i64 (v).2.1, .int .i64 (v).2.2] 93
  have kb2 := hbx.cell 0
  have kb3 := hbx.cell 1
  have kb4 := hbx.cell 2
  have hx : Ext [] w ((w.alloc (.cells #[.int .i64 (v).1, .int .i64 (v).2.1, .int .i64 (v).2.2] 93)).alloc (.cells #[.int .i64 a, .int .i64 b, .int .i64 (v).1, .int .i64 (v).2.1, .int .i64 (v).2.2] 97)) := ((Ext.refl _ _).alloc _).alloc _
  have C := Lib.hid (turn_no m a b (.slice (some ⟨w.heap.size + 1, 0, none⟩) 1 1) _ (.inl (hm _ hx)))
  clear hm hbx
  go_enter Try.func62, Try.ntmps62
  go_wp2_with (go_at_call 74; refine (C.out).mono ?_; rintro e w' ⟨rfl, rfl⟩)
  go_ret
  exact ⟨rfl, hx⟩
theorem clear_un (w : World) (m : Value) (hm : Unmade m w) (a b : Int) :
    Calls Try.prog 63 #[m, .int .i64 a, .int .i64 b] w fun e w' => e = .returned (.int .i64 1) ∧ Ext [] w w' := by
  have C := Lib.hid (turn_no m a b (.slice none 0 0) _ (.inl (hm _ (Ext.refl _ _))))
  clear hm
  go_enter Try.func63, Try.ntmps63
  go_wp2_with (go_at_call 74; refine (C.out).mono ?_; rintro e w' ⟨rfl, rfl⟩)
  go_ret
  exact ⟨rfl, Ext.refl _ _⟩

end Go.Proofs.Ytjicpblncfgiaaa.SpU
