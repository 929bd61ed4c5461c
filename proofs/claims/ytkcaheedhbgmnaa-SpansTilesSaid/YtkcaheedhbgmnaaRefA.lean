/-
  Spans' reference: May, New, Set.
-/
import Derived.Test.YtkcaheedhbgmnaaSpAR
import Derived.Test.YtkcaheedhbgmnaaSpR
import Derived.Test.YtkcaheedhbgmnaaMake
namespace Go.Proofs.Ytkcaheedhbgmnaa
set_option linter.unusedVariables false
set_option linter.unusedSimpArgs false
open Go.RowKit SpT
set_option maxHeartbeats 2000000
set_option maxRecDepth 100000
set_option linter.unusedSectionVars false

def NV : Int := -4611686018427387904
/-- A block of numbers. -/
def IntBlk (w : World) (b : Nat) : Prop := ∃ cur, w.heap[b]? = some (.cells cur 3 (0, 0))
theorem IntBlk.ext {M : List Nat} {w w' : World} {b : Nat} (h : IntBlk w b) (hx : Ext M w w') (hm : b ∉ M) : IntBlk w' b := by
  obtain ⟨c, h⟩ := h; exact ⟨c, hx.keep h hm⟩
theorem IntBlk.set {w : World} {b : Nat} (h : IntBlk w b) (i : Nat) (u : Value) : IntBlk (w.setCell ⟨b, i, none⟩ u) b := by
  obtain ⟨c, h⟩ := h
  exact ⟨c.setIfInBounds i u, by simp [World.setCell, Array.getElem?_modify, h]⟩
/-- The reference holds these values. -/
structure R8 (w : World) (br bv : Nat) (f : Nat → Int) : Prop where
  ne : br ≠ bv
  tag : IntBlk w bv
  head : Blk w br [.slice (some ⟨bv, 0, none⟩) 4096 4096] 108
  vals : Cells w bv 4096 (fun k => .int .i64 (f k))
theorem R8.ext {M : List Nat} {w w' : World} {br bv : Nat} {f : Nat → Int} (h : R8 w br bv f) (hx : Ext M w w') (h1 : br ∉ M) (h2 : bv ∉ M) : R8 w' br bv f := ⟨h.ne, h.tag.ext hx h2, h.head.ext hx h1, h.vals.ext hx h2⟩
theorem R8.ext0 {w w' : World} {br bv : Nat} {f : Nat → Int} (h : R8 w br bv f) (hx : Ext [] w w') : R8 w' br bv f := h.ext hx (by simp) (by simp)

theorem rmay_c (a b : Int) (w : World) : Calls Try.prog 33 #[.int .i64 a, .int .i64 b] w fun e w' => e = .returned (.bool (okR a b)) ∧ w = w' := by
  by_cases h1 : 0 ≤ a
  · by_cases h2 : a < b
    · by_cases h3 : b ≤ 4096
      · have hm : okR a b = true := by simp [okR]; omega
        rw [hm]
        clear hm
        go_enter Try.func33, Try.ntmps33
        go_wp2
        go_ret
        exact ⟨rfl, rfl⟩
      · have hm : okR a b = false := by simp [okR]; omega
        rw [hm]
        clear hm
        go_enter Try.func33, Try.ntmps33
        go_wp2
        go_ret
        exact ⟨rfl, rfl⟩
    · have hm : okR a b = false := by simp [okR]; omega
      rw [hm]
      clear hm
      go_enter Try.func33, Try.ntmps33
      go_wp2
      go_ret
      exact ⟨rfl, rfl⟩
  · have hm : okR a b = false := by simp [okR]; omega
    rw [hm]
    clear hm
    go_enter Try.func33, Try.ntmps33
    go_wp2
    go_ret
    exact ⟨rfl, rfl⟩

/-- What Set leaves. -/
def RSet (w : World) (br bv : Nat) (f : Nat → Int) (ok : Bool) (e : Ending) (w' : World) : Prop := e = .returned (.int .i64 (if ok then 0 else 1)) ∧ Ext [bv] w w' ∧ R8 w' br bv f
theorem rset_c (w : World) (br bv : Nat) (f : Nat → Int) (h : R8 w br bv f) (a b v : Int) : Calls Try.prog 26 #[.pointer (some ⟨br, 0, none⟩), .int .i64 a, .int .i64 b, .int .i64 v] w (RSet w br bv (setF f a b v) (okR a b)) := by
  cases hb : okR a b
  · have CM := Lib.hid (fun w => rmay_c a b w)
    rw [hb] at CM
    have hf : setF f a b v = f := by funext p; unfold setF; rw [if_neg (by simp [hb])]
    rw [hf]
    have H := Lib.hid h
    clear hb hf h
    go_enter Try.func26, Try.ntmps26
    go_wp2_with (go_at_call 33; refine (CM.out _).mono ?_; rintro e w' ⟨rfl, rfl⟩)
    go_ret
    exact ⟨rfl, Ext.refl _ _, H.out⟩
  · have CM := Lib.hid (fun w => rmay_c a b w)
    rw [hb] at CM
    have hb' := hb
    simp [okR] at hb'
    obtain ⟨x, y, rfl, rfl, hxy, hy⟩ : ∃ x y : Nat, a = x ∧ b = y ∧ x < y ∧ y ≤ 4096 := ⟨a.toNat, b.toNat, by omega, by omega, by omega, by omega⟩
    have H := Lib.hid h
    have HB := Lib.hid hb
    clear hb hb' h
    go_enter Try.func26, Try.ntmps26
    go_wp2_with (go_at_call 33; refine (CM.out _).mono ?_; rintro e w' ⟨rfl, rfl⟩)
    go_loopw [9] (fun i wr => ∃ k : Nat, x ≤ k ∧ k ≤ y ∧ i = .int .i64 k ∧ Ext [bv] w wr ∧ R8 wr br bv (setF f x k v)) (fun i _ => y - (intOf i).toNat)
    case atStart =>
      refine ⟨x, by omega, by omega, rfl, Ext.refl _ _, ?_⟩
      have hf : setF f x x v = f := by funext p; unfold setF; rw [if_neg (by omega)]
      rw [hf]; exact H.out
    case round =>
      obtain ⟨k, hk1, hk2, rfl, hx, hR⟩ := hrel
      by_cases hlt : k < y
      · have k0 := hR.head.cell 0
        have c0 := hR.vals.cell (k := k) (by omega)
        have f0 := hR.vals.fr (k := k) (by omega)
        have i0 : (0 : Int) ≤ (k : Int) := by omega
        have i1 : (k : Int) < 4096 := by omega
        have HX := Lib.hid hx
        have HR := Lib.hid hR
        have hnx := hR.ne
        clear hx hR
        go_wp2
        go_roundw
        case rel =>
          refine ⟨k + 1, by omega, by omega, by go_num, HX.out.setCell _ _ (.inl (by simp)), hnx, HR.out.tag.set _ _, HR.out.head.set_ne _ (by simp [hnx]), (HR.out.vals.set (j := k) (by omega) (.int .i64 v)).congr (fun q hq => ?_)⟩
          show upd _ k _ q = Value.int .i64 (setF f x (k + 1 : Nat) v q)
          unfold upd setF
          by_cases e : q = k
          · subst e
            rw [if_pos rfl, if_pos ⟨by simp [okR]; omega, by omega, by omega⟩]
          · rw [if_neg e]
            show Value.int .i64 (if okR (x : Int) (k : Int) = true ∧ (x : Int) ≤ q ∧ (q : Int) < (k : Int) then v else f q) = _
            congr 1
            by_cases hq1 : x ≤ q ∧ q < k
            · rw [if_pos ⟨by simp [okR]; omega, by omega, by omega⟩, if_pos ⟨by simp [okR]; omega, by omega, by omega⟩]
            · rw [if_neg (by omega), if_neg (by omega)]
        case measure => simp [intOf]; omega
      · obtain rfl : k = y := by omega
        have HX := Lib.hid hx
        have HR := Lib.hid hR
        clear hx hR
        go_wp2
        go_ret
        exact ⟨rfl, HX.out, HR.out⟩

/-- A new reference. -/
def RNew8 (w : World) (e : Ending) (w' : World) : Prop := ∃ br bv, e = .returned (.pointer (some ⟨br, 0, none⟩)) ∧ w.heap.size ≤ br ∧ w.heap.size ≤ bv ∧ R8 w' br bv (fun _ => NoV) ∧ Ext [] w w'
theorem rnew_c (w : World) : Calls Try.prog 21 #[] w (RNew8 w) := by
  have hmk : ∀ w, (Instr.makeSlice 67 (.int .i64 4096) (.int .i64 4096)).run Try.prog w = .ok (.slice (some ⟨w.heap.size, 0, none⟩) 4096 4096) (w.alloc (.cells (madeCells (Value.int .i64 0).cells (4096 * 1)) 3)) :=
    mk_of (t := 67) (e := 3) (size := 1) (bytes := 8) (z := .int .i64 0) Try.underlying67 (by kernel_rfl) 4096 (by omega) (by omega)
  have hc := (Cells.made w (Value.int .i64 0).cells (4096 * 1) 3).alloc (.cells #[.slice (some ⟨w.heap.size, 0, none⟩) 4096 4096] 108)
  have hb := Blk.new (w.alloc (.cells (madeCells (Value.int .i64 0).cells (4096 * 1)) 3)) [.slice (some ⟨w.heap.size, 0, none⟩) 4096 4096] 108
  rw [World.size_alloc] at hb
  replace hc := hc.congr (g := fun _ => .int .i64 0) (fun k _ => by show (#[Value.int .i64 0] : Array Value)[k % 1]! = _; rw [Nat.mod_one]; rfl)
  have hx : Ext [] w ((w.alloc (.cells (madeCells (Value.int .i64 0).cells (4096 * 1)) 3)).alloc (.cells #[.slice (some ⟨w.heap.size, 0, none⟩) 4096 4096] 108)) := ((Ext.refl _ _).alloc _).alloc _
  have HT := Lib.hid (show IntBlk _ w.heap.size from (show IntBlk (w.alloc (.cells (madeCells (Value.int .i64 0).cells (4096 * 1)) 3)) w.heap.size from ⟨_, World.alloc_heap_new w _⟩).ext ((Ext.refl [] _).alloc (.cells #[.slice (some ⟨w.heap.size, 0, none⟩) 4096 4096] 108)) (by simp))
  have HC := Lib.hid hc
  have HB := Lib.hid hb
  have HX := Lib.hid hx
  clear hc hb hx
  generalize hz : (Value.int .i64 0).cells = z at *
  go_enter Try.func21, Try.ntmps21
  go_wp2
  have hR0 : R8 ((w.alloc (.cells (madeCells z (4096 * 1)) 3)).alloc (.cells #[.slice (some ⟨w.heap.size, 0, none⟩) 4096 4096] 108)) (w.heap.size + 1) w.heap.size (fun _ => 0) := ⟨by omega, HT.out, HB.out, HC.out⟩
  generalize ((w.alloc (.cells (madeCells z (4096 * 1)) 3)).alloc (.cells #[.slice (some ⟨w.heap.size, 0, none⟩) 4096 4096] 108)) = w1 at *
  clear HB HC HT hmk hz
  go_loopw [2] (fun i wr => ∃ k : Nat, k ≤ 4096 ∧ i = .int .i64 k ∧ Ext [] w wr ∧ R8 wr (w.heap.size + 1) w.heap.size (fun p => if p < k then NoV else 0)) (fun i _ => 4096 - (intOf i).toNat)
  case atStart => exact ⟨0, by omega, rfl, HX.out, by simpa using hR0⟩
  case round =>
    obtain ⟨k, hk, rfl, hx, hR⟩ := hrel
    have k0 := hR.head.cell 0
    by_cases hlt : k < 4096
    · have c0 := hR.vals.cell (k := k) (by omega)
      have f0 := hR.vals.fr (k := k) (by omega)
      have HXr := Lib.hid hx
      have HR := Lib.hid hR
      clear hx hR
      go_wp2
      go_roundw
      case rel =>
        refine ⟨k + 1, by omega, by go_num, HXr.out.setCell _ _ (.inr (Nat.le_refl _)), by omega, HR.out.tag.set _ _, HR.out.head.set_ne _ (by simp), (HR.out.vals.set (j := k) (by omega) (.int .i64 (-4611686018427387904))).congr (fun q hq => ?_)⟩
        show upd _ k _ q = Value.int .i64 (if q < k + 1 then NoV else 0)
        unfold upd
        by_cases e : q = k
        · subst e; rw [if_pos rfl, if_pos (by omega)]; rfl
        · rw [if_neg e]
          show Value.int .i64 (if q < k then NoV else 0) = _
          congr 1
          by_cases h : q < k
          · rw [if_pos h, if_pos (by omega)]
          · rw [if_neg h, if_neg (by omega)]
      case measure => simp [intOf]; omega
    · obtain rfl : k = 4096 := by omega
      have HXr := Lib.hid hx
      have HR := Lib.hid hR
      clear hx hR hR0 hlt hk
      go_wp2
      go_ret
      exact ⟨_, _, rfl, by omega, Nat.le_refl _, ⟨HR.out.ne, HR.out.tag, HR.out.head, HR.out.vals.congr (fun q hq => by show Value.int .i64 (if q < 4096 then NoV else 0) = _; rw [if_pos hq])⟩, HXr.out⟩

end Go.Proofs.Ytkcaheedhbgmnaa
