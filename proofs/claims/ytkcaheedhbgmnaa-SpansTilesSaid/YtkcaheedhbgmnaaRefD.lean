/-
  Spans' reference: Find.
-/
import Derived.Test.YtkcaheedhbgmnaaRefC
namespace Go.Proofs.Ytkcaheedhbgmnaa
set_option linter.unusedVariables false
set_option linter.unusedSimpArgs false
open Go.RowKit SpT
set_option maxHeartbeats 4000000
set_option maxRecDepth 100000
set_option linter.unusedSectionVars false

def fIn (page : Int) (x : Sp Int) : Bool := decide ((x.f : Int) ≤ page) && decide (page < (x.t : Int))
def rfindC (o : Option (Sp Int)) : List Value := match o with
  | some x => SpR.cells x
  | none => [.int .i64 0, .int .i64 0, .int .i64 0]
def RFound (w : World) (o : Option (Sp Int)) (e : Ending) (w' : World) : Prop := e = .returned (.tuple #[.agg (rfindC o).toArray, .bool o.isSome]) ∧ Ext [] w w'
theorem rfind_c (w : World) (br bv : Nat) (f : Nat → Int) (h : R8 w br bv f) (page : Int) : Calls Try.prog 48 #[.pointer (some ⟨br, 0, none⟩), .int .i64 page] w (RFound w ((inR8 f 0 4096).find? (fIn page))) := by
  have hL : (inR8 f 0 4096).length ≤ 4096 := (inR8_ok f 0 4096).1.len
  have hx0 : Ext [] w (w.alloc (.cells #[.int .i64 0, .int .i64 0, .int .i64 0] 58)) := (Ext.refl _ _).alloc _
  have CR := Lib.hid (rwithin_c _ br bv f (h.ext0 hx0) 0 4096)
  have hB := Blk.new w [.int .i64 0, .int .i64 0, .int .i64 0] 58
  generalize inR8 f 0 4096 = L at *
  have HB := Lib.hid hB
  have HX0 := Lib.hid hx0
  have hw0 : w.heap.size < (w.alloc (.cells #[.int .i64 0, .int .i64 0, .int .i64 0] 58)).heap.size := by simp
  have HW0 := Lib.hid hw0
  clear h hB hx0 hw0
  go_enter Try.func48, Try.ntmps48
  go_wp2_with (go_at_call 14; refine (CR.out).mono ?_; rintro e w1 ⟨v1, rfl, hr, hx1⟩; obtain ⟨a1, c1, rfl, _, _⟩ := ownsRow_form hr; have HR := Lib.hid hr; have HX1 := Lib.hid (HX0.out.trans hx1); have HB1 := Lib.hid (HB.out.ext hx1 (by simp)); clear hr hx1)
  generalize hw1 : (w.alloc (.cells #[.int .i64 0, .int .i64 0, .int .i64 0] 58)).heap.size = B1 at *
  go_loopw [7] (fun i wr => ∃ k : Nat, k ≤ L.length ∧ i = .int .i64 k ∧ Ext [] w1 wr ∧ ∀ x, x ∈ L.take k → fIn page x = false) (fun i _ => L.length - (intOf i).toNat)
  case atStart => exact ⟨0, by omega, rfl, Ext.refl _ _, by simp⟩
  case round =>
    obtain ⟨k, hk, rfl, hx, hno⟩ := hrel
    have hB4 := HB1.out.ext hx (by simp)
    have f0 := hB4.frozen 0
    have f1 := hB4.frozen 1
    have f2 := hB4.frozen 2
    have k0 := hB4.cell 0
    have k1 := hB4.cell 1
    have k2 := hB4.cell 2
    by_cases hlt : k < L.length
    · obtain ⟨m, hm⟩ : ∃ m, L.length = m + 1 := ⟨L.length - 1, by omega⟩
      have hR1 := ownsRow_ext HR.out hx (by simp)
      have hR1' := hR1
      rw [hm] at hR1'
      obtain ⟨g, cap, he⟩ := ownsRow_succ hR1'
      injection he with he1 he2 he3
      subst he1 he3
      have hcell : ∀ j, j < 3 → wr.cell? ⟨g, k * 3 + j, none⟩ = (SpR.cells L[k])[j]? := fun j hj => by
        have h1 := hR1.cellAt (k * 3 + j) (by rw [hm]; omega)
        rw [SpR.encS_at hlt hj] at h1; exact h1
      have hts := rtake_snoc hlt
      have hfx : fIn page L[k] = true → L.find? (fIn page) = some L[k] := fun h => by
        have e : L = L.take k ++ (L[k] :: L.drop (k + 1)) := by rw [← List.drop_eq_getElem_cons hlt, List.take_append_drop]
        have hn : (L.take k).find? (fIn page) = none := List.find?_eq_none.2 (fun x hx => by simp [hno x hx])
        have h3 : (L.take k ++ (L[k] :: L.drop (k + 1))).find? (fIn page) = some L[k] := by
          rw [List.find?_append, hn, List.find?_cons_of_pos h]; rfl
        rwa [← e] at h3
      obtain ⟨x, hxd⟩ : ∃ x, x = L[k] := ⟨_, rfl⟩
      rw [← hxd] at hcell hts hfx
      have hnn : fIn page x = false → ∀ y, y ∈ L.take (k + 1) → fIn page y = false := fun h y hy => by
        rw [hts] at hy
        rcases List.mem_append.1 hy with hy | hy
        · exact hno y hy
        · obtain rfl : y = x := by simpa using hy
          exact h
      have hc0 : wr.cell? ⟨g, k * 3, none⟩ = _ := hcell 0 (by omega)
      have hc1 := hcell 1 (by omega)
      have hc2 := hcell 2 (by omega)
      have hi0 : (0 : Int) ≤ (k : Int) := by omega
      have hi1 : (k : Int) < (L.length : Int) := by omega
      have HX := Lib.hid hx
      have HF := Lib.hid hfx
      have HN := Lib.hid hnn
      obtain ⟨xf, xt, xv⟩ := x
      unfold SpR.cells at hc0 hc1 hc2
      have hgne : g ≠ w.heap.size := by
        have h1 := (hR1.lt g rfl).1
        have h2 := HW0.out
        omega
      have HBX := Lib.hid hB4
      have ht : fIn page ⟨xf, xt, xv⟩ = (decide ((xf : Int) ≤ page) && decide (page < (xt : Int))) := rfl
      have HT := Lib.hid ht
      clear hcell hts hxd hR1 hR1' hm hx hno hfx hnn hB4 ht hw1
      by_cases h1 : (xf : Int) ≤ page
      · by_cases h2 : page < (xt : Int)
        · have HY := Lib.hid (HF.out (by rw [HT.out]; simp [h1, h2]))
          go_wp2
          (try simp only [Exit.inBlock, Exit.then])
          refine bodyPost_ret (v := .tuple #[.agg #[.int .i64 (xf : Int), .int .i64 (xt : Int), .int .i64 xv], .bool true]) ?_ rfl ?_
          · rw [results_cell_tmp rfl]
            go_simp
          · rw [HY.out]
            refine ⟨rfl, ?_⟩
            have h := HX1.out.trans HX.out
            repeat' (first | exact h | refine Ext.setCell ?_ _ _ (.inr (Nat.le_refl _)))
        · have HY := Lib.hid (HN.out (by rw [HT.out]; simp [h2]))
          go_wp2
          go_roundw
          case rel => exact ⟨k + 1, by omega, by go_num, HX.out, HY.out⟩
          case measure => simp [intOf]; omega
      · have HY := Lib.hid (HN.out (by rw [HT.out]; simp [h1]))
        go_wp2
        go_roundw
        case rel => exact ⟨k + 1, by omega, by go_num, HX.out, HY.out⟩
        case measure => simp [intOf]; omega
    · obtain rfl : k = L.length := by omega
      rw [List.take_length] at hno
      have HN := Lib.hid (show L.find? (fIn page) = none from List.find?_eq_none.2 (fun x hx' => by simp [hno x hx']))
      have HX := Lib.hid hx
      have HBX := Lib.hid hB4
      clear hx hno hB4 hw1
      go_wp2
      (try simp only [Exit.inBlock, Exit.then])
      refine bodyPost_ret (v := .tuple #[.agg #[.int .i64 0, .int .i64 0, .int .i64 0], .bool false]) ?_ rfl ?_
      · rw [results_cell_tmp rfl]
        go_simp
      · rw [HN.out]
        refine ⟨rfl, ?_⟩
        have h := HX1.out.trans HX.out
        repeat' (first | exact h | refine Ext.setCell ?_ _ _ (.inr (Nat.le_refl _)))

end Go.Proofs.Ytkcaheedhbgmnaa
