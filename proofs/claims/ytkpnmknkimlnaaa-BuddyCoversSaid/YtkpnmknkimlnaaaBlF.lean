/-
  Buddy's law: the block that an act is about.
-/
import Derived.Test.YtkpnmknkimlnaaaBlB
import Derived.Test.YtkpnmknkimlnaaaBrE
namespace Go.Proofs.Ytkpnmknkimlnaaa
set_option linter.unusedVariables false
set_option linter.unusedSimpArgs false
open Go.RowKit BuT
set_option maxHeartbeats 4000000
set_option maxRecDepth 100000
set_option linter.unusedVariables false
set_option linter.unusedSimpArgs false

/-- The block that an act names. -/
def actB (tk : List Bk) (f o h : Int) : Bk := if 0 ≤ h ∧ 0 < tk.length then tk.getD (h.toNat % tk.length) bk0 else ⟨f, o⟩

theorem block_c (w : World) (rp : Nat) (K : List Nat) (F n : Nat) (fr tk : List Bk) (d f o h : Int) (hR0 : RB w rp K F n fr tk) (hl : tk.length ≤ 4096) (hh : h ≤ 9223372036854775807) :
    Calls Try.prog 59 #[.pointer (some ⟨rp, 0, none⟩), .agg #[.int .i64 d, .int .i64 f, .int .i64 o, .int .i64 h]] w fun e w' => e = .returned (.agg #[.int .i64 (actB tk f o h).f, .int .i64 (actB tk f o h).o]) ∧ Ext [] w w' := by
  obtain ⟨vF, vT, hR⟩ := hR0
  obtain ⟨a, c, rfl, h1, h2, _, h4⟩ := BSl.of hR.taken
  have hx0 : Ext [] w ((w.alloc (.cells #[.int .i64 d, .int .i64 f, .int .i64 o, .int .i64 h] 67)).alloc (.cells #[.int .i64 0, .int .i64 0] 76)) := ((Ext.refl _ _).alloc _).alloc _
  have bA := (Blk.new w [.int .i64 d, .int .i64 f, .int .i64 o, .int .i64 h] 67).alloc (.cells #[.int .i64 0, .int .i64 0] 76)
  have bR := Blk.new (w.alloc (.cells #[.int .i64 d, .int .i64 f, .int .i64 o, .int .i64 h] 67)) [.int .i64 0, .int .i64 0] 76
  rw [World.size_alloc] at bR
  have hrl := hR.head.lt
  have hr := (hR.ext0 hx0).head
  have hX0 := Lib.hid hx0
  have c3 := hr.cell 3
  have a1 := bA.cell 1
  have a2 := bA.cell 2
  have a3 := bA.cell 3
  have b0 := bR.cell 0
  have b1 := bR.cell 1
  have f0 := bR.frozen 0
  have f1 := bR.frozen 1
  unfold maxLen at h2
  have H4 := Lib.hid h4
  have HR := Lib.hid hr
  have BA := Lib.hid bA
  have BR := Lib.hid bR
  clear hR hx0 bA hr h4 bR
  by_cases hh0 : 0 ≤ h
  · obtain ⟨m, rfl⟩ := Int.eq_ofNat_of_zero_le hh0
    by_cases hl0 : 0 < tk.length
    · have hq : actB tk f o (m : Int) = tk[m % tk.length]'(Nat.mod_lt _ hl0) := by
        unfold actB; rw [if_pos ⟨hh0, hl0⟩, Int.toNat_natCast, List.getD_eq_getElem?_getD, List.getElem?_eq_getElem (Nat.mod_lt _ hl0)]; rfl
      rw [hq]
      obtain ⟨g, rfl, hg, e0, e1⟩ := H4.out _ (Nat.mod_lt m hl0)
      have hmod : (m : Int) % (tk.length : Int) = ((m % tk.length : Nat) : Int) := by simp
      have hil := Nat.mod_lt m hl0
      generalize tk[m % tk.length]'(Nat.mod_lt _ hl0) = x at *
      generalize m % tk.length = k at *
      have j0 : (0 : Int) ≤ (m : Int) := hh0
      have j1 : (0 : Int) < (tk.length : Int) := by omega
      have i0 : (0 : Int) ≤ (k : Int) := by omega
      have i1 : (k : Int) < (tk.length : Int) := by omega
      have dl : decide ((tk.length : Int) > 0) = true := by simp; omega
      have dh : decide ((m : Int) ≥ 0) = true := by simp
      have e0' := (hX0.out.cell (p := ⟨g, k * 2, none⟩) hg (by simp)).trans e0
      have e1' := (hX0.out.cell (p := ⟨g, k * 2 + 1, none⟩) hg (by simp)).trans e1
      have n1 : g ≠ w.heap.size := by omega
      have n2 : g ≠ w.heap.size + 1 := by omega
      have n3 : ¬ w.heap.size + 1 = g := by omega
      have n4 : rp ≠ w.heap.size + 1 := by omega
      have n5 : ¬ w.heap.size + 1 = rp := by omega
      have n6 : ¬ rp = w.heap.size := by omega
      have t1 : ((m : Int)).tmod (tk.length : Int) = (k : Int) := by rw [Int.tmod_eq_emod_of_nonneg hh0]; exact hmod
      have t2 : IntKind.i64.wrap (k : Int) = (k : Int) := IntWalk.i64_in _ (by omega)
      have z1 : ((tk.length : Int) == 0) = false := by simp; intro h; subst h; simp at hl0
      have z2 : ¬ (tk.length : Int) = 0 := by omega
      have z3 : ¬ tk.length = 0 := by omega
      clear e0 e1 hq H4
      generalize tk.length = L at *
      go_enter Try.func59, Try.ntmps59
      go_wp2
      generalize hw2 : (w.alloc (.cells #[.int .i64 d, .int .i64 f, .int .i64 o, .int .i64 (m : Int)] 67)).alloc (.cells #[.int .i64 0, .int .i64 0] 76) = w2 at *
      clear hw2
      go_region_held3 (fun cur => cur.cell? ⟨rp, 3, none⟩ = some (.slice (some ⟨g, 0, none⟩) L c) ∧ cur.cell? ⟨w.heap.size, 3, none⟩ = some (.int .i64 (m : Int)) ∧ cur.cell? ⟨g, k * 2, none⟩ = some (.int .i64 x.f) ∧ cur.cell? ⟨g, k * 2 + 1, none⟩ = some (.int .i64 x.o)) (go_keep) (fail)
      all_goals
        go_wp2
        (try simp only [Exit.inBlock, Exit.then])
        have z00 := (BR.out.set 0 (.int .i64 x.f)).cell 0
        have BF := (BR.out.set 0 (.int .i64 x.f)).set 1 (.int .i64 x.o)
        have z0 := BF.cell 0
        have z1 := BF.cell 1
        simp only [List.set_cons_zero, List.set_cons_succ, List.getElem?_cons_zero, List.getElem?_cons_succ] at z0 z1 z00
        refine bodyPost_ret (?_ : (results _ _).run _ _ = .ok (.agg #[.int .i64 x.f, .int .i64 x.o]) _) rfl ?_
        · rw [results_cell1 rfl]
          simp [go_sem, z0, z1, z00]
        exact ⟨rfl, ((hX0.out.drew.setCell ⟨w.heap.size + 1, 0, none⟩ _ (.inr (Nat.le_succ _))).setCell ⟨w.heap.size + 1, 1, none⟩ _ (.inr (Nat.le_succ _)))⟩
    · have hl1 : tk.length = 0 := by omega
      have hq : actB tk f o (m : Int) = ⟨f, o⟩ := by unfold actB; rw [if_neg (fun h => hl0 h.2)]
      rw [hq]
      have dh : decide ((m : Int) ≥ 0) = true := by simp
      rw [hl1] at c3
      have dl : decide (((0 : Nat) : Int) > 0) = false := by simp
      clear hq H4 hl0 hl1 HR h1 hl
      go_enter Try.func59, Try.ntmps59
      go_wp2
      (try simp only [Exit.inBlock, Exit.then])
      have z00 := (BR.out.set 0 (.int .i64 f)).cell 0
      have BF := (BR.out.set 0 (.int .i64 f)).set 1 (.int .i64 o)
      have z0 := BF.cell 0
      have z1 := BF.cell 1
      simp only [List.set_cons_zero, List.set_cons_succ, List.getElem?_cons_zero, List.getElem?_cons_succ] at z0 z1 z00
      refine bodyPost_ret (?_ : (results _ _).run _ _ = .ok (.agg #[.int .i64 f, .int .i64 o]) _) rfl ?_
      · rw [results_cell1 rfl]
        simp [go_sem, z0, z1, z00]
      exact ⟨rfl, ((Ext.refl _ _).alloc _).alloc _⟩
  · have hq : actB tk f o h = ⟨f, o⟩ := by unfold actB; rw [if_neg (fun h => hh0 h.1)]
    rw [hq]
    have dh : decide (h ≥ 0) = false := by simp; omega
    clear hq H4 HR h1 hl
    go_enter Try.func59, Try.ntmps59
    go_wp2
    (try simp only [Exit.inBlock, Exit.then])
    have z00 := (BR.out.set 0 (.int .i64 f)).cell 0
    have BF := (BR.out.set 0 (.int .i64 f)).set 1 (.int .i64 o)
    have z0 := BF.cell 0
    have z1 := BF.cell 1
    simp only [List.set_cons_zero, List.set_cons_succ, List.getElem?_cons_zero, List.getElem?_cons_succ] at z0 z1 z00
    refine bodyPost_ret (?_ : (results _ _).run _ _ = .ok (.agg #[.int .i64 f, .int .i64 o]) _) rfl ?_
    · rw [results_cell1 rfl]
      simp [go_sem, z0, z1, z00]
    exact ⟨rfl, ((Ext.refl _ _).alloc _).alloc _⟩

end Go.Proofs.Ytkpnmknkimlnaaa
