/-
  Walks over package phys: a frame let be zero; frames counted.
-/
import Derived.Test.YtkpnmknkimlnaaaPhysC
import Derived.Laws.StructEq
import Derived.Laws.Tables
import Derived.Laws.Cover2
namespace Go.Proofs.Ytkpnmknkimlnaaa
set_option linter.unusedVariables false
set_option linter.unusedSimpArgs false
open Go.RowKit
set_option maxHeartbeats 1000000
set_option maxRecDepth 10000

theorem zero_no (m : Value) (f : Int) (w : World) (h : NoAt m f w) : Calls Try.prog 41 #[m, .int .i64 f] w fun e w' => e = .returned (.int .i64 1) ∧ w = w' := by
  have H := Lib.hid h
  clear h
  go_enter Try.func41, Try.ntmps41
  go_wp2_with (go_at_call 51; refine (H.out).mono ?_; rintro e w' ⟨rfl, rfl⟩)
  go_ret
  exact ⟨rfl, rfl⟩
set_option maxRecDepth 100000 in
theorem eqWords (a0 a1 a2 a3 a4 a5 a6 a7 : Int) (w : World) :
    (Op.equalIn 10000 115 (.agg #[.int .u64 a0, .int .u64 a1, .int .u64 a2, .int .u64 a3, .int .u64 a4, .int .u64 a5, .int .u64 a6, .int .u64 a7]) (.agg #[.int .u64 0, .int .u64 0, .int .u64 0, .int .u64 0, .int .u64 0, .int .u64 0, .int .u64 0, .int .u64 0])).run Try.prog w
      = .ok (a0 == 0 && (a1 == 0 && (a2 == 0 && (a3 == 0 && (a4 == 0 && (a5 == 0 && (a6 == 0 && a7 == 0))))))) w := by
  have u3 := Try.underlying33
  have a3' := Try.isAgg33
  have z3 := Try.sizeOf33
  rw [show (10000 : Nat) = 9999 + 1 from rfl, Op.equalIn]
  simp only [Sem.run_bind, run_underlying Try.underlying115, Result.andThen_ok]
  simp only [Std.Legacy.Range.forIn_eq_forIn_range', Std.Legacy.Range.size, Nat.sub_zero, Nat.add_sub_cancel, Nat.div_one, List.range'_succ, List.range'_zero, List.forIn_cons, List.forIn_nil]
  go_simp
  by_cases h0 : a0 = 0
  rotate_left
  · simp [h0]
  by_cases h1 : a1 = 0
  rotate_left
  · simp [h0, h1]
  by_cases h2 : a2 = 0
  rotate_left
  · simp [h0, h1, h2]
  by_cases h3 : a3 = 0
  rotate_left
  · simp [h0, h1, h2, h3]
  by_cases h4 : a4 = 0
  rotate_left
  · simp [h0, h1, h2, h3, h4]
  by_cases h5 : a5 = 0
  rotate_left
  · simp [h0, h1, h2, h3, h4, h5]
  by_cases h6 : a6 = 0
  rotate_left
  · simp [h0, h1, h2, h3, h4, h5, h6]
  by_cases h7 : a7 = 0
  rotate_left
  · simp [h0, h1, h2, h3, h4, h5, h6, h7]
  simp [h0, h1, h2, h3, h4, h5, h6, h7]

theorem zeroV (w : World) : (zeroValue 33).run Try.prog w = .ok (.int .u64 0) w := by kernel_rfl

theorem zero_is (m : Value) (f : Int) (bl o n : Nat) (w : World) (h : AtIs m f bl o w) (g : Nat → Value) (hc : Cells w bl n g) (ho : o + 8 ≤ n) (a : Nat → Int) (ha : ∀ j, j < 8 → g (o + j) = .int .u64 (a j)) :
    Calls Try.prog 41 #[m, .int .i64 f] w fun e w' => e = .returned (.int .i64 0) ∧ Ext [bl] w w' ∧ Cells w' bl n (fun k => if o ≤ k ∧ k < o + 8 then .int .u64 0 else g k) := by
  have H := Lib.hid h
  clear h
  have E := fun w => eqWords (a 0) (a 1) (a 2) (a 3) (a 4) (a 5) (a 6) (a 7) w
  have c0 := hc.cell (k := o + 0) (by omega)
  have c1 := hc.cell (k := o + 1) (by omega)
  have c2 := hc.cell (k := o + 2) (by omega)
  have c3 := hc.cell (k := o + 3) (by omega)
  have c4 := hc.cell (k := o + 4) (by omega)
  have c5 := hc.cell (k := o + 5) (by omega)
  have c6 := hc.cell (k := o + 6) (by omega)
  have c7 := hc.cell (k := o + 7) (by omega)
  rw [ha 0 (by omega), Nat.add_zero] at c0
  rw [ha 1 (by omega)] at c1
  rw [ha 2 (by omega)] at c2
  rw [ha 3 (by omega)] at c3
  rw [ha 4 (by omega)] at c4
  rw [ha 5 (by omega)] at c5
  rw [ha 6 (by omega)] at c6
  rw [ha 7 (by omega)] at c7
  have hclr : ∀ ty, (Builtin.clear_ #[47] ty #[.slice (some ⟨bl, o, none⟩) 8 8]).run Try.prog w = .ok (.tuple #[]) (w.setCells bl o (List.replicate 8 (.int .u64 0))) :=
    fun ty => Lib.run_clear_slice w 47 33 ty (.int .u64 0) Try.underlying47 zeroV rfl rfl bl o 8 8 (by omega) (fun j hj => by rw [hc.cell (by omega)]; rfl) (fun j hj => hc.fr (by omega))
  have HC := Lib.hid hc
  have HA := Lib.hid ha
  generalize hr : (a 0 == 0 && (a 1 == 0 && (a 2 == 0 && (a 3 == 0 && (a 4 == 0 && (a 5 == 0 && (a 6 == 0 && a 7 == 0))))))) = r at E
  have HR := Lib.hid hr
  clear hr hc ha
  generalize hw2 : w.setCells bl o (List.replicate 8 (.int .u64 0)) = w2 at hclr
  have HW := Lib.hid hw2
  clear hw2
  cases r
  · go_enter Try.func41, Try.ntmps41
    go_wp2_with (go_at_call 51; refine (H.out).mono ?_; rintro e w' ⟨rfl, rfl⟩)
    go_ret
    rw [← HW.out]
    refine ⟨rfl, Ext.setCells (w := w) _ _ _ (Ext.refl _ _) (.inl (by simp)), (HC.out.setCells o (List.replicate 8 (.int .u64 0)) (by simpa using ho)).congr ?_⟩
    intro k hk
    simp only [List.length_replicate]
    split
    · next e => rw [List.getD_eq_getElem?_getD, List.getElem?_replicate, if_pos (by omega)]; rfl
    · rfl
  · go_enter Try.func41, Try.ntmps41
    go_wp2_with (go_at_call 51; refine (H.out).mono ?_; rintro e w' ⟨rfl, rfl⟩)
    go_ret
    refine ⟨rfl, Ext.refl _ _, HC.out.congr ?_⟩
    intro k hk
    split
    · next e =>
      obtain ⟨j, rfl⟩ : ∃ j, k = o + j := ⟨k - o, by omega⟩
      have hj : j < 8 := by omega
      have hz := HR.out
      simp only [Bool.and_eq_true, beq_iff_eq] at hz
      rw [HA.out j hj]
      have : j = 0 ∨ j = 1 ∨ j = 2 ∨ j = 3 ∨ j = 4 ∨ j = 5 ∨ j = 6 ∨ j = 7 := by omega
      rcases this with rfl | rfl | rfl | rfl | rfl | rfl | rfl | rfl <;> simp [hz]
    · rfl

theorem count_nil (node kind : Int) (w : World) : Calls Try.prog 18 #[.pointer none, .int .i64 node, .int .i64 kind] w fun e w' => e = .returned (.int .i64 0) ∧ w = w' := by
  go_enter Try.func18, Try.ntmps18
  go_wp2
  go_ret
  exact ⟨rfl, rfl⟩
theorem count_out (bm : Nat) (N node kind : Int) (w : World) (c0 : w.cell? ⟨bm, 0, none⟩ = some (.int .i64 N)) (h : node < 0 ∨ N ≤ node) : Calls Try.prog 18 #[.pointer (some ⟨bm, 0, none⟩), .int .i64 node, .int .i64 kind] w fun e w' => e = .returned (.int .i64 0) ∧ w = w' := by
  rcases h with h | h
  all_goals
    go_enter Try.func18, Try.ntmps18
    go_wp2
    all_goals
      go_ret
      exact ⟨rfl, rfl⟩

/-- Of so many frames from one on, how many are of a kind. -/
def kinds (kd : Nat → Int) (kind : Int) (from_ : Nat) : Nat → Nat
  | 0 => 0
  | j + 1 => kinds kd kind from_ j + if kd (from_ + j) = kind then 1 else 0
theorem kinds_le (kd : Nat → Int) (kind : Int) (from_ j : Nat) : kinds kd kind from_ j ≤ j := by
  induction j with
  | zero => exact Nat.le_refl _
  | succ j ih => unfold kinds; split <;> omega

theorem count_is (bm bl n N E x : Nat) (kind : Int) (w : World) (c0 : w.cell? ⟨bm, 0, none⟩ = some (.int .i64 N)) (c1 : w.cell? ⟨bm, 1, none⟩ = some (.int .i64 E)) (c2 : w.cell? ⟨bm, 2, none⟩ = some (.slice (some ⟨bl, 0, none⟩) n n)) (hn : n = N * E) (hE : 1 ≤ E ∧ E ≤ 1024) (hN : 1 ≤ N ∧ N ≤ 8) (hx : x < N)
    (g : Nat → Value) (hc : Cells w bl (n * 10) g) (wd : Nat → Int) (kd nd : Nat → Int) (hg : ∀ k, k < n → (∀ j, j < 8 → g (k * 10 + j) = .int .u64 (wd (k * 8 + j))) ∧ g (k * 10 + 8) = .int .i64 (kd k) ∧ g (k * 10 + 9) = .int .i64 (nd k)) :
    Calls Try.prog 18 #[.pointer (some ⟨bm, 0, none⟩), .int .i64 x, .int .i64 kind] w fun e w' => e = .returned (.int .i64 (kinds kd kind (x * E) E)) ∧ Ext [] w w' := by
  have hm1 : x * E + E ≤ n := by
    have : (x + 1) * E ≤ N * E := Nat.mul_le_mul_right E hx
    rw [hn]; rw [Nat.add_mul, Nat.one_mul] at this; exact this
  have h0 : ¬ ((x : Int) < 0) := by omega
  have h1 : ¬ ((x : Int) ≥ (N : Int)) := by omega
  have p1 : (x : Int) * (E : Int) = ((x * E : Nat) : Int) := by simp
  have p2 : ((x : Int) + 1) * (E : Int) = ((x * E + E : Nat) : Int) := by rw [Int.add_mul, Int.one_mul]; simp
  have hxE : x * E ≤ 8192 := by
    have : x * E ≤ 8 * 1024 := Nat.mul_le_mul (by omega) hE.2
    omega
  have HC := Lib.hid hc
  have HG := Lib.hid hg
  clear hc hg
  generalize x * E = b at *
  go_enter Try.func18, Try.ntmps18
  go_wp2
  go_region
  go_wp2
  go_loopw [7, 43] (fun u i wr => ∃ j : Nat, j ≤ E ∧ i = .int .i64 j ∧ u = .int .i64 (kinds kd kind b j) ∧ Ext [] w wr) (fun u i _ => E - (intOf i).toNat)
  case atStart => exact ⟨0, by omega, rfl, rfl, (Ext.refl _ _).drew⟩
  case round =>
    obtain ⟨j, hj, rfl, rfl, hx⟩ := hrel
    by_cases hlt : j < E
    · have hcw := HC.out.ext hx (by simp)
      have hgj := HG.out (b + j) (by omega)
      have r0 := hcw.cell (k := (b + j) * 10 + 0) (by omega)
      have r1 := hcw.cell (k := (b + j) * 10 + 1) (by omega)
      have r2 := hcw.cell (k := (b + j) * 10 + 2) (by omega)
      have r3 := hcw.cell (k := (b + j) * 10 + 3) (by omega)
      have r4 := hcw.cell (k := (b + j) * 10 + 4) (by omega)
      have r5 := hcw.cell (k := (b + j) * 10 + 5) (by omega)
      have r6 := hcw.cell (k := (b + j) * 10 + 6) (by omega)
      have r7 := hcw.cell (k := (b + j) * 10 + 7) (by omega)
      have r8 := hcw.cell (k := (b + j) * 10 + 8) (by omega)
      have r9 := hcw.cell (k := (b + j) * 10 + 9) (by omega)
      rw [hgj.1 0 (by omega), Nat.add_zero, Nat.add_mul] at r0
      rw [hgj.1 1 (by omega), Nat.add_mul] at r1
      rw [hgj.1 2 (by omega), Nat.add_mul] at r2
      rw [hgj.1 3 (by omega), Nat.add_mul] at r3
      rw [hgj.1 4 (by omega), Nat.add_mul] at r4
      rw [hgj.1 5 (by omega), Nat.add_mul] at r5
      rw [hgj.1 6 (by omega), Nat.add_mul] at r6
      rw [hgj.1 7 (by omega), Nat.add_mul] at r7
      rw [hgj.2.1, Nat.add_mul] at r8
      rw [hgj.2.2, Nat.add_mul] at r9
      have hk : kinds kd kind b (j + 1) = kinds kd kind b j + if kd (b + j) = kind then 1 else 0 := rfl
      have hle := kinds_le kd kind b j
      have Hk := Lib.hid hk
      clear hcw hgj hk
      generalize kinds kd kind b j = c at *
      generalize kd (b + j) = q at *
      have HX := Lib.hid hx
      clear hx
      have hj0 : (0 : Int) ≤ j := by omega
      have hj1 : (j : Int) < E := by omega
      by_cases hq : q = kind
      · subst hq
        go_wp2
        go_roundw
        case rel => exact ⟨j + 1, by omega, by simp, by rw [Hk.out]; simp, HX.out.alloc _⟩
        case measure => simp [intOf]; omega
      · go_wp2
        go_roundw
        case rel => exact ⟨j + 1, by omega, by simp, by rw [Hk.out]; simp [hq], HX.out.alloc _⟩
        case measure => simp [intOf]; omega
    · obtain rfl : j = E := by omega
      go_wp2
      go_ret
      exact ⟨rfl, hx⟩

end Go.Proofs.Ytkpnmknkimlnaaa
