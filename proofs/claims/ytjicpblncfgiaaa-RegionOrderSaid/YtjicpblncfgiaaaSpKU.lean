/-
  Spans of values (basin/region.use): Covers, Meets, Find.
-/
import Derived.Test.YtjicpblncfgiaaaSpJU
namespace Go.Proofs.Ytjicpblncfgiaaa.SpU
open Go.RowKit SpT
set_option maxHeartbeats 2000000
set_option maxRecDepth 10000
set_option linter.unusedVariables false
set_option linter.unusedSimpArgs false
set_option linter.unusedSectionVars false

def gapsB (l : List Spn) (a b : Int) : List (Nat × Nat) := if mayB a b = true then gapsL a.toNat b.toNat (within a.toNat b.toNat l) else []
/-- 'is' tells this of a map, wherever the blocks Kq are as in w. -/
def IsIs (w : World) (p : Option Addr) (Kq : List Nat) (t : Bool) : Prop := ∀ w', (∀ q, q ∈ Kq → w'.heap[q]? = w.heap[q]?) → Calls Try.prog 66 #[.pointer p] w' fun e w'' => e = .returned (.bool t) ∧ w' = w''
theorem IsIs.ext {M : List Nat} {w w' : World} {p : Option Addr} {Kq : List Nat} {t : Bool} (h : IsIs w p Kq t) (hk : ∀ q, q ∈ Kq → q < w.heap.size) (hx : Ext M w w') (hM : ∀ b, b ∈ M → b ∉ Kq) : IsIs w' p Kq t :=
  fun w2 h2 => h w2 (fun q hq => (h2 q hq).trans (hx.block q (hk q hq) (fun hm => hM q hm hq)))
theorem IsIs.raw {w : World} {bm : Nat} {v : Value} {t : Bool} (h1 : Blk w bm [v, .bool t] 121) (Kq : List Nat) : IsIs w (some ⟨bm, 0, none⟩) (bm :: Kq) t := fun w' hk => is_c w' bm v t ((hk bm (by simp)).trans h1)
theorem IsIs.nil (w : World) (Kq : List Nat) : IsIs w none Kq false := fun w' _ => is_nil w'
/-- A map that was made: what it leans on. -/
theorem MapIs.made {w : World} {bm : Nat} {l : List Spn} (h : MapIs w bm l) (hl : l.length ≤ 4096) : ∃ Kq, AllIs w (some ⟨bm, 0, none⟩) Kq l ∧ IsIs w (some ⟨bm, 0, none⟩) Kq true := by
  obtain ⟨v, h1, h2⟩ := h
  exact ⟨_, AllIs.raw h1 h2 hl, IsIs.raw h1 _⟩

theorem gaps_it {w : World} {p : Option Addr} {Kq : List Nat} {L : List Spn} {t : Bool} (hA : AllIs w p Kq L) (hm : IsIs w p Kq t) (a b : Int) :
    ∃ Kp, (∀ q, q ∈ Kp → q ∈ Kq ∨ (w.heap.size ≤ q ∧ q < w.heap.size + 3)) ∧ Iter Try.prog 80 #[.pointer (some ⟨w.heap.size, 0, none⟩), .pointer (some ⟨w.heap.size + 1, 0, none⟩), .pointer (some ⟨w.heap.size + 2, 0, none⟩)] Kp (pairsG (if t = true then gapsB L a b else []))
      (((w.alloc (.cells #[.pointer p] 51)).alloc (.cells #[.int .i64 a] 3)).alloc (.cells #[.int .i64 b] 3)) := by
  have hx : Ext [] w (((w.alloc (.cells #[.pointer p] 51)).alloc (.cells #[.int .i64 a] 3)).alloc (.cells #[.int .i64 b] 3)) := (((Ext.refl _ _).alloc _).alloc _).alloc _
  have h0 := ((Blk.new w [.pointer p] 51).alloc (.cells #[.int .i64 a] 3)).alloc (.cells #[.int .i64 b] 3)
  have h1 := (Blk.new (w.alloc (.cells #[.pointer p] 51)) [.int .i64 a] 3).alloc (.cells #[.int .i64 b] 3)
  have h2 := Blk.new ((w.alloc (.cells #[.pointer p] 51)).alloc (.cells #[.int .i64 a] 3)) [.int .i64 b] 3
  simp only [World.size_alloc] at h1 h2
  have hA' := hA.ext hx (by simp)
  have hI' := hm.ext hA.lt hx (by simp)
  have hsz : (((w.alloc (.cells #[.pointer p] 51)).alloc (.cells #[.int .i64 a] 3)).alloc (.cells #[.int .i64 b] 3)).heap.size = w.heap.size + 3 := by simp
  have hfin : ∀ q, q ∈ w.heap.size :: (w.heap.size + 1) :: (w.heap.size + 2) :: Kq → q ∈ Kq ∨ (w.heap.size ≤ q ∧ q < w.heap.size + 3) := fun q hq => by
    simp at hq
    rcases hq with rfl | rfl | rfl | hq
    · right; omega
    · right; omega
    · right; omega
    · exact .inl hq
  cases t
  · exact ⟨_, hfin, gaps1_no _ _ _ p a b _ h0 h1 h2 Kq hA'.lt (.inl hI')⟩
  · unfold gapsB
    rw [if_pos rfl]
    cases hb : mayB a b
    · exact ⟨_, hfin, gaps1_no _ _ _ p a b _ h0 h1 h2 Kq hA'.lt (.inr ⟨hI', hb⟩)⟩
    · obtain ⟨x, y, rfl, rfl, hxy, hy⟩ := mayB_yes hb
      exact ⟨_, hfin, gaps1_yes _ _ _ x y hxy hy p Kq L _ hA' h0 h1 h2 hI'⟩

theorem pairsG_size (l : List (Nat × Nat)) : ∀ x, x ∈ pairsG l → x.size = 2 := by
  intro x hx
  unfold pairsG at hx
  obtain ⟨p, _, rfl⟩ := List.mem_map.1 hx
  rfl
theorem vals_size (l : List Spn) : ∀ x, x ∈ vals l → x.size = 1 := by
  intro x hx
  unfold vals at hx
  obtain ⟨p, _, rfl⟩ := List.mem_map.1 hx
  rfl
def OneI (B : Nat) (v : Value) (t : TypeId) (i : Nat) (X : List Nat) (W : World) : Prop := i = 0 ∧ Blk W B [v] t
def OneX (B : Nat) (v : Value) (t : TypeId) (c : Code) (i : Nat) (X : List Nat) (W : World) : Prop := c = .ret ∧ 1 ≤ i ∧ Blk W B [v] t

theorem meets_c (w : World) (p : Option Addr) (Kq : List Nat) (L : List Spn) (hA : AllIs w p Kq L) (a b : Int) :
    Calls Try.prog 61 #[.pointer p, .int .i64 a, .int .i64 b] w fun e w' => e = .returned (.bool (!(withinL L a b).isEmpty)) ∧ Ext [] w w' := by
  refine calls_of_callsIn 1000 ?_
  refine callsIn_of_wp_marks Try.func61 rfl trivial ?_ rfl
  simp only [Try.ntmps61, List.size_toArray, List.length_cons, List.length_nil, Nat.reduceAdd, Nat.reduceSub, Array.replicate_succ, Array.replicate_zero, List.push_toArray, List.append_toArray, List.nil_append, List.cons_append]
  gi_wp2_with (gi_at_call 65; refine CallsIn.mono (callsIn_of_calls (within_c _ _ _ _)) ?_; rintro e w' ⟨rfl, rfl⟩)
  have hb0 := Blk.new w [.bool false] 4
  have hx0 : Ext [] w (w.alloc (.cells #[.bool false] 4)) := (Ext.refl _ _).alloc _
  have hs0 : (w.alloc (.cells #[.bool false] 4)).heap.size = w.heap.size + 1 := by simp
  have hA0 := hA.ext hx0 (by simp)
  generalize hw0 : w.alloc (.cells #[.bool false] 4) = W0 at *
  clear hw0
  have hkl := hA.lt
  obtain ⟨Kp, hKp, hit⟩ := within_it hA0 a b
  have hx1 : Ext [] W0 (((W0.alloc (.cells #[.pointer p] 51)).alloc (.cells #[.int .i64 a] 3)).alloc (.cells #[.int .i64 b] 3)) := (((Ext.refl _ _).alloc _).alloc _).alloc _
  have hs1 : (((W0.alloc (.cells #[.pointer p] 51)).alloc (.cells #[.int .i64 a] 3)).alloc (.cells #[.int .i64 b] 3)).heap.size = W0.heap.size + 3 := by simp
  have hb1 := hb0.ext hx1 (by simp)
  simp only [hs0] at hit hKp hs1 ⊢
  generalize (((W0.alloc (.cells #[.pointer p] 51)).alloc (.cells #[.int .i64 a] 3)).alloc (.cells #[.int .i64 b] 3)) = W1 at *
  generalize hl : withinL L a b = LL at *
  have HL := Lib.hid hl
  have hvl : (vals LL).length = LL.length := by simp [vals]
  have HX := Lib.hid (hx0.trans hx1)
  clear hb0 hx0 hA0 hl hA
  refine wpIn_range (by omega) rfl (Go.Proofs.enters_of Try.func77 (by kernel_rfl) rfl) hit (vals_size _) [w.heap.size] (OneI w.heap.size (.bool false) 4) (OneX w.heap.size (.bool true) 4) ?fI ?fIx ?hM (Nat.le_refl _) ?hK ?h0 ?round ?done ?stop
  case fI => exact fun i X A B h hk => ⟨h.1, (hk _ (.inl (by simp)) h.2.lt).trans h.2⟩
  case fIx => exact fun c i X A B h hk => ⟨h.1, h.2.1, (hk _ (.inl (by simp)) h.2.2.lt).trans h.2.2⟩
  case hM =>
    intro q hq
    obtain rfl : q = w.heap.size := by simpa using hq
    refine ⟨by omega, fun h => ?_⟩
    rcases hKp _ h with h | h
    · have := hkl _ h; omega
    · omega
  case hK =>
    intro q hq
    rcases hKp _ hq with h | h
    · have := hkl _ h; exact ⟨by omega, rfl⟩
    · exact ⟨by omega, rfl⟩
  case h0 => exact ⟨rfl, hb1⟩
  case round =>
    rintro l' i hi X Wr ⟨hi0, hB⟩ hx hX hl' hlW
    have hiL : i < LL.length := by omega
    rw [show (vals LL)[i] = #[.agg (cells LL[i]).toArray] by simp [vals]]
    generalize LL[i] = x
    unfold RoundX cells
    gi_wp2
    refine ⟨Ext.refl _ _, fun W₂ r hx2 hs2 hr => ?_⟩
    have hB2 := hB.ext hx2 (by simp; omega)
    have k0 := hB2.cell 0
    have f0 := hB2.frozen 0
    have HR := Lib.hid hr
    have HB2 := Lib.hid hB2
    have HX2 := Lib.hid hx2
    clear hr hB2 hB hit
    gi_wp2
    refine ⟨X, RoundEnd.of (N := [w.heap.size]) (Ext.refl _ _) HX2.out HR.out ((Ext.refl _ _).setCell _ _ (.inl (by simp))) (fun k hk => ⟨.inl hk, by simp at hk; omega⟩) (fun q hq => ⟨.inl hq, by rw [size_setCell]; have := (hX q hq).2.1; have := HX2.out.size; omega⟩), rfl, by omega, HB2.out.set 0 _⟩
  case done =>
    rintro D X Wd hD hE ⟨hi0, hB⟩ hx hX
    have hLL : LL = [] := List.eq_nil_of_length_eq_zero (by omega)
    subst hLL
    have k0 := hB.cell 0
    have f0 := hB.frozen 0
    have HB := Lib.hid hB
    clear hB hit
    gi_wp2
    refine leaves_marks [D] _ (fun q hq => by
      obtain rfl : q = D := by simpa using hq
      exact (Below.heap_setCell _ _ _ _ (show q ≠ w.heap.size by omega)).trans hE) (by simp) (fun w' hx' hs' => ⟨_, ?_, rfl, ?_⟩)
    · have hc := ((HB.out.set 0 (.bool false)).ext hx' (by simp; omega)).cell 0
      rw [results_cell1 rfl]
      rw [HL.out]
      simp [go_sem, hc]
    · exact ((HX.out.step hx (by simp)).setCell _ _ (.inr (Nat.le_refl _))).step hx' (fun k hk => .inr (by simp at hk; omega))
  case stop =>
    rintro D c i X Wd hD hE hi ⟨rfl, h1, hB⟩ hx hX
    have hLL : LL.isEmpty = false := by cases LL with
      | nil => simp [vals] at hi; omega
      | cons _ _ => rfl
    have k0 := hB.cell 0
    have HB := Lib.hid hB
    clear hB hit
    gi_wp2
    refine leaves_marks [D] _ (by simpa using hE) (by simp) (fun w' hx' hs' => ⟨_, ?_, rfl, ?_⟩)
    · have hc := (HB.out.ext hx' (by simp; omega)).cell 0
      rw [results_cell1 rfl]
      rw [HL.out]
      simp [go_sem, hc, hLL]
    · exact (HX.out.step hx (by simp)).step hx' (fun k hk => .inr (by simp at hk; omega))

theorem covers_yes (w : World) (p : Option Addr) (Kq : List Nat) (L : List Spn) (hA : AllIs w p Kq L) (hI : IsIs w p Kq true) (a b : Int) (hm : mayB a b = true) :
    Calls Try.prog 64 #[.pointer p, .int .i64 a, .int .i64 b] w fun e w' => e = .returned (.bool (gapsB L a b).isEmpty) ∧ Ext [] w w' := by
  refine calls_of_callsIn 1000 ?_
  refine callsIn_of_wp_marks Try.func64 rfl trivial ?_ rfl
  simp only [Try.ntmps64, List.size_toArray, List.length_cons, List.length_nil, Nat.reduceAdd, Nat.reduceSub, Array.replicate_succ, Array.replicate_zero, List.push_toArray, List.append_toArray, List.nil_append, List.cons_append]
  have CI := Lib.hid (hI.ext hA.lt ((Ext.refl [] w).alloc (.cells #[.bool false] 4)) (by simp) _ (fun _ _ => rfl))
  have CM := Lib.hid (fun w => may_c a b w)
  rw [hm] at CM
  clear hm
  gi_wp2_with (first
    | (gi_at_call 66; refine CallsIn.mono (callsIn_of_calls (CI.out)) ?_; rintro e w' ⟨rfl, rfl⟩)
    | (gi_at_call 75; refine CallsIn.mono (callsIn_of_calls (CM.out _)) ?_; rintro e w' ⟨rfl, rfl⟩)
    | (gi_at_call 76; refine CallsIn.mono (callsIn_of_calls (gaps_c _ _ _ _)) ?_; rintro e w' ⟨rfl, rfl⟩))
  have hb0 := Blk.new w [.bool false] 4
  have hx0 : Ext [] w (w.alloc (.cells #[.bool false] 4)) := (Ext.refl _ _).alloc _
  have hs0 : (w.alloc (.cells #[.bool false] 4)).heap.size = w.heap.size + 1 := by simp
  have hA0 := hA.ext hx0 (by simp)
  have hI0 := hI.ext hA.lt hx0 (by simp)
  clear CI CM
  generalize hw0 : w.alloc (.cells #[.bool false] 4) = W0 at *
  clear hw0
  have hkl := hA.lt
  obtain ⟨Kp, hKp, hit⟩ := gaps_it hA0 hI0 a b
  have hx1 : Ext [] W0 (((W0.alloc (.cells #[.pointer p] 51)).alloc (.cells #[.int .i64 a] 3)).alloc (.cells #[.int .i64 b] 3)) := (((Ext.refl _ _).alloc _).alloc _).alloc _
  have hs1 : (((W0.alloc (.cells #[.pointer p] 51)).alloc (.cells #[.int .i64 a] 3)).alloc (.cells #[.int .i64 b] 3)).heap.size = W0.heap.size + 3 := by simp
  have hb1 := hb0.ext hx1 (by simp)
  simp only [hs0] at hit hKp hs1 ⊢
  generalize (((W0.alloc (.cells #[.pointer p] 51)).alloc (.cells #[.int .i64 a] 3)).alloc (.cells #[.int .i64 b] 3)) = W1 at *
  simp only [if_true] at hit
  generalize hl : gapsB L a b = LL at *
  have HL := Lib.hid hl
  have hvl : (pairsG LL).length = LL.length := by simp [pairsG]
  have HX := Lib.hid (hx0.trans hx1)
  clear hb0 hx0 hA0 hI0 hl hA hI
  refine wpIn_range (by omega) rfl (Go.Proofs.enters_of Try.func80 (by kernel_rfl) rfl) hit (pairsG_size _) [w.heap.size] (OneI w.heap.size (.bool false) 4) (OneX w.heap.size (.bool false) 4) ?fI ?fIx ?hM (Nat.le_refl _) ?hK ?h0 ?round ?done ?stop
  case fI => exact fun i X A B h hk => ⟨h.1, (hk _ (.inl (by simp)) h.2.lt).trans h.2⟩
  case fIx => exact fun c i X A B h hk => ⟨h.1, h.2.1, (hk _ (.inl (by simp)) h.2.2.lt).trans h.2.2⟩
  case hM =>
    intro q hq
    obtain rfl : q = w.heap.size := by simpa using hq
    refine ⟨by omega, fun h => ?_⟩
    rcases hKp _ h with h | h
    · have := hkl _ h; omega
    · omega
  case hK =>
    intro q hq
    rcases hKp _ hq with h | h
    · have := hkl _ h; exact ⟨by omega, rfl⟩
    · exact ⟨by omega, rfl⟩
  case h0 => exact ⟨rfl, hb1⟩
  case round =>
    rintro l' i hi X Wr ⟨hi0, hB⟩ hx hX hl' hlW
    have hiL : i < LL.length := by omega
    rw [show (pairsG LL)[i] = #[.int .i64 (LL[i].1 : Int), .int .i64 (LL[i].2 : Int)] by simp [pairsG]]
    generalize LL[i] = x
    unfold RoundX
    gi_wp2
    refine ⟨Ext.refl _ _, fun W₂ r hx2 hs2 hr => ?_⟩
    have hB2 := hB.ext hx2 (by simp; omega)
    have k0 := hB2.cell 0
    have f0 := hB2.frozen 0
    have HR := Lib.hid hr
    have HB2 := Lib.hid hB2
    have HX2 := Lib.hid hx2
    clear hr hB2 hB hit
    gi_wp2
    refine ⟨X, RoundEnd.of (N := [w.heap.size]) (Ext.refl _ _) HX2.out HR.out ((Ext.refl _ _).setCell _ _ (.inl (by simp))) (fun k hk => ⟨.inl hk, by simp at hk; omega⟩) (fun q hq => ⟨.inl hq, by rw [size_setCell]; have := (hX q hq).2.1; have := HX2.out.size; omega⟩), rfl, by omega, HB2.out.set 0 _⟩
  case done =>
    rintro D X Wd hD hE ⟨hi0, hB⟩ hx hX
    have hLL : LL = [] := List.eq_nil_of_length_eq_zero (by omega)
    subst hLL
    have k0 := hB.cell 0
    have f0 := hB.frozen 0
    have HB := Lib.hid hB
    clear hB hit
    gi_wp2
    refine leaves_marks [D] _ (fun q hq => by
      obtain rfl : q = D := by simpa using hq
      exact (Below.heap_setCell _ _ _ _ (show q ≠ w.heap.size by omega)).trans hE) (by simp) (fun w' hx' hs' => ⟨_, ?_, rfl, ?_⟩)
    · have hc := ((HB.out.set 0 (.bool true)).ext hx' (by simp; omega)).cell 0
      rw [results_cell1 rfl]
      rw [HL.out]
      simp [go_sem, hc]
    · exact ((HX.out.step hx (by simp)).setCell _ _ (.inr (Nat.le_refl _))).step hx' (fun k hk => .inr (by simp at hk; omega))
  case stop =>
    rintro D c i X Wd hD hE hi ⟨rfl, h1, hB⟩ hx hX
    have hLL : LL.isEmpty = false := by cases LL with
      | nil => simp [pairsG] at hi; omega
      | cons _ _ => rfl
    have k0 := hB.cell 0
    have HB := Lib.hid hB
    clear hB hit
    gi_wp2
    refine leaves_marks [D] _ (by simpa using hE) (by simp) (fun w' hx' hs' => ⟨_, ?_, rfl, ?_⟩)
    · have hc := (HB.out.ext hx' (by simp; omega)).cell 0
      rw [results_cell1 rfl]
      rw [HL.out]
      simp [go_sem, hc, hLL]
    · exact (HX.out.step hx (by simp)).step hx' (fun k hk => .inr (by simp at hk; omega))

theorem covers_no (w : World) (p : Option Addr) (Kq : List Nat) (hk : ∀ q, q ∈ Kq → q < w.heap.size) (a b : Int) (hm : IsIs w p Kq false ∨ (IsIs w p Kq true ∧ mayB a b = false)) :
    Calls Try.prog 64 #[.pointer p, .int .i64 a, .int .i64 b] w fun e w' => e = .returned (.bool false) ∧ Ext [] w w' := by
  refine calls_of_callsIn 1000 ?_
  refine callsIn_of_wp_marks Try.func64 rfl trivial ?_ rfl
  simp only [Try.ntmps64, List.size_toArray, List.length_cons, List.length_nil, Nat.reduceAdd, Nat.reduceSub, Array.replicate_succ, Array.replicate_zero, List.push_toArray, List.append_toArray, List.nil_append, List.cons_append]
  have hb0 := Blk.new w [.bool false] 4
  have HB := Lib.hid hb0
  clear hb0
  have CM := Lib.hid (fun w => may_c a b w)
  rcases hm with hI | ⟨hI, hm⟩
  · have CI := Lib.hid (hI.ext hk ((Ext.refl [] w).alloc (.cells #[.bool false] 4)) (by simp) _ (fun _ _ => rfl))
    clear hI CM hk
    gi_wp2_with (gi_at_call 66; refine CallsIn.mono (callsIn_of_calls (CI.out)) ?_; rintro e w' ⟨rfl, rfl⟩)
    refine leaves_marks [] _ (by simp) (by simp) (fun w' hx' hs' => ⟨_, ?_, rfl, ?_⟩)
    · have hc := (HB.out.ext hx' (by simp)).cell 0
      rw [results_cell1 rfl]
      simp [go_sem, hc]
    · exact ((Ext.refl _ _).alloc _).trans hx'
  · have CI := Lib.hid (hI.ext hk ((Ext.refl [] w).alloc (.cells #[.bool false] 4)) (by simp) _ (fun _ _ => rfl))
    rw [hm] at CM
    clear hI hk hm
    gi_wp2_with (first
      | (gi_at_call 66; refine CallsIn.mono (callsIn_of_calls (CI.out)) ?_; rintro e w' ⟨rfl, rfl⟩)
      | (gi_at_call 75; refine CallsIn.mono (callsIn_of_calls (CM.out _)) ?_; rintro e w' ⟨rfl, rfl⟩))
    refine leaves_marks [] _ (by simp) (by simp) (fun w' hx' hs' => ⟨_, ?_, rfl, ?_⟩)
    · have hc := (HB.out.ext hx' (by simp)).cell 0
      rw [results_cell1 rfl]
      simp [go_sem, hc]
    · exact ((Ext.refl _ _).alloc _).trans hx'

end Go.Proofs.Ytjicpblncfgiaaa.SpU
