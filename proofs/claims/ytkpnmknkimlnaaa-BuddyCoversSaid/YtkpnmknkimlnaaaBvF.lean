/-
  Buddy: how much is left, and the greatest order.
-/
import Derived.Test.YtkpnmknkimlnaaaBvE
import Derived.Test.YtkpnmknkimlnaaaBrC
import Derived.Test.YtkpnmknkimlnaaaQuietR
namespace Go.Proofs.Ytkpnmknkimlnaaa
set_option linter.unusedVariables false
set_option linter.unusedSimpArgs false
open Go.RowKit BuT
set_option maxHeartbeats 4000000
set_option maxRecDepth 100000
set_option linter.unusedVariables false
set_option linter.unusedSimpArgs false

theorem bk_get {l : List Bk} {i : Nat} (hi : i < (bkVals l).length) (hi' : i < l.length) : (bkVals l)[i] = #[bkV l[i]] := by simp [bkVals]

theorem region_any_R {l₀ n id : Nat} {P : Program} {Q : Exit → Act → World → Prop} {a : Act} {w : World} {l : List Oper} (hm : P.follows .mixedOrders = true) (hn : noDefer l = true)
    (h : wpAnyIn Fence.wide n P .any l.toArray Q l.toArray.size (Array.replicate l.toArray.size false) a w.drew) : (Code.region id l.toArray true).wpIn (WR l₀) n P Q a w := by
  have hd : ∀ o, o ∈ l.toArray.toList → ∀ c, o.op ≠ .defer c := fun o ho c e => by
    unfold noDefer at hn
    rw [List.all_eq_true] at hn
    have := hn o (by simpa using ho)
    rw [e] at this; cases this
  exact wpIn_region_any hm (any_R hd _ _ _ _ h)

theorem most_c (w : World) (bp bl F n : Nat) (kd od : Nat → Nat) (hB : Bud w bp bl F n kd od) (ho : Ords (blks F kd od 1 n)) (hl : (blks (F : Int) kd od 1 n).length ≤ 1024) :
    Calls Try.prog 35 #[.pointer (some ⟨bp, 0, none⟩)] w fun e w' => e = .returned (.int .i64 (mostB (blks F kd od 1 n))) ∧ Ext [] w w' := by
  refine calls_of_callsIn 1000 ?_
  refine callsIn_of_wp_marks Try.func35 rfl trivial ?_ rfl
  simp only [Try.ntmps35, List.size_toArray, List.length_cons, List.length_nil, Nat.reduceAdd, Nat.reduceSub, Array.replicate_succ, Array.replicate_zero, List.push_toArray, List.append_toArray, List.nil_append, List.cons_append]
  gi_wp2_with (gi_at_call 63; refine (callsIn_of_calls (Bud.blocks_ _)).mono ?_; rintro e w' ⟨rfl, rfl⟩)
  have hbn := ((Blk.new w [.int .i64 (-1)] 3).alloc (.cells #[.pointer (some ⟨bp, 0, none⟩)] 58)).alloc (.cells #[.int .i64 1] 3)
  have hb1 := (Blk.new (w.alloc (Obj.cells #[Value.int IntKind.i64 (-1)] 3)) [.pointer (some ⟨bp, 0, none⟩)] 58).alloc (.cells #[.int .i64 1] 3)
  have hb2 := Blk.new ((w.alloc (Obj.cells #[Value.int IntKind.i64 (-1)] 3)).alloc (.cells #[.pointer (some ⟨bp, 0, none⟩)] 58)) [.int .i64 ((1 : Nat) : Int)] 3
  have hx0 : Ext [] w (((w.alloc (Obj.cells #[Value.int IntKind.i64 (-1)] 3)).alloc (.cells #[.pointer (some ⟨bp, 0, none⟩)] 58)).alloc (.cells #[.int .i64 1] 3)) := (((Ext.refl _ _).alloc _).alloc _).alloc _
  have hB1 := hB.ext hx0 (by simp) (by simp)
  have hit := blocks1 _ _ bp bl F n 1 kd od _ hb1 hb2 hB1
  simp only [World.size_alloc] at hit
  generalize hw1 : (((w.alloc (Obj.cells #[Value.int IntKind.i64 (-1)] 3)).alloc (.cells #[.pointer (some ⟨bp, 0, none⟩)] 58)).alloc (.cells #[.int .i64 1] 3)) = w1 at *
  have hs1 : w1.heap.size = w.heap.size + 3 := by rw [← hw1]; simp
  clear hw1 hb1 hb2
  have Hs1 := Lib.hid hs1
  clear hs1
  have HO := Lib.hid ho
  have HBD := Lib.hid (mostB_bd ho)
  have hbp : bp < w.heap.size := hB.head.lt
  have hbl : bl < w.heap.size := hB.tab.lt
  clear hB ho hB1
  generalize hLL : (blks (F : Int) kd od 1 n) = L at *
  have HLL := Lib.hid hLL
  clear hLL
  have hlen : (bkVals L).length = L.length := by simp [bkVals]
  have Hlen := Lib.hid hlen
  clear hlen
  refine wpIn_range (by omega) rfl (Go.Proofs.enters_of Try.func74 (by kernel_rfl) rfl) hit (by simp [bkVals]) [w.heap.size] (fun i _ W => Blk W w.heap.size [.int .i64 (mostB (L.take i))] 3) (fun _ _ _ _ => False)
    (blk_foot (by simp)) no_foot ?hM (Nat.le_refl _) ?hK (by simpa [leftB, mostB] using hbn) ?round ?done ?stop
  case hM => intro b hb; have := Hs1.out; simp at hb ⊢; omega
  case hK => intro b hb; have := Hs1.out; simp at hb ⊢; omega
  case stop => intro D c i X W _ _ _ h; exact h.elim
  case round =>
    intro l i hi X W hI hx hX hl' hlW
    have hiL : i < L.length := by have := Hlen.out; omega
    rw [bk_get hi hiL]
    have hbd := HBD.out i
    have hoo := HO.out L[i] (List.getElem_mem hiL)
    have hst := mostB_snoc (L.take i) L[i]
    rw [← take_snoc1 hiL] at hst
    have HST := Lib.hid hst
    clear hst hbn hit
    generalize L[i] = x at *
    obtain ⟨xf, xo⟩ := x
    simp only [bkV] at *
    have HI := Lib.hid hI
    clear hI
    generalize mostB (L.take i) = s at *
    unfold RoundX
    gi_wp2
    refine ⟨(Ext.refl _ _).alloc _, fun W₂ r hx2 hs2 hr => ?_⟩
    have Hs2 := Lib.hid hs2
    have Hr := Lib.hid hr
    clear hs2 hr
    have hne : w.heap.size ≠ l := by have := Hs1.out; omega
    have hWs : W.heap.size < (W.alloc (Obj.cells #[Value.int IntKind.i64 xf, Value.int IntKind.i64 xo] 76)).heap.size := by simp
    have hwW := hx.size
    have hlW2 : l ≠ W.heap.size := by omega
    have ha2 := (HI.out.alloc (Obj.cells #[Value.int IntKind.i64 xf, Value.int IntKind.i64 xo] 76)).ext hx2 (by simpa using hne)
    have hn2 := (Blk.new W [.int .i64 xf, .int .i64 xo] 76).ext hx2 (by simpa using hlW2.symm)
    have hc := ha2.cell 0
    have hf := ha2.frozen 0
    have hc1 := hn2.cell 1
    have HA2 := Lib.hid ha2
    clear ha2 hn2
    gi_wp2
    exact ⟨X, RoundEnd.of (N := [w.heap.size]) ((Ext.refl _ _).alloc _) hx2 Hr.out ((Ext.refl [w.heap.size] W₂).setCell _ _ (.inl (by simp))) (fun k hk => by simp at hk ⊢; subst hk; exact ⟨.inl rfl, hne⟩) (fun b hb => ⟨.inl hb, by have := (hX b hb).2.1; have := Hs2.out; simp [World.setCell] at *; omega⟩),
      by show Blk _ _ [.int .i64 (mostB (L.take (i + 1)))] _; rw [HST.out]; have := HA2.out.set 0 (.int .i64 (max s xo)); exact this⟩
  case done =>
    intro D X W hD hE hI hx hX
    have hlL : L.take (bkVals L).length = L := List.take_of_length_le (by have := Hlen.out; omega)
    rw [hlL] at hI
    have hc := hI.cell 0
    have HlL := Lib.hid hlL
    clear hlL hbn hit
    gi_wp2
    refine leaves_marks [D] _ (by simpa using hE) (by simp) (fun w' hx' hs' => ⟨_, results_tmp rfl _ _ _, by rw [HLL.out]; rfl, ?_⟩)
    refine (hx0.step hx (fun i hi => .inr (by simp at hi; omega))).step hx' (fun i hi => .inr ?_)
    have := Hs1.out; simp at hi; omega

theorem left_c (w : World) (bp bl F n : Nat) (kd od : Nat → Nat) (hB : Bud w bp bl F n kd od) (ho : Ords (blks F kd od 1 n)) (hl : (blks (F : Int) kd od 1 n).length ≤ 1024) :
    Calls Try.prog 32 #[.pointer (some ⟨bp, 0, none⟩)] w fun e w' => e = .returned (.int .i64 (leftB (blks F kd od 1 n))) ∧ Ext [] w w' := by
  refine calls_of_callsIn 1000 ?_
  refine callsIn_of_wp_marks Try.func32 rfl trivial ?_ rfl
  simp only [Try.ntmps32, List.size_toArray, List.length_cons, List.length_nil, Nat.reduceAdd, Nat.reduceSub, Array.replicate_succ, Array.replicate_zero, List.push_toArray, List.append_toArray, List.nil_append, List.cons_append]
  gi_wp2_with (gi_at_call 63; refine (callsIn_of_calls (Bud.blocks_ _)).mono ?_; rintro e w' ⟨rfl, rfl⟩)
  have hbn := ((Blk.new w [.int .i64 0] 3).alloc (.cells #[.pointer (some ⟨bp, 0, none⟩)] 58)).alloc (.cells #[.int .i64 1] 3)
  have hb1 := (Blk.new (w.alloc (Obj.cells #[Value.int IntKind.i64 0] 3)) [.pointer (some ⟨bp, 0, none⟩)] 58).alloc (.cells #[.int .i64 1] 3)
  have hb2 := Blk.new ((w.alloc (Obj.cells #[Value.int IntKind.i64 0] 3)).alloc (.cells #[.pointer (some ⟨bp, 0, none⟩)] 58)) [.int .i64 ((1 : Nat) : Int)] 3
  have hx0 : Ext [] w (((w.alloc (Obj.cells #[Value.int IntKind.i64 0] 3)).alloc (.cells #[.pointer (some ⟨bp, 0, none⟩)] 58)).alloc (.cells #[.int .i64 1] 3)) := (((Ext.refl _ _).alloc _).alloc _).alloc _
  have hB1 := hB.ext hx0 (by simp) (by simp)
  have hit := blocks1 _ _ bp bl F n 1 kd od _ hb1 hb2 hB1
  simp only [World.size_alloc] at hit
  generalize hw1 : (((w.alloc (Obj.cells #[Value.int IntKind.i64 (0)] 3)).alloc (.cells #[.pointer (some ⟨bp, 0, none⟩)] 58)).alloc (.cells #[.int .i64 1] 3)) = w1 at *
  have hs1 : w1.heap.size = w.heap.size + 3 := by rw [← hw1]; simp
  clear hw1 hb1 hb2
  have Hs1 := Lib.hid hs1
  clear hs1
  have HO := Lib.hid ho
  have HBD := Lib.hid (leftB_bd ho)
  have hbp : bp < w.heap.size := hB.head.lt
  have hbl : bl < w.heap.size := hB.tab.lt
  clear hB ho hB1
  generalize hLL : (blks (F : Int) kd od 1 n) = L at *
  have HLL := Lib.hid hLL
  clear hLL
  have hlen : (bkVals L).length = L.length := by simp [bkVals]
  have Hlen := Lib.hid hlen
  clear hlen
  refine wpIn_range (by omega) rfl (Go.Proofs.enters_of Try.func74 (by kernel_rfl) rfl) hit (by simp [bkVals]) [w.heap.size] (fun i _ W => Blk W w.heap.size [.int .i64 (leftB (L.take i))] 3) (fun _ _ _ _ => False)
    (blk_foot (by simp)) no_foot ?hM (Nat.le_refl _) ?hK (by simpa [leftB, mostB] using hbn) ?round ?done ?stop
  case hM => intro b hb; have := Hs1.out; simp at hb ⊢; omega
  case hK => intro b hb; have := Hs1.out; simp at hb ⊢; omega
  case stop => intro D c i X W _ _ _ h; exact h.elim
  case round =>
    intro l i hi X W hI hx hX hl' hlW
    have hiL : i < L.length := by have := Hlen.out; omega
    rw [bk_get hi hiL]
    have hbd := HBD.out i
    have hoo := HO.out L[i] (List.getElem_mem hiL)
    have hst := leftB_snoc (L.take i) L[i]
    rw [← take_snoc1 hiL] at hst
    have HST := Lib.hid hst
    clear hst hbn hit
    generalize L[i] = x at *
    obtain ⟨xf, xo⟩ := x
    simp only [bkV] at *
    have HI := Lib.hid hI
    clear hI
    obtain ⟨m, rfl⟩ := Int.eq_ofNat_of_zero_le hoo.1
    have hm9 : m ≤ 9 := by omega
    have hq := pow_le9 hm9
    have e : (2 : Int) ^ ((m : Int)).toNat = ((2 ^ m : Nat) : Int) := by simp
    rw [e] at HST
    clear e
    generalize leftB (L.take i) = s at *
    unfold RoundX
    gi_wp2
    refine ⟨(Ext.refl _ _).alloc _, fun W₂ r hx2 hs2 hr => ?_⟩
    have Hs2 := Lib.hid hs2
    have Hr := Lib.hid hr
    clear hs2 hr
    have hne : w.heap.size ≠ l := by have := Hs1.out; omega
    have hWs : W.heap.size < (W.alloc (Obj.cells #[Value.int IntKind.i64 xf, Value.int IntKind.i64 (m : Int)] 76)).heap.size := by simp
    have hwW := hx.size
    have hlW2 : l ≠ W.heap.size := by omega
    have ha2 := (HI.out.alloc (Obj.cells #[Value.int IntKind.i64 xf, Value.int IntKind.i64 (m : Int)] 76)).ext hx2 (by simpa using hne)
    have hn2 := (Blk.new W [.int .i64 xf, .int .i64 (m : Int)] 76).ext hx2 (by simpa using hlW2.symm)
    have hc := ha2.cell 0
    have hf := ha2.frozen 0
    have hc1 := hn2.cell 1
    have HA2 := Lib.hid ha2
    clear ha2 hn2
    have hp : (2 : Int) ^ m = ((2 ^ m : Nat) : Int) := by simp
    have hv : IntKind.i64.wrap (s + IntKind.i64.wrap (2 ^ m)) = s + ((2 ^ m : Nat) : Int) := by
      rw [hp]
      have h512 : ((2 ^ m : Nat) : Int) ≤ 512 := by exact_mod_cast hq
      have h0 : (0 : Int) ≤ ((2 ^ m : Nat) : Int) := Int.natCast_nonneg _
      have hb1 := hbd
      generalize ((2 ^ m : Nat) : Int) = z at *
      rw [IntWalk.i64_in z (by omega), IntWalk.i64_in (s + z) (by omega)]
    have HV := Lib.hid hv
    clear hv hp
    have hcd : W₂.drew.cell? ⟨w.heap.size, 0, none⟩ = some (.int .i64 s) := hc
    gi_wp2
    refine region_any_R (by kernel_rfl) (by rfl) ?_
    refine wpAnyIn_take (i := 1) (v := ?_) rfl rfl (by kernel_rfl) (by kernel_rfl) (by kernel_rfl) (fun _ _ _ h => h) ⟨Or.inl ⟨by rfl, ?_⟩, fun _ => rfl⟩ ?_
    rotate_left
    · (intro w; first | (go_simp; done) | (go_simp; with_reducible rfl))
    try simp only [Act.put, List.setIfInBounds_toArray, List.set_cons_zero, List.set_cons_succ]
    refine wpAnyIn_ready (rs := [0, 2]) (by kernel_rfl) (by simp) ?_
    refine AllReadyIn.cons rfl (fun K hK => ?_) (AllReadyIn.cons rfl (fun K hK => ?_) AllReadyIn.nil)
    · go_simp
      refine hK _ _ ?_
      clear hK K
      try simp only [Act.put, List.setIfInBounds_toArray, List.set_cons_zero, List.set_cons_succ]
      refine wpAnyIn_ready (rs := [2]) (by kernel_rfl) (by simp) ?_
      refine AllReadyIn.cons rfl (fun K hK => ?_) AllReadyIn.nil
      go_simp
      refine hK _ _ ?_
      clear hK K
      try simp only [Act.put, List.setIfInBounds_toArray, List.set_cons_zero, List.set_cons_succ]
      refine wpAnyIn_take (i := 3) (v := ?_) rfl rfl (by kernel_rfl) (by kernel_rfl) (by kernel_rfl) (fun _ _ _ h => h) ⟨Or.inl ⟨by rfl, ?_⟩, fun _ => rfl⟩ ?_
      rotate_left
      · (intro w; first | (go_simp; done) | (go_simp; with_reducible rfl))
      try simp only [Act.put, List.setIfInBounds_toArray, List.set_cons_zero, List.set_cons_succ]
      refine wpAnyIn_take (i := 4) (v := ?_) rfl rfl (by kernel_rfl) (by kernel_rfl) (by kernel_rfl) (fun _ _ _ h => h) ⟨Or.inl ⟨by rfl, ?_⟩, fun _ => rfl⟩ ?_
      rotate_left
      · (intro w; first | (go_simp; done) | (go_simp; with_reducible rfl))
      try simp only [Act.put, List.setIfInBounds_toArray, List.set_cons_zero, List.set_cons_succ]
      refine wpAnyIn_ready (rs := [5]) (by kernel_rfl) (by simp) ?_
      refine AllReadyIn.cons rfl (fun K hK => ?_) AllReadyIn.nil
      go_simp
      refine hK _ _ ?_
      clear hK K
      try simp only [Act.put, List.setIfInBounds_toArray, List.set_cons_zero, List.set_cons_succ]
      refine wpAnyIn_done (by kernel_rfl) ?_ _
      exact ⟨X, RoundEnd.of (N := [w.heap.size]) ((Ext.refl _ _).alloc _) hx2 Hr.out ((Ext.refl [w.heap.size] W₂).drew.setCell _ _ (.inl (by simp))) (fun k hk => by simp at hk ⊢; subst hk; exact ⟨.inl rfl, hne⟩) (fun b hb => ⟨.inl hb, by have := (hX b hb).2.1; have := Hs2.out; simp [World.setCell] at *; omega⟩),
        by show Blk _ _ [.int .i64 (leftB (L.take (i + 1)))] _; rw [HST.out, HV.out]; exact (HA2.out.ext (Ext.refl [] _).drew (by simp)).set 0 (.int .i64 (s + ((2 ^ m : Nat) : Int)))⟩
    · go_simp
      refine hK _ _ ?_
      clear hK K
      try simp only [Act.put, List.setIfInBounds_toArray, List.set_cons_zero, List.set_cons_succ]
      refine wpAnyIn_take (i := 3) (v := ?_) rfl rfl (by kernel_rfl) (by kernel_rfl) (by kernel_rfl) (fun _ _ _ h => h) ⟨Or.inl ⟨by rfl, ?_⟩, fun _ => rfl⟩ ?_
      rotate_left
      · (intro w; first | (go_simp; done) | (go_simp; with_reducible rfl))
      try simp only [Act.put, List.setIfInBounds_toArray, List.set_cons_zero, List.set_cons_succ]
      refine wpAnyIn_ready (rs := [0]) (by kernel_rfl) (by simp) ?_
      refine AllReadyIn.cons rfl (fun K hK => ?_) AllReadyIn.nil
      go_simp
      refine hK _ _ ?_
      clear hK K
      try simp only [Act.put, List.setIfInBounds_toArray, List.set_cons_zero, List.set_cons_succ]
      refine wpAnyIn_take (i := 4) (v := ?_) rfl rfl (by kernel_rfl) (by kernel_rfl) (by kernel_rfl) (fun _ _ _ h => h) ⟨Or.inl ⟨by rfl, ?_⟩, fun _ => rfl⟩ ?_
      rotate_left
      · (intro w; first | (go_simp; done) | (go_simp; with_reducible rfl))
      try simp only [Act.put, List.setIfInBounds_toArray, List.set_cons_zero, List.set_cons_succ]
      refine wpAnyIn_ready (rs := [5]) (by kernel_rfl) (by simp) ?_
      refine AllReadyIn.cons rfl (fun K hK => ?_) AllReadyIn.nil
      go_simp
      refine hK _ _ ?_
      clear hK K
      try simp only [Act.put, List.setIfInBounds_toArray, List.set_cons_zero, List.set_cons_succ]
      refine wpAnyIn_done (by kernel_rfl) ?_ _
      exact ⟨X, RoundEnd.of (N := [w.heap.size]) ((Ext.refl _ _).alloc _) hx2 Hr.out ((Ext.refl [w.heap.size] W₂).drew.setCell _ _ (.inl (by simp))) (fun k hk => by simp at hk ⊢; subst hk; exact ⟨.inl rfl, hne⟩) (fun b hb => ⟨.inl hb, by have := (hX b hb).2.1; have := Hs2.out; simp [World.setCell] at *; omega⟩),
        by show Blk _ _ [.int .i64 (leftB (L.take (i + 1)))] _; rw [HST.out, HV.out]; exact (HA2.out.ext (Ext.refl [] _).drew (by simp)).set 0 (.int .i64 (s + ((2 ^ m : Nat) : Int)))⟩
  case done =>
    intro D X W hD hE hI hx hX
    have hlL : L.take (bkVals L).length = L := List.take_of_length_le (by have := Hlen.out; omega)
    rw [hlL] at hI
    have hc := hI.cell 0
    have HlL := Lib.hid hlL
    clear hlL hbn hit
    gi_wp2
    refine leaves_marks [D] _ (by simpa using hE) (by simp) (fun w' hx' hs' => ⟨_, results_tmp rfl _ _ _, by rw [HLL.out]; rfl, ?_⟩)
    refine (hx0.step hx (fun i hi => .inr (by simp at hi; omega))).step hx' (fun i hi => .inr ?_)
    have := Hs1.out; simp at hi; omega

end Go.Proofs.Ytkpnmknkimlnaaa
