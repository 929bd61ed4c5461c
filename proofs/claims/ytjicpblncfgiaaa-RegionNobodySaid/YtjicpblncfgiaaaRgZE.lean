/-
  Region's laws: RegionNobody, walked.
-/
import Derived.Test.YtjicpblncfgiaaaRgX
namespace Go.Proofs.Ytjicpblncfgiaaa
set_option linter.unusedVariables false
set_option linter.unusedSimpArgs false
open Go.RowKit RgT SpT
set_option maxHeartbeats 4000000
set_option maxRecDepth 100000
set_option linter.unusedVariables false
set_option linter.unusedSimpArgs false

/-- A space that nobody made. -/
def NoS (w : World) (m : Option Addr) : Prop := m = none ∨ ∃ b, m = some ⟨b, 0, none⟩ ∧ Blk w b [.int .i64 0, .pointer none] 53
theorem NoS.ext0 {w w' : World} {m : Option Addr} (h : NoS w m) (hx : Ext [] w w') : NoS w' m := by
  rcases h with h | ⟨b, h1, h2⟩
  · exact .inl h
  · exact .inr ⟨b, h1, h2.ext hx (by simp)⟩
section
variable {w : World} {m : Option Addr} (h : NoS w m)
include h
theorem NoS.is : Calls Try.prog 40 #[.pointer m] w fun e w' => e = .returned (.bool false) ∧ w = w' := by
  rcases h with rfl | ⟨b, rfl, hb⟩
  · go_enter Try.func40, Try.ntmps40
    go_wp2
    go_ret
    exact ⟨rfl, rfl⟩
  · have c1 := hb.cell 1
    clear hb
    go_enter Try.func40, Try.ntmps40
    go_wp2
    go_ret
    exact ⟨rfl, rfl⟩
theorem NoS.find (page : Int) : Calls Try.prog 21 #[.pointer m, .int .i64 page] w fun e w' => e = .returned (.tuple #[.agg #[.int .i64 0, .int .i64 0, .int .i64 0, .int .i64 0, .int .i64 0], .bool false]) ∧ Ext [] w w' := by
  have hx0 : Ext [] w (w.alloc (.cells #[.int .i64 0, .int .i64 0, .int .i64 0, .int .i64 0, .int .i64 0] 37)) := (Ext.refl _ _).alloc _
  have CI := Lib.hid ((h.ext0 hx0).is)
  have HX0 := Lib.hid hx0
  have R2 := Blk.new w [.int .i64 0, .int .i64 0, .int .i64 0, .int .i64 0, .int .i64 0] 37
  have z0 := R2.cell 0
  have z1 := R2.cell 1
  have z2 := R2.cell 2
  have z3 := R2.cell 3
  have z4 := R2.cell 4
  clear h hx0 R2
  go_enter Try.func21, Try.ntmps21
  go_wp2_with (go_at_call 40; refine (CI.out).mono ?_; rintro e w1 ⟨rfl, rfl⟩)
  (try simp only [Exit.inBlock, Exit.then])
  refine bodyPost_ret (?_ : (results _ _).run _ _ = .ok (.tuple #[.agg #[.int .i64 0, .int .i64 0, .int .i64 0, .int .i64 0, .int .i64 0], .bool false]) _) rfl ?_
  · rw [results_c1t rfl]
    simp [go_sem, z0, z1, z2, z3, z4]
  exact ⟨rfl, HX0.out⟩
theorem NoS.len : Calls Try.prog 18 #[.pointer m] w fun e w' => e = .returned (.int .i64 0) ∧ w = w' := by
  have CI := Lib.hid h.is
  clear h
  go_enter Try.func18, Try.ntmps18
  go_wp2_with (go_at_call 40; refine (CI.out).mono ?_; rintro e w1 ⟨rfl, rfl⟩)
  go_ret
  exact ⟨rfl, rfl⟩
theorem NoS.copy : Calls Try.prog 23 #[.pointer m] w fun e w' => e = .returned (.pointer none) ∧ w = w' := by
  have CI := Lib.hid h.is
  clear h
  go_enter Try.func23, Try.ntmps23
  go_wp2_with (go_at_call 40; refine (CI.out).mono ?_; rintro e w1 ⟨rfl, rfl⟩)
  go_ret
  exact ⟨rfl, rfl⟩
theorem NoS.check (k pg n pm pk pn ad by_ : Int) : Calls Try.prog 24 #[.pointer m, .agg #[.int .i64 k, .int .i64 pg, .int .i64 n, .int .i64 pm, .int .i64 pk, .int .i64 pn, .int .i64 ad, .int .i64 by_]] w fun e w' => e = .returned (.int .i64 1) ∧ Ext [] w w' := by
  have hx0 : Ext [] w (w.alloc (.cells #[.int .i64 k, .int .i64 pg, .int .i64 n, .int .i64 pm, .int .i64 pk, .int .i64 pn, .int .i64 ad, .int .i64 by_] 39)) := (Ext.refl _ _).alloc _
  have CI := Lib.hid ((h.ext0 hx0).is)
  have HX0 := Lib.hid hx0
  clear h hx0
  go_enter Try.func24, Try.ntmps24
  go_wp2_with (go_at_call 40; refine (CI.out).mono ?_; rintro e w1 ⟨rfl, rfl⟩)
  go_ret
  exact ⟨rfl, HX0.out⟩
theorem NoS.apply (k pg n pm pk pn ad by_ : Int) : Calls Try.prog 20 #[.pointer m, .agg #[.int .i64 k, .int .i64 pg, .int .i64 n, .int .i64 pm, .int .i64 pk, .int .i64 pn, .int .i64 ad, .int .i64 by_]] w fun e w' => e = .returned (.agg #[.int .i64 1, .int .i64 0]) ∧ Ext [] w w' := by
  have hxA : Ext [] w ((w.alloc (.cells #[.int .i64 k, .int .i64 pg, .int .i64 n, .int .i64 pm, .int .i64 pk, .int .i64 pn, .int .i64 ad, .int .i64 by_] 39)).alloc (.cells #[.int .i64 0, .int .i64 0] 42)) := ((Ext.refl _ _).alloc _).alloc _
  have BC := (Blk.new w [.int .i64 k, .int .i64 pg, .int .i64 n, .int .i64 pm, .int .i64 pk, .int .i64 pn, .int .i64 ad, .int .i64 by_] 39).alloc (.cells #[.int .i64 0, .int .i64 0] 42)
  have BR := Blk.new (w.alloc (.cells #[.int .i64 k, .int .i64 pg, .int .i64 n, .int .i64 pm, .int .i64 pk, .int .i64 pn, .int .i64 ad, .int .i64 by_] 39)) [.int .i64 0, .int .i64 0] 42
  rw [World.size_alloc] at BR
  have c0 := BC.cell 0
  have c1 := BC.cell 1
  have c2 := BC.cell 2
  have c3 := BC.cell 3
  have c4 := BC.cell 4
  have c5 := BC.cell 5
  have c6 := BC.cell 6
  have c7 := BC.cell 7
  have CC := Lib.hid (NoS.check (h.ext0 hxA) k pg n pm pk pn ad by_)
  have HBR := Lib.hid BR
  have HXA := Lib.hid hxA
  clear h hxA BC BR
  go_enter Try.func20, Try.ntmps20
  go_wp2_with (go_at_call 24; refine (CC.out).mono ?_; rintro e w1 ⟨rfl, hx⟩; have HX1 := Lib.hid hx; have HBR1 := Lib.hid (HBR.out.ext hx (by simp)); clear hx c0 c1 c2 c3 c4 c5 c6 c7; have r0 := HBR1.out.cell 0; have r1 := HBR1.out.cell 1; have f0 := HBR1.out.frozen 0; have f1 := HBR1.out.frozen 1)
  have F := (HBR1.out.set 0 (.int .i64 1)).set 1 (.int .i64 0)
  have t0 := F.cell 0
  have t1 := F.cell 1
  simp only [List.set_cons_zero, List.set_cons_succ, List.getElem?_cons_zero, List.getElem?_cons_succ] at t0 t1
  (try simp only [Exit.inBlock, Exit.then])
  refine bodyPost_ret (?_ : (results _ _).run _ _ = .ok (.agg #[.int .i64 1, .int .i64 0]) _) rfl ?_
  · rw [results_cell1 rfl]
    simp [go_sem, t0, t1]
  exact ⟨rfl, ((HXA.out.trans HX1.out).setCell _ _ (.inr (by simp))).setCell _ _ (.inr (by simp))⟩
end
theorem nall1 (Bs : Nat) (m : Option Addr) (w0 : World) (Kq : List Nat) (h0 : Blk w0 Bs [.pointer m] 23) (h : ∀ w', (∀ q, q ∈ Kq → w'.heap[q]? = w0.heap[q]?) → w0.heap.size ≤ w'.heap.size → NoS w' m) :
    Iter Try.prog 59 #[.pointer (some ⟨Bs, 0, none⟩)] (Bs :: Kq) (SpU.vals []) w0 := by
  intro n l M J Jx W hn hs hK hM fJ fJx hY hj0
  refine callsIn_wide.2 ((callsIn_wide (n := 1000)).1 ?_)
  refine callsIn_of_wp_marks Try.func59 rfl trivial ?_ rfl
  simp only [Try.ntmps59, List.size_toArray, List.length_cons, List.length_nil, Nat.reduceAdd, Nat.reduceSub, Array.replicate_succ, Array.replicate_zero, List.push_toArray, List.append_toArray, List.nil_append, List.cons_append]
  have hx1 : Ext [] W (W.alloc (.cells #[.func (.yield l) #[] #[]] 115)) := (Ext.refl _ _).alloc _
  have hit0 := (It.refl M W).step (D := []) hx1 (by simp)
  have c0 := (hit0.blk hK hM (by simp) h0).cell 0
  have hns := h (W.alloc (.cells #[.func (.yield l) #[] #[]] 115)) (fun q hq => by
    have hm : q ∈ Bs :: Kq := by simp [hq]
    rw [hx1.block q (by have := (hK q hm).1; omega) (by simp)]; exact (hK q hm).2) (by have := hx1.size; omega)
  have CI := Lib.hid hns.is
  have HX1 := Lib.hid hx1
  have HJ := Lib.hid (fJ 0 [] W (W.alloc (.cells #[.func (.yield l) #[] #[]] 115)) hj0 (fun b _ hb => hx1.block b hb (by simp)))
  clear hK hM hY h h0 hns hx1 hit0
  gi_wp2_with (gi_at_call 40; refine CallsIn.mono (callsIn_of_calls (CI.out)) ?_; rintro e w' ⟨rfl, rfl⟩)
  refine leaves_marks [] _ (by simp) (by simp) (fun w' hx' hs' => ⟨_, results_none rfl _ _ _, ⟨_, rfl⟩, ?_, [], by simp, .inl ?_⟩)
  · exact (HX1.out.mono (by simp)).trans (hx'.mono (by simp))
  · exact fJ 0 [] _ w' HJ.out (fun q hq hlq => hx'.block q hlq (by simp))
theorem NoS.regions {w : World} {m : Option Addr} (h : NoS w m) : Calls Try.prog 16 #[.pointer m] w (GNew w []) := by
  have hb := Blk.new (w.alloc (.cells #[.slice none 0 0] 28)) [.pointer m] 23
  rw [World.size_alloc] at hb
  have hx0 : Ext [] w ((w.alloc (.cells #[.slice none 0 0] 28)).alloc (.cells #[.pointer m] 23)) := ((Ext.refl _ _).alloc _).alloc _
  rcases h with rfl | ⟨b, rfl, h2⟩
  · exact regions_gen w none [] (by simp) [] (by simp) (nall1 _ none _ [] hb (fun w' _ _ => .inl rfl))
  · exact regions_gen w (some ⟨b, 0, none⟩) [] (by simp) [b] (fun q hq => by rw [List.mem_singleton.1 hq]; exact h2.lt) (nall1 _ _ _ [b] hb (fun w' hk _ => .inr ⟨b, rfl, (hk b (by simp)).trans (h2.ext hx0 (by simp))⟩))
theorem neRes (w : World) : (binOp .neq 42 (.agg #[.int .i64 1, .int .i64 0]) (.agg #[.int .i64 1, .int .i64 0])).run Try.prog w = .ok (.bool false) w := by
  go_simp

theorem regionNobody_c (k pg n pm pk pn ad by_ : Int) (w : World) : Calls Try.prog 9 #[.agg #[.int .i64 k, .int .i64 pg, .int .i64 n, .int .i64 pm, .int .i64 pk, .int .i64 pn, .int .i64 ad, .int .i64 by_]] w fun e w' => e = .returned (.bool true) ∧ Ext [] w w' := by
  have CW := Lib.hid (fun w => awake_c w)
  have HB0 := Lib.hid (Blk.new w [.int .i64 k, .int .i64 pg, .int .i64 n, .int .i64 pm, .int .i64 pk, .int .i64 pn, .int .i64 ad, .int .i64 by_] 39)
  have HX0 := Lib.hid (show Ext [] w (w.alloc (.cells #[.int .i64 k, .int .i64 pg, .int .i64 n, .int .i64 pm, .int .i64 pk, .int .i64 pn, .int .i64 ad, .int .i64 by_] 39)) from (Ext.refl _ _).alloc _)
  go_enter Try.func9, Try.ntmps9
  go_wp2
  generalize (w.alloc (.cells #[.int .i64 k, .int .i64 pg, .int .i64 n, .int .i64 pm, .int .i64 pk, .int .i64 pn, .int .i64 ad, .int .i64 by_] 39)) = w0 at *
  go_loopw [3] (fun i wr => ∃ j : Nat, j ≤ 2 ∧ i = .int .i64 j ∧ Ext [] w0 wr) (fun i _ => 2 - (intOf i).toNat)
  case atStart => exact ⟨0, by omega, rfl, Ext.refl _ _⟩
  case round =>
    obtain ⟨j, hj, rfl, hx⟩ := hrel
    have HXr := Lib.hid hx
    rcases (show j = 0 ∨ j = 1 ∨ j = 2 by omega) with rfl | rfl | rfl
    · have hB := HB0.out.ext hx (by simp)
      have c1 := hB.cell 1
      have HB := Lib.hid hB
      have HM := Lib.hid (fun w' => (show NoS w' none from .inl rfl))
      have hne := neRes
      clear hx hB hj
      go_wp2_with (first
        | (go_at_call 21; refine (NoS.find (HM.out _) _).mono ?_; rintro e w2 ⟨rfl, hx⟩; have HX2 := Lib.hid (HXr.out.trans (hx.alloc (.cells #[.int .i64 0, .int .i64 0, .int .i64 0, .int .i64 0, .int .i64 0] 37))); have hb := (HB.out.ext hx (by simp)).alloc (.cells #[.int .i64 0, .int .i64 0, .int .i64 0, .int .i64 0, .int .i64 0] 37); clear c1; have c0 := hb.cell 0; have c1 := hb.cell 1; have c2 := hb.cell 2; have c3 := hb.cell 3; have c4 := hb.cell 4; have c5 := hb.cell 5; have c6 := hb.cell 6; have c7 := hb.cell 7; have HB2 := Lib.hid hb; clear hx hb)
        | (go_at_call 24; refine (NoS.check (HM.out _) k pg n pm pk pn ad by_).mono ?_; rintro e w3 ⟨rfl, hx⟩; have HX3 := Lib.hid (HX2.out.trans hx); have hb := HB2.out.ext hx (by simp); clear c0 c1 c2 c3 c4 c5 c6 c7; have c0 := hb.cell 0; have c1 := hb.cell 1; have c2 := hb.cell 2; have c3 := hb.cell 3; have c4 := hb.cell 4; have c5 := hb.cell 5; have c6 := hb.cell 6; have c7 := hb.cell 7; clear hx hb)
        | (go_at_call 20; refine (NoS.apply (HM.out _) k pg n pm pk pn ad by_).mono ?_; rintro e w4 ⟨rfl, hx⟩; have HX4 := Lib.hid (HX3.out.trans hx); clear hx c0 c1 c2 c3 c4 c5 c6 c7)
        | (go_at_call 18; refine (NoS.len (HM.out _)).mono ?_; rintro e w5 ⟨rfl, rfl⟩)
        | (go_at_call 16; refine (NoS.regions (HM.out _)).mono ?_; rintro e w6 ⟨v6, rfl, hr, hx⟩; obtain ⟨a6, d6, rfl, _, _⟩ := ownsRow_form hr; have HX6 := Lib.hid (HX4.out.trans hx); clear hx hr)
        | (go_at_call 23; refine (NoS.copy (HM.out _)).mono ?_; rintro e w7 ⟨rfl, rfl⟩))
      go_roundw
      case rel => exact ⟨1, by omega, rfl, HX6.out⟩
      case measure => simp [intOf]
    · have hx1 : Ext [] w0 (wr.alloc (.cells #[.int .i64 0, .pointer none] 53)) := hx.alloc _
      have hB := HB0.out.ext hx1 (by simp)
      have c1 := hB.cell 1
      have HB := Lib.hid hB
      have HX1 := Lib.hid hx1
      have HM := Lib.hid (fun w' (h : Ext [] (wr.alloc (.cells #[.int .i64 0, .pointer none] 53)) w') => (show NoS w' (some ⟨wr.heap.size, 0, none⟩) from .inr ⟨_, rfl, (Blk.new wr [.int .i64 0, .pointer none] 53).ext h (by simp)⟩))
      have HM1 := Lib.hid (HM.out _ (Ext.refl _ _))
      have HY1 := Lib.hid (Ext.refl [] (wr.alloc (.cells #[.int .i64 0, .pointer none] 53)))
      have hne := neRes
      clear hx hB hj hx1
      go_wp2_with (first
        | (go_at_call 21; refine (NoS.find HM1.out _).mono ?_; rintro e w2 ⟨rfl, hx⟩; have HY2 := Lib.hid (HY1.out.trans (hx.alloc (.cells #[.int .i64 0, .int .i64 0, .int .i64 0, .int .i64 0, .int .i64 0] 37))); have hb := (HB.out.ext hx (by simp)).alloc (.cells #[.int .i64 0, .int .i64 0, .int .i64 0, .int .i64 0, .int .i64 0] 37); clear c1; have c0 := hb.cell 0; have c1 := hb.cell 1; have c2 := hb.cell 2; have c3 := hb.cell 3; have c4 := hb.cell 4; have c5 := hb.cell 5; have c6 := hb.cell 6; have c7 := hb.cell 7; have HB2 := Lib.hid hb; clear hx hb)
        | (go_at_call 24; refine (NoS.check (HM.out _ HY2.out) k pg n pm pk pn ad by_).mono ?_; rintro e w3 ⟨rfl, hx⟩; have HY3 := Lib.hid (HY2.out.trans hx); have hb := HB2.out.ext hx (by simp); clear c0 c1 c2 c3 c4 c5 c6 c7; have c0 := hb.cell 0; have c1 := hb.cell 1; have c2 := hb.cell 2; have c3 := hb.cell 3; have c4 := hb.cell 4; have c5 := hb.cell 5; have c6 := hb.cell 6; have c7 := hb.cell 7; clear hx hb)
        | (go_at_call 20; refine (NoS.apply (HM.out _ HY3.out) k pg n pm pk pn ad by_).mono ?_; rintro e w4 ⟨rfl, hx⟩; have HY4 := Lib.hid (HY3.out.trans hx); clear hx c0 c1 c2 c3 c4 c5 c6 c7)
        | (go_at_call 18; refine (NoS.len (HM.out _ HY4.out)).mono ?_; rintro e w5 ⟨rfl, rfl⟩)
        | (go_at_call 16; refine (NoS.regions (HM.out _ HY4.out)).mono ?_; rintro e w6 ⟨v6, rfl, hr, hx⟩; obtain ⟨a6, d6, rfl, _, _⟩ := ownsRow_form hr; have HY6 := Lib.hid (HY4.out.trans hx); clear hx hr)
        | (go_at_call 23; refine (NoS.copy (HM.out _ HY6.out)).mono ?_; rintro e w7 ⟨rfl, rfl⟩))
      go_roundw
      case rel => exact ⟨2, by omega, rfl, HX1.out.trans HY6.out⟩
      case measure => simp [intOf]
    · clear hx hj
      go_wp2_with (go_at_call 19; refine (CW.out _).mono ?_; rintro e w7 ⟨rfl, hx⟩; have HX7 := Lib.hid hx; clear hx)
      go_ret
      exact ⟨rfl, (HX0.out.trans HXr.out).trans HX7.out⟩

end Go.Proofs.Ytjicpblncfgiaaa
