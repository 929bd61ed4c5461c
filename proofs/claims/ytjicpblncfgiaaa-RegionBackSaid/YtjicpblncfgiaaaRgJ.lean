/-
  Region: turned, of a map and an unmap; a fault of protect and bind. WRITTEN BY gen_rgj.py.
-/
import Derived.Test.YtjicpblncfgiaaaRgG
namespace Go.Proofs.Ytjicpblncfgiaaa
set_option linter.unusedVariables false
set_option linter.unusedSimpArgs false
open Go.RowKit RgT SpT
set_option maxHeartbeats 4000000
set_option maxRecDepth 100000
set_option linter.unusedVariables false
set_option linter.unusedSimpArgs false

/-- A map of spans behind a call. -/
def TurnedOk (w : World) (L : List (Sp U)) (e : Ending) (w' : World) : Prop :=
  ∃ mp, e = .returned (.tuple #[.pointer (some ⟨mp, 0, none⟩), .int .i64 0]) ∧ Ext [] w w' ∧ SpU.MapIs w' mp L ∧ w.heap.size ≤ mp
def TurnedNo (w : World) (c : Int) (e : Ending) (w' : World) : Prop := e = .returned (.tuple #[.pointer none, .int .i64 c]) ∧ Ext [] w w'
theorem rangeS_yes {pg n : Int} (h : rangeS pg n = 0) : 0 ≤ pg ∧ pg < 4096 ∧ 1 ≤ n ∧ n ≤ 4096 - pg ∧ IntKind.i64.wrap (pg + n) = pg + n ∧ SpU.mayB pg (pg + n) = true := by
  unfold rangeS at h
  split at h
  · rename_i h'
    obtain ⟨⟨h0, h1⟩, h2, h3⟩ := h'
    exact ⟨h0, h1, h2, h3, IntWalk.i64_in _ (by omega), by simp [SpU.mayB]; omega⟩
  · cases h

theorem turned1_busy (w : World) (sp mp : Nat) (nodes : Int) (L : List (Sp U)) (h : SpIs w sp mp nodes L) (pg n pm pk pn ad by_ : Int) (hr : rangeS pg n = 0) (hm : (SpU.withinL L pg (pg + n)).isEmpty = false) :
    Calls Try.prog 42 #[.pointer (some ⟨sp, 0, none⟩), .agg #[.int .i64 1, .int .i64 pg, .int .i64 n, .int .i64 pm, .int .i64 pk, .int .i64 pn, .int .i64 ad, .int .i64 by_]] w (TurnedNo w 8) := by
  obtain ⟨g0, g1, g2, g3, hw, hmay⟩ := rangeS_yes hr
  obtain ⟨to, hto⟩ : ∃ to, pg + n = to := ⟨_, rfl⟩
  have hwt : IntKind.i64.wrap (pg + n) = to := by rw [hw, hto]
  rw [hto] at hmay hm
  try rw [hto]
  clear hw
  have B0 := Blk.new w [.int .i64 1, .int .i64 pg, .int .i64 n, .int .i64 pm, .int .i64 pk, .int .i64 pn, .int .i64 ad, .int .i64 by_] 39
  have b0 := B0.cell 0
  have b1 := B0.cell 1
  have b2 := B0.cell 2
  have hx1 : ∀ q, Ext [] w ((w.alloc (.cells #[.int .i64 1, .int .i64 pg, .int .i64 n, .int .i64 pm, .int .i64 pk, .int .i64 pn, .int .i64 ad, .int .i64 by_] 39)).drewN q) := fun q => ((Ext.refl _ _).alloc _).drewN _
  have hb1 := fun q => B0.ext ((Ext.refl [] _).drewN q) (by simp)
  have HX := Lib.hid hx1
  have HB := Lib.hid hb1
  have HL := Lib.hid h.len
  have HS := Lib.hid (fun q => h.ext0 (hx1 q))
  have HMAY := Lib.hid hmay
  have HTO := Lib.hid hto
  have hmt : (!(SpU.withinL L pg to).isEmpty) = true := by rw [hm]; rfl
  have HMT := Lib.hid hmt
  clear hmt hm h hr B0 hx1 hb1 hmay hto
  go_enter Try.func42, Try.ntmps42
  go_wp2
  go_quiet (fail)
  have HX1 := Lib.hid (HX.out nq)
  have HB1 := Lib.hid (HB.out nq)
  have HS1 := Lib.hid (HS.out nq)
  generalize (w.alloc (.cells #[.int .i64 1, .int .i64 pg, .int .i64 n, .int .i64 pm, .int .i64 pk, .int .i64 pn, .int .i64 ad, .int .i64 by_] 39)).drewN nq = W1 at *
  clear HX HB HS b0 b1 b2
  have b0 := HB1.out.cell 0
  have s1 := HS1.out.head.cell 1
  have CC := Lib.hid (SpU.copy_c _ mp L HS1.out.map HL.out)
  go_wp2_with (first
    | (go_at_call 45; refine (CC.out).mono ?_; rintro e w2 ⟨mp2, rfl, hle, hm, hx⟩; have HX2 := Lib.hid hx; have HLE := Lib.hid hle; have HC2 := Lib.hid (Blk.new w2 [.pointer (some ⟨mp2, 0, none⟩)] 51); have HB2 := Lib.hid ((HB1.out.ext hx (by simp)).alloc (.cells #[.pointer (some ⟨mp2, 0, none⟩)] 51)); have HLT := Lib.hid hm.lt; have HM2 := Lib.hid (hm.ext0 ((Ext.refl [] w2).alloc (.cells #[.pointer (some ⟨mp2, 0, none⟩)] 51))); clear hm hx hle s1 b0; have b0 := HB2.out.cell 0; have c8 := HC2.out.cell 0)
    | (go_at_call 61; obtain ⟨Kq, hA⟩ := HM2.out.all HL.out; have cm := SpU.meets_c _ _ Kq L hA pg to; rw [HMT.out] at cm; refine cm.mono ?_; rintro e w3 ⟨rfl, hx⟩; have HX3 := Lib.hid hx; have HC3 := Lib.hid (HC2.out.ext hx (by simp)); have HB3 := Lib.hid (HB2.out.ext hx (by simp)); have HM3 := Lib.hid (HM2.out.ext0 hx); clear hx b0 c8 cm hA; have c8 := HC3.out.cell 0; have b3 := HB3.out.cell 3; have b4 := HB3.out.cell 4; have b5 := HB3.out.cell 5))
  go_ret2
  exact ⟨rfl, ((HX1.out.trans HX2.out).alloc _).trans HX3.out⟩

theorem turned1_ok (w : World) (sp mp : Nat) (nodes : Int) (L : List (Sp U)) (h : SpIs w sp mp nodes L) (pg n pm pk pn ad by_ : Int) (hr : rangeS pg n = 0) (hm : (SpU.withinL L pg (pg + n)).isEmpty = true) :
    Calls Try.prog 42 #[.pointer (some ⟨sp, 0, none⟩), .agg #[.int .i64 1, .int .i64 pg, .int .i64 n, .int .i64 pm, .int .i64 pk, .int .i64 pn, .int .i64 ad, .int .i64 by_]] w (TurnedOk w (SpU.setL L pg (pg + n) (pm, pk, pn))) := by
  obtain ⟨g0, g1, g2, g3, hw, hmay⟩ := rangeS_yes hr
  obtain ⟨to, hto⟩ : ∃ to, pg + n = to := ⟨_, rfl⟩
  have hwt : IntKind.i64.wrap (pg + n) = to := by rw [hw, hto]
  rw [hto] at hmay hm
  try rw [hto]
  clear hw
  have B0 := Blk.new w [.int .i64 1, .int .i64 pg, .int .i64 n, .int .i64 pm, .int .i64 pk, .int .i64 pn, .int .i64 ad, .int .i64 by_] 39
  have b0 := B0.cell 0
  have b1 := B0.cell 1
  have b2 := B0.cell 2
  have hx1 : ∀ q, Ext [] w ((w.alloc (.cells #[.int .i64 1, .int .i64 pg, .int .i64 n, .int .i64 pm, .int .i64 pk, .int .i64 pn, .int .i64 ad, .int .i64 by_] 39)).drewN q) := fun q => ((Ext.refl _ _).alloc _).drewN _
  have hb1 := fun q => B0.ext ((Ext.refl [] _).drewN q) (by simp)
  have HX := Lib.hid hx1
  have HB := Lib.hid hb1
  have HL := Lib.hid h.len
  have HS := Lib.hid (fun q => h.ext0 (hx1 q))
  have HMAY := Lib.hid hmay
  have HTO := Lib.hid hto
  have hmt : (!(SpU.withinL L pg to).isEmpty) = false := by rw [hm]; rfl
  have HMT := Lib.hid hmt
  clear hmt hm h hr B0 hx1 hb1 hmay hto
  go_enter Try.func42, Try.ntmps42
  go_wp2
  go_quiet (fail)
  have HX1 := Lib.hid (HX.out nq)
  have HB1 := Lib.hid (HB.out nq)
  have HS1 := Lib.hid (HS.out nq)
  generalize (w.alloc (.cells #[.int .i64 1, .int .i64 pg, .int .i64 n, .int .i64 pm, .int .i64 pk, .int .i64 pn, .int .i64 ad, .int .i64 by_] 39)).drewN nq = W1 at *
  clear HX HB HS b0 b1 b2
  have b0 := HB1.out.cell 0
  have s1 := HS1.out.head.cell 1
  have CC := Lib.hid (SpU.copy_c _ mp L HS1.out.map HL.out)
  have HLW := Lib.hid (show w.heap.size < W1.heap.size from HB1.out.lt)
  go_wp2_with (first
    | (go_at_call 45; refine (CC.out).mono ?_; rintro e w2 ⟨mp2, rfl, hle, hm, hx⟩; have HX2 := Lib.hid hx; have HLE := Lib.hid hle; have HC2 := Lib.hid (Blk.new w2 [.pointer (some ⟨mp2, 0, none⟩)] 51); have HB2 := Lib.hid ((HB1.out.ext hx (by simp)).alloc (.cells #[.pointer (some ⟨mp2, 0, none⟩)] 51)); have HLT := Lib.hid hm.lt; have HM2 := Lib.hid (hm.ext0 ((Ext.refl [] w2).alloc (.cells #[.pointer (some ⟨mp2, 0, none⟩)] 51))); clear hm hx hle s1 b0; have b0 := HB2.out.cell 0; have c8 := HC2.out.cell 0)
    | (go_at_call 61; obtain ⟨Kq, hA⟩ := HM2.out.all HL.out; have cm := SpU.meets_c _ _ Kq L hA pg to; rw [HMT.out] at cm; refine cm.mono ?_; rintro e w3 ⟨rfl, hx⟩; have HX3 := Lib.hid hx; have HC3 := Lib.hid (HC2.out.ext hx (by simp)); have HB3 := Lib.hid (HB2.out.ext hx (by simp)); have HM3 := Lib.hid (HM2.out.ext0 hx); clear hx b0 c8 cm hA; have c8 := HC3.out.cell 0; have b3 := HB3.out.cell 3; have b4 := HB3.out.cell 4; have b5 := HB3.out.cell 5))
  have HCD := Lib.hid (HC3.out.ext (Ext.refl [] _).drew (by simp))
  have HBD := Lib.hid (HB3.out.ext (Ext.refl [] _).drew (by simp))
  have cs := SpU.set_c w3.drew mp2 L (HM3.out.ext0 (Ext.refl [] _).drew) HL.out pg to (pm, pk, pn)
  rw [HMAY.out] at cs
  have CS := Lib.hid cs
  clear cs
  go_region_held3 (fun cur => cur.cell? ⟨w2.heap.size, 0, none⟩ = some (.pointer (some ⟨mp2, 0, none⟩)) ∧ cur.cell? ⟨w.heap.size, 3, none⟩ = some (.int .i64 pm) ∧ cur.cell? ⟨w.heap.size, 4, none⟩ = some (.int .i64 pk) ∧ cur.cell? ⟨w.heap.size, 5, none⟩ = some (.int .i64 pn))
    (first | exact ⟨HC4.out.cell 0, HB4.out.cell 3, HB4.out.cell 4, HB4.out.cell 5⟩ | exact ⟨HCD.out.cell 0, HBD.out.cell 3, HBD.out.cell 4, HBD.out.cell 5⟩)
    ((go_at_call 62; refine (CS.out).mono ?_; rintro e w4 ⟨rfl, hx, hm⟩; have HX4 := Lib.hid hx; have HM4 := Lib.hid hm; have HC4 := Lib.hid (HCD.out.ext hx (by have := HLT.out; simp; omega)); have HB4 := Lib.hid (HBD.out.ext hx (by have := HLE.out; have := HLW.out; simp; omega)); clear hx hm))
  all_goals
    go_wp2
    go_ret2
    exact ⟨mp2, rfl, (((HX1.out.trans HX2.out).alloc _).trans HX3.out).drew.step HX4.out (fun k hk => .inr (by have := HLE.out; have := HLW.out; simp at hk; omega)), HM4.out, by have := HLE.out; have := HLW.out; omega⟩

theorem turned2_ok (w : World) (sp mp : Nat) (nodes : Int) (L : List (Sp U)) (h : SpIs w sp mp nodes L) (pg n pm pk pn ad by_ : Int) (hr : rangeS pg n = 0) :
    Calls Try.prog 42 #[.pointer (some ⟨sp, 0, none⟩), .agg #[.int .i64 2, .int .i64 pg, .int .i64 n, .int .i64 pm, .int .i64 pk, .int .i64 pn, .int .i64 ad, .int .i64 by_]] w (TurnedOk w (SpU.clearL L pg (pg + n))) := by
  obtain ⟨g0, g1, g2, g3, hw, hmay⟩ := rangeS_yes hr
  obtain ⟨to, hto⟩ : ∃ to, pg + n = to := ⟨_, rfl⟩
  have hwt : IntKind.i64.wrap (pg + n) = to := by rw [hw, hto]
  rw [hto] at hmay 
  try rw [hto]
  clear hw
  have B0 := Blk.new w [.int .i64 2, .int .i64 pg, .int .i64 n, .int .i64 pm, .int .i64 pk, .int .i64 pn, .int .i64 ad, .int .i64 by_] 39
  have b0 := B0.cell 0
  have b1 := B0.cell 1
  have b2 := B0.cell 2
  have hx1 : ∀ q, Ext [] w ((w.alloc (.cells #[.int .i64 2, .int .i64 pg, .int .i64 n, .int .i64 pm, .int .i64 pk, .int .i64 pn, .int .i64 ad, .int .i64 by_] 39)).drewN q) := fun q => ((Ext.refl _ _).alloc _).drewN _
  have hb1 := fun q => B0.ext ((Ext.refl [] _).drewN q) (by simp)
  have HX := Lib.hid hx1
  have HB := Lib.hid hb1
  have HL := Lib.hid h.len
  have HS := Lib.hid (fun q => h.ext0 (hx1 q))
  have HMAY := Lib.hid hmay
  have HTO := Lib.hid hto
  clear h hr B0 hx1 hb1 hmay hto
  go_enter Try.func42, Try.ntmps42
  go_wp2
  go_quiet (fail)
  have HX1 := Lib.hid (HX.out nq)
  have HB1 := Lib.hid (HB.out nq)
  have HS1 := Lib.hid (HS.out nq)
  generalize (w.alloc (.cells #[.int .i64 2, .int .i64 pg, .int .i64 n, .int .i64 pm, .int .i64 pk, .int .i64 pn, .int .i64 ad, .int .i64 by_] 39)).drewN nq = W1 at *
  clear HX HB HS b0 b1 b2
  have b0 := HB1.out.cell 0
  have s1 := HS1.out.head.cell 1
  have CC := Lib.hid (SpU.copy_c _ mp L HS1.out.map HL.out)
  have HLW := Lib.hid (show w.heap.size < W1.heap.size from HB1.out.lt)
  go_wp2_with (first
    | (go_at_call 45; refine (CC.out).mono ?_; rintro e w2 ⟨mp2, rfl, hle, hm, hx⟩; have HX2 := Lib.hid hx; have HLE := Lib.hid hle; have HC2 := Lib.hid (Blk.new w2 [.pointer (some ⟨mp2, 0, none⟩)] 51); have HB2 := Lib.hid ((HB1.out.ext hx (by simp)).alloc (.cells #[.pointer (some ⟨mp2, 0, none⟩)] 51)); have HLT := Lib.hid hm.lt; have HM2 := Lib.hid (hm.ext0 ((Ext.refl [] w2).alloc (.cells #[.pointer (some ⟨mp2, 0, none⟩)] 51))); clear hm hx hle s1 b0; have b0 := HB2.out.cell 0; have c8 := HC2.out.cell 0))
  have HCD := Lib.hid (HC2.out.ext (Ext.refl [] _).drew (by simp))
  have HBD := Lib.hid (HB2.out.ext (Ext.refl [] _).drew (by simp))
  have cs := SpU.clear_c _ mp2 L (HM2.out.ext0 (Ext.refl [] _).drew) HL.out pg to
  rw [HMAY.out] at cs
  have CS := Lib.hid cs
  clear cs
  go_region_held3 (fun cur => cur.cell? ⟨w2.heap.size, 0, none⟩ = some (.pointer (some ⟨mp2, 0, none⟩)))
    (first | exact (HC4.out.cell 0) | exact (HCD.out.cell 0))
    ((go_at_call 63; refine (CS.out).mono ?_; rintro e w4 ⟨rfl, hx, hm⟩; have HX4 := Lib.hid hx; have HM4 := Lib.hid hm; have HC4 := Lib.hid (HCD.out.ext hx (by have := HLT.out; simp; omega)); have HB4 := Lib.hid (HBD.out.ext hx (by have := HLE.out; have := HLW.out; simp; omega)); clear hx hm))
  all_goals
    go_wp2
    go_ret2
    exact ⟨mp2, rfl, (((HX1.out.trans HX2.out).alloc _)).drew.step HX4.out (fun k hk => .inr (by have := HLE.out; have := HLW.out; simp at hk; omega)), HM4.out, by have := HLE.out; have := HLW.out; omega⟩

theorem turned3_fault (w : World) (sp mp : Nat) (nodes : Int) (L : List (Sp U)) (h : SpIs w sp mp nodes L) (pg n pm pk pn ad by_ : Int) (hr : rangeS pg n = 0) (hm : (SpU.gapsB L pg (pg + n)).isEmpty = false) :
    Calls Try.prog 42 #[.pointer (some ⟨sp, 0, none⟩), .agg #[.int .i64 3, .int .i64 pg, .int .i64 n, .int .i64 pm, .int .i64 pk, .int .i64 pn, .int .i64 ad, .int .i64 by_]] w (TurnedNo w 7) := by
  obtain ⟨g0, g1, g2, g3, hw, hmay⟩ := rangeS_yes hr
  obtain ⟨to, hto⟩ : ∃ to, pg + n = to := ⟨_, rfl⟩
  have hwt : IntKind.i64.wrap (pg + n) = to := by rw [hw, hto]
  rw [hto] at hmay hm
  try rw [hto]
  clear hw
  have B0 := Blk.new w [.int .i64 3, .int .i64 pg, .int .i64 n, .int .i64 pm, .int .i64 pk, .int .i64 pn, .int .i64 ad, .int .i64 by_] 39
  have b0 := B0.cell 0
  have b1 := B0.cell 1
  have b2 := B0.cell 2
  have hx1 : ∀ q, Ext [] w ((w.alloc (.cells #[.int .i64 3, .int .i64 pg, .int .i64 n, .int .i64 pm, .int .i64 pk, .int .i64 pn, .int .i64 ad, .int .i64 by_] 39)).drewN q) := fun q => ((Ext.refl _ _).alloc _).drewN _
  have hb1 := fun q => B0.ext ((Ext.refl [] _).drewN q) (by simp)
  have HX := Lib.hid hx1
  have HB := Lib.hid hb1
  have HL := Lib.hid h.len
  have HS := Lib.hid (fun q => h.ext0 (hx1 q))
  have HMAY := Lib.hid hmay
  have HTO := Lib.hid hto
  have HMT := Lib.hid hm
  clear hm h hr B0 hx1 hb1 hmay hto
  go_enter Try.func42, Try.ntmps42
  go_wp2
  go_quiet (fail)
  have HX1 := Lib.hid (HX.out nq)
  have HB1 := Lib.hid (HB.out nq)
  have HS1 := Lib.hid (HS.out nq)
  generalize (w.alloc (.cells #[.int .i64 3, .int .i64 pg, .int .i64 n, .int .i64 pm, .int .i64 pk, .int .i64 pn, .int .i64 ad, .int .i64 by_] 39)).drewN nq = W1 at *
  clear HX HB HS b0 b1 b2
  have b0 := HB1.out.cell 0
  have s1 := HS1.out.head.cell 1
  have CC := Lib.hid (SpU.copy_c _ mp L HS1.out.map HL.out)
  go_wp2_with (first
    | (go_at_call 45; refine (CC.out).mono ?_; rintro e w2 ⟨mp2, rfl, hle, hm, hx⟩; have HX2 := Lib.hid hx; have HLE := Lib.hid hle; have HC2 := Lib.hid (Blk.new w2 [.pointer (some ⟨mp2, 0, none⟩)] 51); have HB2 := Lib.hid ((HB1.out.ext hx (by simp)).alloc (.cells #[.pointer (some ⟨mp2, 0, none⟩)] 51)); have HLT := Lib.hid hm.lt; have HM2 := Lib.hid (hm.ext0 ((Ext.refl [] w2).alloc (.cells #[.pointer (some ⟨mp2, 0, none⟩)] 51))); clear hm hx hle s1 b0; have b0 := HB2.out.cell 0; have c8 := HC2.out.cell 0)
    | (go_at_call 64; obtain ⟨Kq, hA, hI⟩ := HM2.out.made HL.out; have cm := SpU.covers_yes _ _ Kq L hA hI pg to HMAY.out; rw [HMT.out] at cm; refine cm.mono ?_; rintro e w3 ⟨rfl, hx⟩; have HX3 := Lib.hid hx; have HC3 := Lib.hid (HC2.out.ext hx (by simp)); have HB3 := Lib.hid (HB2.out.ext hx (by simp)); have HM3 := Lib.hid (HM2.out.ext0 hx); clear hx b0 c8 cm hA hI))
  go_ret2
  exact ⟨rfl, ((HX1.out.trans HX2.out).alloc _).trans HX3.out⟩

theorem turned4_fault (w : World) (sp mp : Nat) (nodes : Int) (L : List (Sp U)) (h : SpIs w sp mp nodes L) (pg n pm pk pn ad by_ : Int) (hr : rangeS pg n = 0) (hm : (SpU.gapsB L pg (pg + n)).isEmpty = false) :
    Calls Try.prog 42 #[.pointer (some ⟨sp, 0, none⟩), .agg #[.int .i64 4, .int .i64 pg, .int .i64 n, .int .i64 pm, .int .i64 pk, .int .i64 pn, .int .i64 ad, .int .i64 by_]] w (TurnedNo w 7) := by
  obtain ⟨g0, g1, g2, g3, hw, hmay⟩ := rangeS_yes hr
  obtain ⟨to, hto⟩ : ∃ to, pg + n = to := ⟨_, rfl⟩
  have hwt : IntKind.i64.wrap (pg + n) = to := by rw [hw, hto]
  rw [hto] at hmay hm
  try rw [hto]
  clear hw
  have B0 := Blk.new w [.int .i64 4, .int .i64 pg, .int .i64 n, .int .i64 pm, .int .i64 pk, .int .i64 pn, .int .i64 ad, .int .i64 by_] 39
  have b0 := B0.cell 0
  have b1 := B0.cell 1
  have b2 := B0.cell 2
  have hx1 : ∀ q, Ext [] w ((w.alloc (.cells #[.int .i64 4, .int .i64 pg, .int .i64 n, .int .i64 pm, .int .i64 pk, .int .i64 pn, .int .i64 ad, .int .i64 by_] 39)).drewN q) := fun q => ((Ext.refl _ _).alloc _).drewN _
  have hb1 := fun q => B0.ext ((Ext.refl [] _).drewN q) (by simp)
  have HX := Lib.hid hx1
  have HB := Lib.hid hb1
  have HL := Lib.hid h.len
  have HS := Lib.hid (fun q => h.ext0 (hx1 q))
  have HMAY := Lib.hid hmay
  have HTO := Lib.hid hto
  have HMT := Lib.hid hm
  clear hm h hr B0 hx1 hb1 hmay hto
  go_enter Try.func42, Try.ntmps42
  go_wp2
  go_quiet (fail)
  have HX1 := Lib.hid (HX.out nq)
  have HB1 := Lib.hid (HB.out nq)
  have HS1 := Lib.hid (HS.out nq)
  generalize (w.alloc (.cells #[.int .i64 4, .int .i64 pg, .int .i64 n, .int .i64 pm, .int .i64 pk, .int .i64 pn, .int .i64 ad, .int .i64 by_] 39)).drewN nq = W1 at *
  clear HX HB HS b0 b1 b2
  have b0 := HB1.out.cell 0
  have s1 := HS1.out.head.cell 1
  have CC := Lib.hid (SpU.copy_c _ mp L HS1.out.map HL.out)
  go_wp2_with (first
    | (go_at_call 45; refine (CC.out).mono ?_; rintro e w2 ⟨mp2, rfl, hle, hm, hx⟩; have HX2 := Lib.hid hx; have HLE := Lib.hid hle; have HC2 := Lib.hid (Blk.new w2 [.pointer (some ⟨mp2, 0, none⟩)] 51); have HB2 := Lib.hid ((HB1.out.ext hx (by simp)).alloc (.cells #[.pointer (some ⟨mp2, 0, none⟩)] 51)); have HLT := Lib.hid hm.lt; have HM2 := Lib.hid (hm.ext0 ((Ext.refl [] w2).alloc (.cells #[.pointer (some ⟨mp2, 0, none⟩)] 51))); clear hm hx hle s1 b0; have b0 := HB2.out.cell 0; have c8 := HC2.out.cell 0)
    | (go_at_call 64; obtain ⟨Kq, hA, hI⟩ := HM2.out.made HL.out; have cm := SpU.covers_yes _ _ Kq L hA hI pg to HMAY.out; rw [HMT.out] at cm; refine cm.mono ?_; rintro e w3 ⟨rfl, hx⟩; have HX3 := Lib.hid hx; have HC3 := Lib.hid (HC2.out.ext hx (by simp)); have HB3 := Lib.hid (HB2.out.ext hx (by simp)); have HM3 := Lib.hid (HM2.out.ext0 hx); clear hx b0 c8 cm hA hI))
  go_ret2
  exact ⟨rfl, ((HX1.out.trans HX2.out).alloc _).trans HX3.out⟩

end Go.Proofs.Ytjicpblncfgiaaa
