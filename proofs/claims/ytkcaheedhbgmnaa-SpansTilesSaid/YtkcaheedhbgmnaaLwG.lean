/-
  Spans' laws: SpansLooks, walked.
-/
import Derived.Test.YtkcaheedhbgmnaaLwF
namespace Go.Proofs.Ytkcaheedhbgmnaa
set_option linter.unusedVariables false
set_option linter.unusedSimpArgs false
open Go.RowKit SpT
set_option maxHeartbeats 4000000
set_option maxRecDepth 100000
set_option linter.unusedSectionVars false

theorem fn_nil9 (g : FuncId) (lb : Array Value) (w : World) : (binOp .eql 72 (.func (.func g) #[] lb) .nilFunc).run Try.prog w = .ok (.bool false) w := by kernel_rfl
/-- goes, over what Within tells. -/
theorem goes_in (W0 : World) (p : Option Addr) (Kq : List Nat) (L : List (Sp Int)) (hA : SpI.AllIs W0 p Kq L) (a b : Int) (hL : (SpI.withinL L a b).length ≤ 4096) (hv : Small (SpI.withinL L a b)) (m : Int) (hmost : 0 ≤ m ∧ m ≤ 100000) (v : Value) (B0 : Nat) (hrow : SpR.SRow W0 B0 v (SpI.withinL L a b)) :
    Calls Try.prog 15 #[.func (.func 62) #[] #[.pointer (some ⟨W0.heap.size + 1, 0, none⟩), .pointer (some ⟨W0.heap.size + 2, 0, none⟩), .pointer (some ⟨W0.heap.size, 0, none⟩)], v, .int .i64 m]
      (((W0.alloc (.cells #[.pointer p] 23)).alloc (.cells #[.int .i64 a] 3)).alloc (.cells #[.int .i64 b] 3)) fun e w' => e = .returned (.bool true) ∧ Ext [] (((W0.alloc (.cells #[.pointer p] 23)).alloc (.cells #[.int .i64 a] 3)).alloc (.cells #[.int .i64 b] 3)) w' := by
  obtain ⟨most, rfl⟩ := Int.eq_ofNat_of_zero_le hmost.1
  have hx : Ext [] W0 (((W0.alloc (.cells #[.pointer p] 23)).alloc (.cells #[.int .i64 a] 3)).alloc (.cells #[.int .i64 b] 3)) := (((Ext.refl _ _).alloc _).alloc _).alloc _
  obtain ⟨Kp, hK, hit⟩ := SpI.within_it hA a b
  exact goes_c 62 _ Kp _ _ hit (Go.Proofs.enters_of Try.func62 (by kernel_rfl) rfl) hL hv most (by omega) _ (Nat.le_refl _)
    (fun q hq => by
      rcases hK q hq with h | h
      · have := hA.lt q h; exact ⟨by simp; omega, rfl⟩
      · exact ⟨by simp; omega, rfl⟩) B0 v (ownsRow_ext hrow hx (by simp))
theorem small_in {L : List (Sp Int)} (h : Small L) (a b : Int) : Small (SpI.withinL L a b) := fun x hx => by
  unfold SpI.withinL at hx
  split at hx
  · obtain ⟨y, hy, _, rfl⟩ := mem_within.1 hx
    exact h y hy
  · cases hx
theorem in_len {L : List (Sp Int)} (h : Ok L) (a b : Int) : (SpI.withinL L a b).length ≤ 4096 := by
  unfold SpI.withinL
  split
  · exact (within_ok h).1.len
  · simp
theorem covers_c (w : World) (p : Option Addr) (Kq : List Nat) (L : List (Sp Int)) (hA : SpI.AllIs w p Kq L) (hI : SpI.IsIs w p Kq true) (a b : Int) (t : Bool) (ht : t = (SpI.mayB a b && (SpI.gapsB L a b).isEmpty)) :
    Calls Try.prog 45 #[.pointer p, .int .i64 a, .int .i64 b] w fun e w' => e = .returned (.bool t) ∧ Ext [] w w' := by
  cases hm : SpI.mayB a b
  · rw [ht, hm, Bool.false_and]; exact SpI.covers_no w p Kq hA.lt a b (.inr ⟨hI, hm⟩)
  · rw [ht, hm, Bool.true_and]; exact SpI.covers_yes w p Kq L hA hI a b hm

def LkI (B : Nat) (j : Nat) (X : List Nat) (W : World) : Prop := Blk W B [.int .i64 (j : Int)] 3

/-- What stands while SpansLooks walks on. -/
structure LS (w0 : World) (A0 : List Value) (bm br bv : Nat) (L : List (Sp Int)) (f : Nat → Int) (Kq : List Nat) (bo : Nat) (vo : Value) (LO : List (Sp Int)) (W : World) : Prop where
  x : Ext [] w0 W
  A : Blk W w0.heap.size A0 45
  F : Blk W (w0.heap.size + 1) [.bool false] 4
  O : Blk W bo [vo] 27
  R : ∃ B0, SpR.SRow W B0 vo LO
  M : Maps W bm br bv L f
  AI : SpI.AllIs W (some ⟨bm, 0, none⟩) Kq L
  I : SpI.IsIs W (some ⟨bm, 0, none⟩) Kq true
theorem LS.ext {w0 : World} {A0 : List Value} {bm br bv : Nat} {L : List (Sp Int)} {f : Nat → Int} {Kq : List Nat} {bo : Nat} {vo : Value} {LO : List (Sp Int)} {W W' : World} (h : LS w0 A0 bm br bv L f Kq bo vo LO W) (hx : Ext [] W W') : LS w0 A0 bm br bv L f Kq bo vo LO W' :=
  ⟨h.x.trans hx, h.A.ext hx (by simp), h.F.ext hx (by simp), h.O.ext hx (by simp), h.R.imp fun _ r => ownsRow_ext r hx (by simp), h.M.ext0 hx, h.AI.ext hx (by simp), h.I.ext h.AI.lt hx (by simp)⟩

theorem spansLooks_c (v : Value) (l : List SAct) (x : SAct) (page : Int) (w : World) (hl : SActs w v l) :
    Calls Try.prog 10 #[v, .agg x.cells.toArray, .int .i64 page] w fun e w' => e = .returned (.bool true) ∧ Ext [] w w' := by
  obtain ⟨al, cl, rfl, hlen, _⟩ := hl.form
  obtain ⟨xc, a, b, xv⟩ := x
  unfold SAct.cells
  have hb := made_both l hl.2
  have hsm := made_small l hl.2
  refine calls_of_callsIn 1000 ?_
  refine callsIn_of_wp_marks Try.func10 rfl trivial ?_ rfl
  simp only [Try.ntmps10, List.size_toArray, List.length_cons, List.length_nil, Nat.reduceAdd, Nat.reduceSub, Array.replicate_succ, Array.replicate_zero, List.push_toArray, List.append_toArray, List.nil_append, List.cons_append]
  have hx0 : Ext [] w ((w.alloc (.cells #[.bool xc, .int .i64 a, .int .i64 b, .int .i8 xv] 45)).alloc (.cells #[.bool false] 4)) := ((Ext.refl _ _).alloc _).alloc _
  have bA := (Blk.new w [.bool xc, .int .i64 a, .int .i64 b, .int .i8 xv] 45).alloc (.cells #[.bool false] 4)
  have bR := Blk.new (w.alloc (.cells #[.bool xc, .int .i64 a, .int .i64 b, .int .i8 xv] 45)) [.bool false] 4
  rw [World.size_alloc] at bR
  have CM := Lib.hid (made8_c _ _ l (hl.ext_new hx0 (by simp)))
  have HE := Lib.hid hb.all
  have HW := Lib.hid (Both.withinL hb a b)
  have HG := Lib.hid (Both.gaps hb a b)
  have hLen := hb.1.len
  have hIn := in_len hb.1 a b
  have hSI := small_in hsm a b
  have HOut := Lib.hid ((runsR_ok (madeF l) a b).1.filter (fun x => decide (x.v = NoV))).len
  have CW := Lib.hid (fun w => awake08_c w)
  unfold Made8 at CM
  generalize madeL l = L at *
  generalize madeF l = f at *
  have HSM := Lib.hid hsm
  have HLen := Lib.hid hLen
  have HIn := Lib.hid hIn
  have HSI := Lib.hid hSI
  have HBA := Lib.hid bA
  have HBR := Lib.hid bR
  have HX0 := Lib.hid hx0
  clear hb hsm hl hLen hIn hSI bA bR hx0
  obtain ⟨m, hm⟩ : ∃ m, m = SpI.mayB a b := ⟨_, rfl⟩
  have CY := Lib.hid (show ∀ w, Calls Try.prog 33 #[.int .i64 a, .int .i64 b] w fun e w' => e = .returned (.bool m) ∧ w = w' from fun w => by rw [hm]; exact rmay_c a b w)
  have HMY := Lib.hid hm
  clear hm
  obtain ⟨tc, htc⟩ : ∃ t, t = (SpI.mayB a b && (SpI.gapsB L a b).isEmpty) := ⟨_, rfl⟩
  have HTC := Lib.hid htc
  have HTO := Lib.hid (show (m = false → tc = false) ∧ (tc = true → (outR8 f a b).length = 0) ∧ (m = true → tc = false → 0 < (outR8 f a b).length) from by
    rw [htc, ← HMY.out, HG.out]
    refine ⟨fun h => by rw [h, Bool.false_and], fun h => ?_, fun h h' => ?_⟩
    · cases ho : outR8 f a b with
      | nil => rfl
      | cons x l => rw [ho] at h; simp at h
    · cases ho : outR8 f a b with
      | nil => rw [ho, h] at h'; simp at h'
      | cons x l => simp)
  obtain ⟨ti, hti⟩ : ∃ t, t = !(SpI.withinL L a b).isEmpty := ⟨_, rfl⟩
  have HTI := Lib.hid hti
  have HTJ := Lib.hid (show ti = true ↔ 0 < (SpI.withinL L a b).length from by rw [hti]; cases SpI.withinL L a b <;> simp)
  clear hti
  clear htc
  gi_wp2_with (first
    | (gi_at_call 13; refine CallsIn.mono (callsIn_of_calls (CM.out)) ?_; rintro e w1 ⟨bm, br, bv, rfl, h1, h2, h3, hM, hx1⟩; have HM := Lib.hid hM; have X1 := Lib.hid hx1; have hba := HBA.out.ext hx1 (by simp); have a1 := hba.cell 1; have a2 := hba.cell 2; have HA1 := Lib.hid hba; clear hM hx1 h1 h2 h3 hba)
    | (gi_at_call 14; refine CallsIn.mono (callsIn_of_calls (rwithin_c _ br bv f HM.out.ref a b)) ?_; rintro e w2 ⟨v2, rfl, hr2, hx2⟩; rw [← HW.out] at hr2; obtain ⟨va2, vc2, rfl, _, _⟩ := ownsRow_form hr2; have R2 := Lib.hid hr2; have X2 := Lib.hid (X1.out.trans hx2); have M2 := Lib.hid (HM.out.ext0 hx2); have hba := HA1.out.ext hx2 (by simp); have a1 := hba.cell 1; have a2 := hba.cell 2; have HA2 := Lib.hid hba; clear hr2 hx2 hba)
    | (gi_at_call 44; refine CallsIn.mono (callsIn_of_calls (rgaps_c _ br bv f M2.out.ref a b)) ?_; rintro e w3 ⟨v3, rfl, hr3, hx3⟩; obtain ⟨va3, vc3, rfl, _, _⟩ := ownsRow_form hr3; have hxb := hx3.alloc (.cells #[.slice va3 (outR8 f a b).length vc3] 27); have R3 := Lib.hid (ownsRow_ext hr3 ((Ext.refl [] w3).alloc (.cells #[.slice va3 (outR8 f a b).length vc3] 27)) (by simp)); have X3 := Lib.hid (X2.out.trans hxb); have M3 := Lib.hid (M2.out.ext0 hxb); have R23 := Lib.hid (ownsRow_ext R2.out hxb (by simp)); have hba := HA2.out.ext hxb (by simp); have a1 := hba.cell 1; have a2 := hba.cell 2; have HA3 := Lib.hid hba; have HO := Lib.hid (Blk.new w3 [.slice va3 (outR8 f a b).length vc3] 27); clear hr3 hx3 hxb hba)
    | (gi_at_call 33; refine CallsIn.mono (callsIn_of_calls (CY.out _)) ?_; rintro e w' ⟨rfl, rfl⟩; generalize hw4 : w3.alloc (.cells #[.slice va3 (outR8 f a b).length vc3] 27) = w4 at *; obtain ⟨Kq, hA, hI⟩ := M3.out.map.made HLen.out; have S4 := Lib.hid (LS.mk (HX0.out.trans X3.out) HA3.out (HBR.out.ext X3.out (by simp)) HO.out ⟨_, R3.out⟩ M3.out hA hI); clear hA hI))
  have hTO := HTO.out
  have hTJ := HTJ.out
  obtain ⟨no, hno⟩ : ∃ n, n = (outR8 f a b).length := ⟨_, rfl⟩
  obtain ⟨ni, hni⟩ : ∃ n, n = (SpI.withinL L a b).length := ⟨_, rfl⟩
  have HNO := Lib.hid hno
  have HNI := Lib.hid hni
  rw [← hno] at hTO
  rw [← hni] at hTJ
  have l1 : ((0 : Int) < (ni : Int)) ↔ ti = true := by rw [hTJ]; omega
  have l2 : tc = true → ((no : Int) = 0) := fun h => by have := hTO.2.1 h; omega
  have l3 : m = true → tc = false → ¬ ((no : Int) = 0) := fun h h' => by have := hTO.2.2 h h'; omega
  have d1 : decide ((0 : Int) < (ni : Int)) = ti := by cases ti <;> simp_all
  have d1' : decide (0 < ni) = ti := by cases ti <;> simp_all
  have d2' : m = true → decide (no = 0) = tc := fun h => by cases tc <;> simp_all
  have d3' : m = true → (no == 0) = tc := fun h => by cases tc <;> simp_all
  have d2 : m = true → decide ((no : Int) = 0) = tc := fun h => by cases tc <;> simp_all
  have d3 : m = true → ((no : Int) == 0) = tc := fun h => by cases tc <;> simp_all
  have d4 : m = false → tc = false := hTO.1
  rw [hni] at d1 d1'
  rw [hno] at d2 d3 d2' d3'
  clear l1 l2 l3 hTO hTJ hno hni
  have mm : (m = true ∧ tc = true) ∨ (m = true ∧ tc = false) ∨ (m = false ∧ tc = false) := by
    cases m
    · exact .inr (.inr ⟨rfl, d4 rfl⟩)
    · cases tc <;> simp
  have hD2 := Lib.hid d2
  have hD3 := Lib.hid d3
  have hD2' := Lib.hid d2'
  have hD3' := Lib.hid d3'
  clear d2 d3 d2' d3' d4 HTO
  rcases mm with ⟨rfl, rfl⟩ | ⟨rfl, rfl⟩ | ⟨rfl, rfl⟩
  all_goals (cases ti)
  all_goals (try (have d2 := hD2.out rfl; have d3 := hD3.out rfl; have d2' := hD2'.out rfl; have d3' := hD3'.out rfl))
  all_goals (clear hD2 hD3 hD2' hD3')
  all_goals
    gi_wp2_with (first
      | (gi_at_call 31; refine CallsIn.mono (callsIn_of_calls (SpI.within_c _ _ _ _)) ?_; rintro e w' ⟨rfl, rfl⟩)
      | (gi_at_call 15; refine CallsIn.mono (callsIn_of_calls (goes_in _ _ _ L S4.out.AI a b HIn.out HSI.out 9999 (by omega) _ _ R23.out)) ?_; rintro e w5 ⟨rfl, hx5⟩; have S5 := Lib.hid (S4.out.ext (((((Ext.refl [] _).alloc _).alloc _).alloc _).trans hx5)); have hba := S5.out.A; have a1 := hba.cell 1; have a2 := hba.cell 2; have ov := S5.out.O.cell 0; clear hx5 hba)
      | (gi_at_call 45; refine CallsIn.mono (callsIn_of_calls (covers_c _ _ _ L S5.out.AI S5.out.I a b _ HTC.out)) ?_; rintro e w6 ⟨rfl, hx6⟩; have S6 := Lib.hid (S5.out.ext hx6); have hba := S6.out.A; have a1 := hba.cell 1; have a2 := hba.cell 2; have ov := S6.out.O.cell 0; clear hx6 hba)
      | (gi_at_call 46; refine CallsIn.mono (callsIn_of_calls (SpI.meets_c _ _ _ L S6.out.AI a b)) ?_; rintro e w7 ⟨rfl, hx7⟩; rw [← HTI.out]; have S7 := Lib.hid (S6.out.ext hx7); have hba := S7.out.A; have a1 := hba.cell 1; have a2 := hba.cell 2; have ov := S7.out.O.cell 0; clear hx7 hba)
      | (gi_at_call 32; refine CallsIn.mono (callsIn_of_calls (SpI.gaps_c _ _ _ _)) ?_; rintro e w' ⟨rfl, rfl⟩; have hfn := fn_nil9 64 #[.pointer (some ⟨w7.heap.size, 0, none⟩), .pointer (some ⟨w7.heap.size + 1, 0, none⟩), .pointer (some ⟨w7.heap.size + 2, 0, none⟩)]))
  all_goals
    clear hfn
    have hA7 := S7.out.AI
    obtain ⟨Kp, hKp, hit⟩ := SpI.gaps_it hA7 S7.out.I a b
    simp only [if_true] at hit
    rw [HG.out] at hit
    have hx8 : Ext [] w7 (((w7.alloc (.cells #[.pointer (some ⟨bm, 0, none⟩)] 23)).alloc (.cells #[.int .i64 a] 3)).alloc (.cells #[.int .i64 b] 3)) := (((Ext.refl _ _).alloc _).alloc _).alloc _
    have hs8 : (((w7.alloc (.cells #[.pointer (some ⟨bm, 0, none⟩)] 23)).alloc (.cells #[.int .i64 a] 3)).alloc (.cells #[.int .i64 b] 3)).heap.size = w7.heap.size + 3 := by simp
    try simp only [hs8]
    generalize (((w7.alloc (.cells #[.pointer (some ⟨bm, 0, none⟩)] 23)).alloc (.cells #[.int .i64 a] 3)).alloc (.cells #[.int .i64 b] 3)) = W8 at *
    have hx9 : Ext [] W8 (W8.alloc (.cells #[.int .i64 0] 3)) := (Ext.refl _ _).alloc _
    have S9 := Lib.hid (S7.out.ext (hx8.trans hx9))
    have hbi := Blk.new W8 [.int .i64 0] 3
    rw [hs8] at hbi
    have hs9 : (W8.alloc (.cells #[.int .i64 0] 3)).heap.size = w7.heap.size + 4 := by simp; omega
    generalize hW9 : W8.alloc (.cells #[.int .i64 0] 3) = W9 at *
    clear HO hw4
    have hLo : (outR8 f a b).length ≤ 4096 := HOut.out
    generalize outR8 f a b = LO at *
    have hkl := hA7.lt
    have hvl : (SpI.pairsG (LO.map fun x => (x.f, x.t))).length = LO.length := by simp [SpI.pairsG]
    have S7' := S7
    refine wpIn_range (by omega) rfl (Go.Proofs.enters_of Try.func64 (by kernel_rfl) rfl) hit (SpI.pairsG_size _) [w7.heap.size + 3] (LkI (w7.heap.size + 3)) (fun _ _ _ _ => False) ?fI ?fIx ?hM (by omega) ?hK ?h0 ?round ?done ?stop
    case fI => exact fun i X A B h hk => (hk _ (.inl (by simp)) (Blk.lt h)).trans h
    case fIx => exact fun c i X A B h hk => h
    case hM =>
      intro q hq
      obtain rfl : q = w7.heap.size + 3 := by simpa using hq
      refine ⟨by omega, fun h => ?_⟩
      rcases hKp _ h with h | h
      · have := hkl _ h; omega
      · omega
    case hK =>
      intro q hq
      rcases hKp _ hq with h | h
      · have := hkl _ h; exact ⟨by omega, hx9.block q (by omega) (by simp)⟩
      · exact ⟨by omega, hx9.block q (by omega) (by simp)⟩
    case h0 => exact hbi
    case stop => exact fun D c i X Wd hD hE hi h => h.elim
    case round =>
      rintro l' i hi X Wr hB hx hX hl' hlW
      have hiL : i < LO.length := by omega
      rw [show (SpI.pairsG (LO.map fun x => (x.f, x.t)))[i] = #[.int .i64 (LO[i].f : Int), .int .i64 (LO[i].t : Int)] by simp [SpI.pairsG]]
      have hO := S9.out.O
      have hOlt := S7.out.O.lt
      obtain ⟨B0, hrow⟩ := S7.out.R
      have hg : ∀ q, (Value.slice va3 LO.length vc3).ownBlock = some q → q < w7.heap.size := fun q hq => (hrow.lt q hq).2
      have hrow9 := ownsRow_ext hrow (hx8.trans hx9) (by simp)
      have hrx := fun (W' : World) (hW : Ext [l', w7.heap.size + 3] W9 W') => (ownsRow_ext hrow9 hW (fun q hq => by have := hg q hq; simp; omega))
      have hcl := fun j (hj : j < 3) => SpR.encS_at hiL hj
      obtain ⟨y, hyd⟩ : ∃ y, y = LO[i] := ⟨_, rfl⟩
      rw [← hyd] at hcl ⊢
      obtain ⟨yf, yt, yv⟩ := y
      have hB : Blk Wr (w7.heap.size + 3) [.int .i64 (i : Int)] 3 := hB
      unfold RoundX
      gi_wp2
      refine ⟨Ext.refl _ _, fun W₂ r hx2 hs2 hr => ?_⟩
      have HR := Lib.hid hr
      have h12 : Ext [l', w7.heap.size + 3] W9 W₂ := (hx.mono (fun k hk => .inl (List.mem_cons_of_mem _ hk))).trans (hx2.mono (by simp))
      have h32 := hB.ext hx2 (by simp; omega)
      have k3 := h32.cell 0
      have f3 := h32.frozen 0
      have ko := (hO.ext h12 (by simp; omega)).cell 0
      have H32 := Lib.hid h32
      have HX2 := Lib.hid hx2
      have hrow2 := hrx W₂ h12
      obtain ⟨m, hmm⟩ : ∃ m, LO.length = m + 1 := ⟨LO.length - 1, by omega⟩
      have hrow3 := hrow2
      rw [hmm] at hrow3
      obtain ⟨g', cap', he⟩ := ownsRow_succ hrow3
      injection he with he1 he2 he3
      subst he1 he3
      have hw0 := hrow2.cellAt (i * 3 + 0) (by omega)
      rw [hcl 0 (by omega)] at hw0
      have hw0 : W₂.cell? ⟨g', i * 3, none⟩ = _ := hw0
      have hw1 := hrow2.cellAt (i * 3 + 1) (by omega)
      rw [hcl 1 (by omega)] at hw1
      unfold SpR.cells at hw0 hw1
      have i0 : (0 : Int) ≤ (i : Int) := by omega
      have i1 : (i : Int) < (LO.length : Int) := by omega
      have q1 : decide ((LO.length : Int) ≤ (i : Int)) = false := by simp; omega
      have q1' : decide (LO.length ≤ i) = false := by simp; omega
      clear hrx hcl hr h32 hB hit hrow hrow9 hrow2 hrow3 hmm hg hO hyd hbi
      gi_wp2
      exact ⟨X, RoundEnd.of (N := [w7.heap.size + 3]) (Ext.refl _ _) HX2.out HR.out ((Ext.refl _ _).setCell _ _ (.inl (by simp))) (fun k hk => ⟨.inl hk, by simp at hk; omega⟩) (fun q hq => ⟨.inl hq, by rw [size_setCell]; have := (hX q hq).2.1; have := HX2.out.size; omega⟩), H32.out.set 0 _⟩
    case done =>
      rintro D X Wd hD hE hB hx hX
      have hB : Blk Wd (w7.heap.size + 3) [.int .i64 (LO.length : Int)] 3 := by have h := hB; rw [hvl] at h; exact h
      have hOlt := S7.out.O.lt
      have hFlt := S7.out.F.lt
      have hRlt := S7.out.M.lts
      have HB3 := Lib.hid hB
      have HOD := Lib.hid (S9.out.O.ext hx (by simp; omega))
      have HFD := Lib.hid (S9.out.F.ext hx (by simp; omega))
      have RD := Lib.hid (S9.out.M.ref.ext hx (by simp; omega) (by simp; omega))
      have CF := Lib.hid (SpI.find_c Wd _ Kq L (S9.out.AI.ext hx (fun q hq hK => by have := hkl q hK; simp at hq; omega)) page)
      have hfe : (inR8 f 0 4096).find? (fIn page) = L.find? (SpI.findIn page) := by rw [← HE.out]; rfl
      have CR := Lib.hid (fun (W' : World) (hW : Ext [] Wd W') => rfind_c W' br bv f (RD.out.ext0 hW) page)
      rw [hfe] at CR
      have hsv : ∀ x, L.find? (SpI.findIn page) = some x → -128 ≤ x.v ∧ x.v ≤ 127 := fun x h => HSM.out x (List.mem_of_find?_eq_some h)
      unfold RFound at CR
      clear hfe hB hit hbi
      generalize L.find? (SpI.findIn page) = o at *
      rcases o with _ | ⟨xf, xt, xv⟩
      · simp only [SpI.findC, rfindC, Option.isSome] at CF CR
        gi_wp2_with (first
          | (gi_at_call 47; refine CallsIn.mono (callsIn_of_calls CF.out) ?_; rintro e wf ⟨rfl, hxf⟩; have XF := Lib.hid hxf; clear hxf)
          | (gi_at_call 48; refine CallsIn.mono (callsIn_of_calls (CR.out _ (XF.out.alloc (.cells #[.int .i64 0, .int .i64 0, .int .i8 0] 70)))) ?_; rintro e wg ⟨rfl, hxg⟩; have bs := ((Blk.new wf [.int .i64 0, .int .i64 0, .int .i8 0] 70).ext hxg (by simp)).alloc (.cells #[.int .i64 0, .int .i64 0, .int .i64 0] 58); have bt := Blk.new wg [.int .i64 0, .int .i64 0, .int .i64 0] 58; have XG := Lib.hid ((XF.out.alloc (.cells #[.int .i64 0, .int .i64 0, .int .i8 0] 70)).trans hxg |>.alloc (.cells #[.int .i64 0, .int .i64 0, .int .i64 0] 58)); have s0 := bs.cell 0; have s1 := bs.cell 1; have s2 := bs.cell 2; have t0 := bt.cell 0; have t1 := bt.cell 1; have t2 := bt.cell 2; have kk := (HB3.out.ext XG.out (by simp)).cell 0; have ko := (HOD.out.ext XG.out (by simp)).cell 0; clear bs bt hxg)
          | (gi_at_call 18; refine CallsIn.mono (callsIn_of_calls (CW.out _)) ?_; rintro e wh ⟨rfl, hxh⟩; have XH := Lib.hid (XG.out.trans hxh); have ff := (HFD.out.ext XH.out (by simp)).frozen 0; have fc := (HFD.out.ext XH.out (by simp)).cell 0; clear hxh))
        have hDl : D < Wd.heap.size := by have h := hE; unfold Emp at h; exact (Array.getElem?_eq_some_iff.1 h).1
        refine leaves_marks [D] _ (fun q hq => by
          obtain rfl : q = D := by simpa using hq
          exact (Below.heap_setCell _ _ _ _ (show q ≠ w.heap.size + 1 by omega)).trans ((XH.out.block q hDl (by simp)).trans hE)) (by simp) (fun w' hx' hs' => ⟨_, ?_, rfl, ?_⟩)
        · have hc := (((HFD.out.ext XH.out (by simp)).set 0 (.bool true)).ext hx' (by simp; omega)).cell 0
          rw [results_cell1 rfl]
          simp [go_sem, hc]
        · exact ((((S9.out.x.step hx (fun k hk => .inr (by simp at hk; omega))).trans XH.out).setCell _ _ (.inr (by show w.heap.size ≤ w.heap.size + 1; omega))).step hx' (fun k hk => .inr (by simp at hk; omega)))
      · simp only [SpI.findC, rfindC, Option.isSome, SpI.cells, SpR.cells] at CF CR
        have hvv := hsv _ rfl
        simp only [] at hvv
        have q2 : IntKind.i64.wrap xv = xv := by rw [IntKind.wrap_i64]; omega
        gi_wp2_with (first
          | (gi_at_call 47; refine CallsIn.mono (callsIn_of_calls CF.out) ?_; rintro e wf ⟨rfl, hxf⟩; have XF := Lib.hid hxf; clear hxf)
          | (gi_at_call 48; refine CallsIn.mono (callsIn_of_calls (CR.out _ (XF.out.alloc (.cells #[.int .i64 (xf : Int), .int .i64 (xt : Int), .int .i8 xv] 70)))) ?_; rintro e wg ⟨rfl, hxg⟩; have bs := ((Blk.new wf [.int .i64 (xf : Int), .int .i64 (xt : Int), .int .i8 xv] 70).ext hxg (by simp)).alloc (.cells #[.int .i64 (xf : Int), .int .i64 (xt : Int), .int .i64 xv] 58); have bt := Blk.new wg [.int .i64 (xf : Int), .int .i64 (xt : Int), .int .i64 xv] 58; have XG := Lib.hid ((XF.out.alloc (.cells #[.int .i64 (xf : Int), .int .i64 (xt : Int), .int .i8 xv] 70)).trans hxg |>.alloc (.cells #[.int .i64 (xf : Int), .int .i64 (xt : Int), .int .i64 xv] 58)); have s0 := bs.cell 0; have s1 := bs.cell 1; have s2 := bs.cell 2; have t0 := bt.cell 0; have t1 := bt.cell 1; have t2 := bt.cell 2; have kk := (HB3.out.ext XG.out (by simp)).cell 0; have ko := (HOD.out.ext XG.out (by simp)).cell 0; clear bs bt hxg)
          | (gi_at_call 18; refine CallsIn.mono (callsIn_of_calls (CW.out _)) ?_; rintro e wh ⟨rfl, hxh⟩; have XH := Lib.hid (XG.out.trans hxh); have ff := (HFD.out.ext XH.out (by simp)).frozen 0; have fc := (HFD.out.ext XH.out (by simp)).cell 0; clear hxh))
        have hDl : D < Wd.heap.size := by have h := hE; unfold Emp at h; exact (Array.getElem?_eq_some_iff.1 h).1
        refine leaves_marks [D] _ (fun q hq => by
          obtain rfl : q = D := by simpa using hq
          exact (Below.heap_setCell _ _ _ _ (show q ≠ w.heap.size + 1 by omega)).trans ((XH.out.block q hDl (by simp)).trans hE)) (by simp) (fun w' hx' hs' => ⟨_, ?_, rfl, ?_⟩)
        · have hc := (((HFD.out.ext XH.out (by simp)).set 0 (.bool true)).ext hx' (by simp; omega)).cell 0
          rw [results_cell1 rfl]
          simp [go_sem, hc]
        · exact ((((S9.out.x.step hx (fun k hk => .inr (by simp at hk; omega))).trans XH.out).setCell _ _ (.inr (by show w.heap.size ≤ w.heap.size + 1; omega))).step hx' (fun k hk => .inr (by simp at hk; omega)))

end Go.Proofs.Ytkcaheedhbgmnaa
