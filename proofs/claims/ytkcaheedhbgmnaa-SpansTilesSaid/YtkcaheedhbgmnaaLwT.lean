/-
  Spans' laws: SpansTiles, walked.
-/
import Derived.Test.YtkcaheedhbgmnaaLwS
import Derived.Test.YtkcaheedhbgmnaaLwG
namespace Go.Proofs.Ytkcaheedhbgmnaa
set_option linter.unusedVariables false
set_option linter.unusedSimpArgs false
open Go.RowKit SpT
set_option maxHeartbeats 4000000
set_option maxRecDepth 100000
set_option linter.unusedSectionVars false

theorem Cells.same {A B : World} {b n : Nat} {f : Nat → Value} (h : Cells A b n f) (e : B.heap[b]? = A.heap[b]?) : Cells B b n f := by
  obtain ⟨h1, h2⟩ := h
  refine ⟨?_, fun k hk => ?_⟩
  · have h3 : A.heap[b]? = some A.heap[b] := Array.getElem?_eq_getElem h1
    exact heap_lt (e.trans h3)
  · have := h2 k hk
    unfold World.cell? World.frozen? at *
    simp only [e]
    exact this
theorem take_snoc4 {α : Type} {l : List α} {i : Nat} (h : i < l.length) : l.take (i + 1) = l.take i ++ [l[i]] := List.take_succ_eq_append_getElem h
/-- The pages counted so far. -/
def CntC (P : List (Nat × Nat)) (q : Nat) : Value := .int .i64 (cov P q : Nat)
def CntI (B : Nat) (P0 P : List (Nat × Nat)) (i : Nat) (X : List Nat) (W : World) : Prop := Cells W B 4096 (CntC (P0 ++ P.take i))

theorem spansTiles_c (v : Value) (l : List SAct) (x : SAct) (w : World) (hl : SActs w v l) :
    Calls Try.prog 6 #[v, .agg x.cells.toArray] w fun e w' => e = .returned (.bool true) ∧ Ext [] w w' := by
  obtain ⟨al, cl, rfl, hlen, _⟩ := hl.form
  obtain ⟨xc, a, b, xv⟩ := x
  unfold SAct.cells
  have hb := made_both l hl.2
  have hmk : ∀ w, (Instr.makeSlice 67 (.int .i64 4096) (.int .i64 4096)).run Try.prog w = .ok (.slice (some ⟨w.heap.size, 0, none⟩) 4096 4096) (w.alloc (.cells (madeCells (Value.int .i64 0).cells (4096 * 1)) 3)) :=
    mk_of (t := 67) (e := 3) (size := 1) (bytes := 8) (z := .int .i64 0) Try.underlying67 (by kernel_rfl) 4096 (by omega) (by omega)
  have hcm := fun (w : World) => (Cells.made w (Value.int .i64 0).cells (4096 * 1) 3).congr (g := CntC []) (fun k _ => by show (#[Value.int .i64 0] : Array Value)[k % 1]! = _; rw [Nat.mod_one]; rfl)
  have hTag := fun (w : World) => (show IntBlk (w.alloc (.cells (madeCells (Value.int .i64 0).cells (4096 * 1)) 3)) w.heap.size from ⟨_, World.alloc_heap_new w _⟩)
  generalize hz : (Value.int .i64 0).cells = z at *
  have HCM := Lib.hid hcm
  have HTag := Lib.hid hTag
  refine calls_of_callsIn 1000 ?_
  refine callsIn_of_wp_marks Try.func6 rfl trivial ?_ rfl
  simp only [Try.ntmps6, List.size_toArray, List.length_cons, List.length_nil, Nat.reduceAdd, Nat.reduceSub, Array.replicate_succ, Array.replicate_zero, List.push_toArray, List.append_toArray, List.nil_append, List.cons_append]
  have hx0 : Ext [] w (w.alloc (.cells #[.bool xc, .int .i64 a, .int .i64 b, .int .i8 xv] 45)) := (Ext.refl _ _).alloc _
  have HX0 := Lib.hid hx0
  have HBA := Lib.hid (Blk.new w [.bool xc, .int .i64 a, .int .i64 b, .int .i8 xv] 45)
  have CM := Lib.hid (fun (W : World) (hW : Ext [] w W) => made8_c W _ l (hl.ext_new hW (by simp)))
  have HT := Lib.hid (tiles hb.1 a b)
  have HPW := Lib.hid (withP_in hb.1 a b)
  have HPG := Lib.hid (gapsB_in hb.1 a b)
  have HLen := Lib.hid hb.1.len
  have CW := Lib.hid (fun w => awake08_c w)
  unfold Made8 at CM
  generalize madeL l = L at *
  generalize madeF l = f at *
  clear hb hl hcm hTag hx0
  obtain ⟨m, hm⟩ : ∃ m, m = SpI.mayB a b := ⟨_, rfl⟩
  have CY := Lib.hid (show ∀ w, Calls Try.prog 33 #[.int .i64 a, .int .i64 b] w fun e w' => e = .returned (.bool m) ∧ w = w' from fun w => by rw [hm]; exact rmay_c a b w)
  rw [← hm] at HT
  clear hm
  gi_wp2_with (first
    | (gi_at_call 18; refine CallsIn.mono (callsIn_of_calls (CW.out _)) ?_; rintro e w1 ⟨rfl, hx1⟩; have X1 := Lib.hid (HX0.out.trans hx1); have A1 := Lib.hid (HBA.out.ext hx1 (by simp)); clear hx1)
    | (gi_at_call 13; refine CallsIn.mono (callsIn_of_calls (CM.out _ X1.out)) ?_; rintro e w2 ⟨bm, br, bv, rfl, h1, h2, h3, hM, hx2⟩;
        have hx3 := ((Ext.refl [] w2).alloc (.cells (madeCells z (4096 * 1)) 3)).alloc (.cells #[.slice (some ⟨w2.heap.size, 0, none⟩) 4096 4096] 67);
        have X3 := Lib.hid ((X1.out.trans hx2).trans hx3); have hA := (A1.out.ext hx2 (by simp)).ext hx3 (by simp);
        obtain ⟨Kq, hK, hI⟩ := hM.map.made HLen.out; have HKL := Lib.hid hK.lt; have HAI := Lib.hid (hK.ext hx3 (by simp)); have HI := Lib.hid (hI.ext hK.lt hx3 (by simp)); have HAl := Lib.hid (A1.out.ext hx2 (by simp)).lt; have HMlt := Lib.hid hM.lts; have HC := Lib.hid ((HCM.out w2).alloc (.cells #[.slice (some ⟨w2.heap.size, 0, none⟩) 4096 4096] 67));
        have hS := Blk.new (w2.alloc (.cells (madeCells z (4096 * 1)) 3)) [.slice (some ⟨w2.heap.size, 0, none⟩) 4096 4096] 67;
        rw [World.size_alloc] at hS;
        have HSz := Lib.hid (show ((w2.alloc (.cells (madeCells z (4096 * 1)) 3)).alloc (.cells #[.slice (some ⟨w2.heap.size, 0, none⟩) 4096 4096] 67)).heap.size = w2.heap.size + 2 by simp);
        have HS := Lib.hid hS; have HA := Lib.hid hA; have a1 := hA.cell 1; have a2 := hA.cell 2; clear h1 h2 h3 hM hx2 hx3 hS hA hK hI)
    | (gi_at_call 31; generalize hW3 : (w2.alloc (.cells (madeCells z (4096 * 1)) 3)).alloc (.cells #[.slice (some ⟨w2.heap.size, 0, none⟩) 4096 4096] 67) = W3 at *; refine CallsIn.mono (callsIn_of_calls (SpI.within_c _ _ _ _)) ?_; rintro e w' ⟨rfl, rfl⟩))
  have hW4 := hW3
  clear hW4
  obtain ⟨Kp, hKp, hit⟩ := SpI.within_it HAI.out a b
  have hx4 : Ext [] W3 (((W3.alloc (.cells #[.pointer (some ⟨bm, 0, none⟩)] 23)).alloc (.cells #[.int .i64 a] 3)).alloc (.cells #[.int .i64 b] 3)) := (((Ext.refl _ _).alloc _).alloc _).alloc _
  have hs4 : (((W3.alloc (.cells #[.pointer (some ⟨bm, 0, none⟩)] 23)).alloc (.cells #[.int .i64 a] 3)).alloc (.cells #[.int .i64 b] 3)).heap.size = w2.heap.size + 5 := by simp; have := HSz.out; omega
  have hsz3 := HSz.out
  try simp only [hs4]
  generalize (((W3.alloc (.cells #[.pointer (some ⟨bm, 0, none⟩)] 23)).alloc (.cells #[.int .i64 a] 3)).alloc (.cells #[.int .i64 b] 3)) = W4 at *
  have hkl := HKL.out
  have hCovB1 : ∀ i q, cov ([] ++ (withP L a b).take i) q ≤ 1 := fun i q => by
    have h1 := HT.out q
    have h2 := cov_take (withP L a b) i q
    rw [List.nil_append]
    split at h1 <;> omega
  have hCovB2 : ∀ i q, cov (withP L a b ++ (SpI.gapsB L a b).take i) q ≤ 1 := fun i q => by
    have h1 := HT.out q
    have h2 := cov_take (SpI.gapsB L a b) i q
    rw [cov_append]
    split at h1 <;> omega
  have HCV2 := Lib.hid hCovB2
  have hvl : (SpI.vals (SpI.withinL L a b)).length = (SpI.withinL L a b).length := by simp [SpI.vals]
  have hpl : (withP L a b).length = (SpI.withinL L a b).length := by simp [withP]
  clear hCovB2
  refine wpIn_range (by omega) rfl (Go.Proofs.enters_of Try.func62 (by kernel_rfl) rfl) hit (SpI.vals_size _) [w2.heap.size] (CntI w2.heap.size [] (withP L a b)) (fun _ _ _ _ => False) ?fI ?fIx ?hM (Nat.le_refl _) ?hK ?h0 ?round ?done ?stop
  case fI => exact fun i X A B h hk => Cells.same (show Cells A w2.heap.size 4096 _ from h) (hk _ (.inl (by simp)) (Cells.lt (show Cells A w2.heap.size 4096 _ from h)))
  case fIx => exact fun c i X A B h hk => h
  case hM =>
    intro q hq
    obtain rfl : q = w2.heap.size := by simpa using hq
    refine ⟨by omega, fun h => ?_⟩
    rcases hKp _ h with h | h
    · have := hkl _ h; omega
    · omega
  case hK =>
    intro q hq
    rcases hKp _ hq with h | h
    · have := hkl _ h; exact ⟨by omega, rfl⟩
    · exact ⟨by omega, rfl⟩
  case h0 => exact HC.out.ext hx4 (by simp)
  case stop => exact fun D c i X Wd hD hE hi h => h.elim
  case round =>
    rintro l' i hi X Wr hC hx hX hl' hlW
    have hiL : i < (SpI.withinL L a b).length := by omega
    have hiP : i < (withP L a b).length := by omega
    rw [show (SpI.vals (SpI.withinL L a b))[i] = #[.agg (SpI.cells (SpI.withinL L a b)[i]).toArray] by simp [SpI.vals]]
    have hpm := HPW.out _ (List.getElem_mem hiP)
    have hpe : (withP L a b)[i] = ((SpI.withinL L a b)[i].f, (SpI.withinL L a b)[i].t) := by simp [withP]
    have hCovB := hCovB1
    obtain ⟨y, hyd⟩ : ∃ y, y = (SpI.withinL L a b)[i] := ⟨_, rfl⟩
    rw [← hyd] at hpe ⊢
    obtain ⟨yf, yt, yv⟩ := y
    rw [hpe] at hpm
    simp only [] at hpm
    have hpd : (yf, yt) = (withP L a b)[i] := hpe.symm
    have hxr : Ext [] Wr (Wr.alloc (.cells (SpI.cells ⟨yf, yt, yv⟩).toArray 70)) := (Ext.refl _ _).alloc _
    have hbx := Blk.new Wr (SpI.cells ⟨yf, yt, yv⟩) 70
    unfold SpI.cells at hxr hbx ⊢
    have HXR := Lib.hid hxr
    have hSW := HS.out.ext hx4 (by simp)
    clear hxr hyd hpe
    unfold RoundX
    gi_wp2
    refine ⟨HXR.out, fun W₂ r hx2 hs2 hr => ?_⟩
    have hs3 : W₂.heap.size = Wr.heap.size + 1 := by simpa using hs2
    have HR := Lib.hid hr
    have HX2 := Lib.hid hx2
    have hC : Cells Wr w2.heap.size 4096 (CntC ([] ++ (withP L a b).take i)) := hC
    have hC2 := (hC.ext HXR.out (by simp)).ext hx2 (by simp; omega)
    have HS2 := Lib.hid (((hSW.ext hx (by simp)).ext HXR.out (by simp)).ext hx2 (by simp; omega))
    have hbx2 := hbx.ext hx2 (by simp; omega)
    have HB2 := Lib.hid hbx2
    have kx0 := hbx2.cell 0
    have kx1 := hbx2.cell 1
    have hWs := hx.size
    clear hr hbx hbx2 hit hC hSW hx2
    obtain ⟨Pi, hPi⟩ : ∃ Pi, Pi = [] ++ (withP L a b).take i := ⟨_, rfl⟩
    have hnext : [] ++ (withP L a b).take (i + 1) = Pi ++ [(yf, yt)] := by rw [hPi, take_snoc4 hiP, ← hpd, List.append_assoc]
    rw [← hPi] at hC2
    have hcov : ∀ q, cov Pi q ≤ 1 := fun q => by
      have h1 := hCovB i q
      rw [← hPi] at h1; exact h1
    have HCov := Lib.hid hcov
    have HNext := Lib.hid hnext
    clear hPi hpd hcov hnext
    gi_wp2
    gi_loopw [10] (fun v wr => ∃ k : Nat, yf ≤ k ∧ k ≤ yt ∧ v = .int .i64 k ∧ Cells wr w2.heap.size 4096 (fun q => .int .i64 ((cov Pi q + (if yf ≤ q ∧ q < k then 1 else 0) : Nat) : Int)) ∧ Ext [w2.heap.size] W₂ wr) (fun v _ => yt - (intOf v).toNat)
    case atStart => exact ⟨yf, Nat.le_refl _, by omega, rfl, hC2.congr (fun k _ => by unfold CntC; rw [if_neg (by omega)]; rfl), Ext.refl _ _⟩
    case round =>
      obtain ⟨k, hk1, hk2, rfl, hC, hE⟩ := hrel
      have ks' := (HS2.out.ext hE (by simp)).cell 0
      have kb := HB2.out.ext hE (by simp; omega)
      have kx1 := kb.cell 1
      clear kb
      by_cases hlt : k < yt
      · have hck : wr.cell? ⟨w2.heap.size, k, none⟩ = some (.int .i64 ((cov Pi k : Nat) : Int)) := (hC.cell (by omega)).trans (by rw [if_neg (by omega)]; rfl)
        have hfk := hC.fr (show k < 4096 by omega)
        have hcb := HCov.out k
        have q1 : decide (k < yt) = true := by simp; omega
        have q2 : decide ((k : Int) < 4096) = true := by simp; omega
        have q3 : decide (k < 4096) = true := by simp; omega
        have q4 : (0 : Int) ≤ (k : Int) := by omega
        have q5 : (k : Int) < 4096 := by omega
        have q6 : decide ((k : Int) < (yt : Int)) = true := by simp; omega
        have HC := Lib.hid hC
        have HE := Lib.hid hE
        clear hC hE hC2
        gi_wp2
        go_roundw
        case rel => exact ⟨k + 1, by omega, by omega, by go_num, (HC.out.set (show k < 4096 by omega) (.int .i64 ((cov Pi k : Nat) + 1 : Int))).congr (fun j _ => by
          unfold upd
          by_cases hj : j = k
          · subst hj; rw [if_pos rfl, if_pos (by omega)]; rfl
          · rw [if_neg hj]
            show Value.int .i64 ((cov Pi j + (if yf ≤ j ∧ j < k then 1 else 0) : Nat) : Int) = Value.int .i64 ((cov Pi j + (if yf ≤ j ∧ j < k + 1 then 1 else 0) : Nat) : Int)
            by_cases h5 : yf ≤ j ∧ j < k
            · rw [if_pos h5, if_pos (by omega)]
            · rw [if_neg h5, if_neg (by omega)]), HE.out.setCell _ _ (.inl (by simp))⟩
        case measure => simp [intOf]; omega
      · obtain rfl : k = yt := by omega
        have HC := Lib.hid hC
        have HE := Lib.hid hE
        clear hC hE hC2
        gi_wp2
        refine ⟨X, RoundEnd.of (N := [w2.heap.size]) HXR.out HX2.out HR.out HE.out (fun k hk => ⟨.inl hk, by simp at hk; omega⟩) (fun q hq => ⟨.inl hq, by have := (hX q hq).2.1; have := HX2.out.size; have := HE.out.size; have := HXR.out.size; omega⟩), ?_⟩
        unfold CntI
        rw [HNext.out]
        exact HC.out.congr (fun q _ => by unfold CntC; rw [cov_snoc])
  case done =>
    rintro D1 X Wd hD1 hED1 hC hx hX
    have hC : Cells Wd w2.heap.size 4096 (CntC ([] ++ (withP L a b).take (SpI.vals (SpI.withinL L a b)).length)) := hC
    rw [hvl, ← hpl, List.take_length, List.nil_append] at hC
    have hA4 := (HA.out.ext hx4 (by simp)).ext hx (by simp; have := HAl.out; omega)
    have a1 := hA4.cell 1
    have a2 := hA4.cell 2
    have HA4 := Lib.hid hA4
    have HS4 := Lib.hid ((HS.out.ext hx4 (by simp)).ext hx (by simp))
    have HAI4 := Lib.hid ((HAI.out.ext hx4 (by simp)).ext hx (fun q hq hK => by have := hkl q hK; simp at hq; omega))
    have HI4 := Lib.hid ((HI.out.ext HAI.out.lt hx4 (by simp)).ext (HAI.out.ext hx4 (by simp)).lt hx (fun q hq hK => by have := hkl q hK; simp at hq; omega))
    have HXd := Lib.hid ((X3.out.trans hx4).step hx (fun k hk => .inr (by simp at hk; have := HAl.out; omega)))
    have HCd := Lib.hid hC
    have hsd := hx.size
    clear hit hA4 hX hC hCovB1 hx4
    gi_wp2_with (gi_at_call 32; refine CallsIn.mono (callsIn_of_calls (SpI.gaps_c _ _ _ _)) ?_; rintro e w' ⟨rfl, rfl⟩)
    obtain ⟨Kr, hKr, hit⟩ := SpI.gaps_it HAI4.out HI4.out a b
    simp only [if_true] at hit
    have hx5 : Ext [] Wd (((Wd.alloc (.cells #[.pointer (some ⟨bm, 0, none⟩)] 23)).alloc (.cells #[.int .i64 a] 3)).alloc (.cells #[.int .i64 b] 3)) := (((Ext.refl _ _).alloc _).alloc _).alloc _
    have hs5 : (((Wd.alloc (.cells #[.pointer (some ⟨bm, 0, none⟩)] 23)).alloc (.cells #[.int .i64 a] 3)).alloc (.cells #[.int .i64 b] 3)).heap.size = Wd.heap.size + 3 := by simp
    try simp only [hs5]
    generalize (((Wd.alloc (.cells #[.pointer (some ⟨bm, 0, none⟩)] 23)).alloc (.cells #[.int .i64 a] 3)).alloc (.cells #[.int .i64 b] 3)) = W5 at *
    have hvl2 : (SpI.pairsG (SpI.gapsB L a b)).length = (SpI.gapsB L a b).length := by simp [SpI.pairsG]
    refine wpIn_range (by omega) rfl (Go.Proofs.enters_of Try.func64 (by kernel_rfl) rfl) hit (SpI.pairsG_size _) [w2.heap.size] (CntI w2.heap.size (withP L a b) (SpI.gapsB L a b)) (fun _ _ _ _ => False) ?fI ?fIx ?hM (Nat.le_refl _) ?hK ?h0 ?round ?done ?stop
    case fI => exact fun i X A B h hk => Cells.same (show Cells A w2.heap.size 4096 _ from h) (hk _ (.inl (by simp)) (Cells.lt (show Cells A w2.heap.size 4096 _ from h)))
    case fIx => exact fun c i X A B h hk => h
    case hM =>
      intro q hq
      obtain rfl : q = w2.heap.size := by simpa using hq
      refine ⟨by omega, fun h => ?_⟩
      rcases hKr _ h with h | h
      · have := hkl _ h; omega
      · omega
    case hK =>
      intro q hq
      rcases hKr _ hq with h | h
      · have := hkl _ h; exact ⟨by omega, rfl⟩
      · exact ⟨by omega, rfl⟩
    case h0 => exact (HCd.out.ext hx5 (by simp)).congr (fun q _ => by rw [List.take_zero, List.append_nil])
    case stop => exact fun D c i X Wd hD hE hi h => h.elim
    case round =>
      rintro l' i hi X Wr hC hx' hX hl' hlW
      have hiP : i < (SpI.gapsB L a b).length := by omega
      rw [show (SpI.pairsG (SpI.gapsB L a b))[i] = #[.int .i64 ((SpI.gapsB L a b)[i].1 : Int), .int .i64 ((SpI.gapsB L a b)[i].2 : Int)] by simp [SpI.pairsG]]
      have hpm := HPG.out _ (List.getElem_mem hiP)
      have hCovB := HCV2.out
      obtain ⟨y, hyd⟩ : ∃ y, y = (SpI.gapsB L a b)[i] := ⟨_, rfl⟩
      rw [← hyd] at hpm ⊢
      obtain ⟨yf, yt⟩ := y
      simp only [] at hpm ⊢
      have hpd : (yf, yt) = (SpI.gapsB L a b)[i] := hyd
      have hSW := HS4.out.ext hx5 (by simp)
      have HXW := Lib.hid (Ext.refl [] Wr)
      clear hyd
      unfold RoundX
      gi_wp2
      refine ⟨Ext.refl _ _, fun W₂ r hx2 hs2 hr => ?_⟩
      have HR := Lib.hid hr
      have HX2 := Lib.hid hx2
      have hC : Cells Wr w2.heap.size 4096 (CntC (withP L a b ++ (SpI.gapsB L a b).take i)) := hC
      have hC2 := hC.ext hx2 (by simp; omega)
      have HS2 := Lib.hid ((hSW.ext hx' (by simp)).ext hx2 (by simp; omega))
      have hWs := hx'.size
      clear hr hit hC hSW hx2
      obtain ⟨Pi, hPi⟩ : ∃ Pi, Pi = withP L a b ++ (SpI.gapsB L a b).take i := ⟨_, rfl⟩
      have hnext : withP L a b ++ (SpI.gapsB L a b).take (i + 1) = Pi ++ [(yf, yt)] := by rw [hPi, take_snoc4 hiP, ← hpd, List.append_assoc]
      rw [← hPi] at hC2
      have hcov : ∀ q, cov Pi q ≤ 1 := fun q => by
        have h1 := hCovB i q
        rw [← hPi] at h1; exact h1
      have HCov := Lib.hid hcov
      have HNext := Lib.hid hnext
      clear hPi hpd hcov hnext
      gi_wp2
      gi_loopw [13] (fun v wr => ∃ k : Nat, yf ≤ k ∧ k ≤ yt ∧ v = .int .i64 k ∧ Cells wr w2.heap.size 4096 (fun q => .int .i64 ((cov Pi q + (if yf ≤ q ∧ q < k then 1 else 0) : Nat) : Int)) ∧ Ext [w2.heap.size] W₂ wr) (fun v _ => yt - (intOf v).toNat)
      case atStart => exact ⟨yf, Nat.le_refl _, by omega, rfl, hC2.congr (fun k _ => by unfold CntC; rw [if_neg (by omega)]; rfl), Ext.refl _ _⟩
      case round =>
        obtain ⟨k, hk1, hk2, rfl, hC, hE⟩ := hrel
        have ks' := (HS2.out.ext hE (by simp)).cell 0
        by_cases hlt : k < yt
        · have hck : wr.cell? ⟨w2.heap.size, k, none⟩ = some (.int .i64 ((cov Pi k : Nat) : Int)) := (hC.cell (by omega)).trans (by rw [if_neg (by omega)]; rfl)
          have hfk := hC.fr (show k < 4096 by omega)
          have hcb := HCov.out k
          have q1 : decide (k < yt) = true := by simp; omega
          have q2 : decide ((k : Int) < 4096) = true := by simp; omega
          have q3 : decide (k < 4096) = true := by simp; omega
          have q4 : (0 : Int) ≤ (k : Int) := by omega
          have q5 : (k : Int) < 4096 := by omega
          have q6 : decide ((k : Int) < (yt : Int)) = true := by simp; omega
          have HC := Lib.hid hC
          have HE := Lib.hid hE
          clear hC hE hC2
          gi_wp2
          go_roundw
          case rel => exact ⟨k + 1, by omega, by omega, by go_num, (HC.out.set (show k < 4096 by omega) (.int .i64 ((cov Pi k : Nat) + 1 : Int))).congr (fun j _ => by
            unfold upd
            by_cases hj : j = k
            · subst hj; rw [if_pos rfl, if_pos (by omega)]; rfl
            · rw [if_neg hj]
              show Value.int .i64 ((cov Pi j + (if yf ≤ j ∧ j < k then 1 else 0) : Nat) : Int) = Value.int .i64 ((cov Pi j + (if yf ≤ j ∧ j < k + 1 then 1 else 0) : Nat) : Int)
              by_cases h5 : yf ≤ j ∧ j < k
              · rw [if_pos h5, if_pos (by omega)]
              · rw [if_neg h5, if_neg (by omega)]), HE.out.setCell _ _ (.inl (by simp))⟩
          case measure => simp [intOf]; omega
        · obtain rfl : k = yt := by omega
          have HC := Lib.hid hC
          have HE := Lib.hid hE
          clear hC hE hC2
          gi_wp2
          refine ⟨X, RoundEnd.of (N := [w2.heap.size]) HXW.out HX2.out HR.out HE.out (fun k hk => ⟨.inl hk, by simp at hk; omega⟩) (fun q hq => ⟨.inl hq, by have := (hX q hq).2.1; have := HX2.out.size; have := HE.out.size; have := HXW.out.size; omega⟩), ?_⟩
          unfold CntI
          rw [HNext.out]
          exact HC.out.congr (fun q _ => by unfold CntC; rw [cov_snoc])
    case done =>
      rintro D2 X We hD2 hED2 hC hx' hX
      have hC : Cells We w2.heap.size 4096 (CntC (withP L a b ++ (SpI.gapsB L a b).take (SpI.pairsG (SpI.gapsB L a b)).length)) := hC
      rw [hvl2, List.take_length] at hC
      have hA5 := (HA4.out.ext hx5 (by simp)).ext hx' (by simp; have := HAl.out; omega)
      have a1 := hA5.cell 1
      have a2 := hA5.cell 2
      have HS5 := Lib.hid ((HS4.out.ext hx5 (by simp)).ext hx' (by simp))
      have HXe := Lib.hid ((HXd.out.trans hx5).step hx' (fun k hk => .inr (by simp at hk; have := HAl.out; omega)))
      have HYe := Lib.hid ((show Ext [w2.heap.size] Wd W5 from hx5.mono (by simp)).trans hx')
      have HCe := Lib.hid hC
      have hse := hx'.size
      have HT2 := Lib.hid (fun q => (cov_append (withP L a b) (SpI.gapsB L a b) q).trans (HT.out q))
      clear hit hX hC hx5
      gi_wp2_with (gi_at_call 33; refine CallsIn.mono (callsIn_of_calls (CY.out _)) ?_; rintro e w' ⟨rfl, rfl⟩)
      gi_loopw [15] (fun v wr => ∃ k : Nat, k ≤ 4096 ∧ v = .int .i64 k ∧ wr = We) (fun v _ => 4096 - (intOf v).toNat)
      case atStart => exact ⟨0, by omega, rfl, rfl⟩
      case round =>
        obtain ⟨k, hk, rfl, rfl⟩ := hrel
        have ks := HS5.out.cell 0
        by_cases hlt : k < 4096
        · have hck : wr.cell? ⟨w2.heap.size, k, none⟩ = some (.int .i64 ((cov (withP L a b ++ SpI.gapsB L a b) k : Nat) : Int)) := HCe.out.cell hlt
          rw [HT2.out k] at hck
          have q2 : decide ((k : Int) < 4096) = true := by simp; omega
          have q3 : decide (k < 4096) = true := by simp; omega
          have q4 : (0 : Int) ≤ (k : Int) := by omega
          have q5 : (k : Int) < 4096 := by omega
          cases m
          · rw [if_neg (by simp)] at hck
            gi_wp2
            go_roundw
            case rel => exact ⟨k + 1, by omega, by go_num, trivial⟩
            case measure => simp [intOf]; omega
          · by_cases ha : a ≤ (k : Int)
            · by_cases hb : (k : Int) < b
              · rw [if_pos ⟨rfl, ha, hb⟩] at hck
                gi_wp2
                go_roundw
                case rel => exact ⟨k + 1, by omega, by go_num, trivial⟩
                case measure => simp [intOf]; omega
              · rw [if_neg (by simp [hb])] at hck
                gi_wp2
                go_roundw
                case rel => exact ⟨k + 1, by omega, by go_num, trivial⟩
                case measure => simp [intOf]; omega
            · rw [if_neg (by simp [ha])] at hck
              gi_wp2
              go_roundw
              case rel => exact ⟨k + 1, by omega, by go_num, trivial⟩
              case measure => simp [intOf]; omega
        · obtain rfl : k = 4096 := by omega
          gi_wp2_with (gi_at_call 18; refine CallsIn.mono (callsIn_of_calls (CW.out _)) ?_; rintro e wh ⟨rfl, hxh⟩; have XH := Lib.hid hxh; clear hxh)
          have hl1 : D1 < Wd.heap.size := by have h := hED1; unfold Emp at h; exact (Array.getElem?_eq_some_iff.1 h).1
          have hl2 : D2 < wr.heap.size := by have h := hED2; unfold Emp at h; exact (Array.getElem?_eq_some_iff.1 h).1
          refine leaves_marks [D2, D1] _ (fun q hq => ?_) ?_ (fun w' hx' hs' => ⟨_, results_tmp rfl _ _ _, rfl, ?_⟩)
          · have hq' : q = D2 ∨ q = D1 := by simpa using hq
            rcases hq' with rfl | rfl
            · exact (XH.out.block q hl2 (by simp)).trans hED2
            · exact (XH.out.block q (by omega) (by simp)).trans ((HYe.out.block q hl1 (by simp; omega)).trans hED1)
          · simp; omega
          · exact (HXe.out.trans XH.out).step hx' (fun k hk => .inr (by simp at hk; have := HAl.out; omega))

end Go.Proofs.Ytkcaheedhbgmnaa
