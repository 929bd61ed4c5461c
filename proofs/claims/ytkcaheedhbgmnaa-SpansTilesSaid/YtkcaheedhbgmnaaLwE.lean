/-
  Spans' laws: SpansApart, walked.
-/
import Derived.Test.YtkcaheedhbgmnaaLwD
namespace Go.Proofs.Ytkcaheedhbgmnaa
set_option linter.unusedVariables false
set_option linter.unusedSimpArgs false
open Go.RowKit SpT
set_option maxHeartbeats 4000000
set_option maxRecDepth 100000
set_option linter.unusedSectionVars false

/-- goes, over all of a map, where the list was made in between. -/
theorem goes_all2 (W0 : World) (bm : Nat) (L : List (Sp Int)) (hm : SpI.MapIs W0 bm L) (hL : L.length ≤ 4096) (hv : Small L) (m : Int) (hmost : 0 ≤ m ∧ m ≤ 100000) (v : Value) (B0 : Nat) (w : World) (hw : Ext [] (W0.alloc (.cells #[.pointer (some ⟨bm, 0, none⟩)] 23)) w) (hrow : SpR.SRow w B0 v L) :
    Calls Try.prog 15 #[.func (.func 55) #[] #[.pointer (some ⟨W0.heap.size, 0, none⟩)], v, .int .i64 m] w fun e w' => e = .returned (.bool true) ∧ Ext [] w w' := by
  obtain ⟨most, rfl⟩ := Int.eq_ofNat_of_zero_le hmost.1
  obtain ⟨Kq, hA⟩ := hm.all hL
  have hx : Ext [] W0 (W0.alloc (.cells #[.pointer (some ⟨bm, 0, none⟩)] 23)) := (Ext.refl _ _).alloc _
  have hit := (hA.ext hx (by simp)).it _ W0.heap.size (fun _ _ => rfl) (Blk.new W0 [.pointer (some ⟨bm, 0, none⟩)] _)
  have hkl : ∀ b, b ∈ W0.heap.size :: Kq → b < (W0.alloc (.cells #[.pointer (some ⟨bm, 0, none⟩)] 23)).heap.size := fun b hb => by
    rcases List.mem_cons.1 hb with rfl | hb
    · simp
    · have := hA.lt b hb; simp; omega
  exact goes_c 55 _ _ L _ hit (Go.Proofs.enters_of Try.func55 (by kernel_rfl) rfl) hL hv most (by omega) _ hw.size (fun b hb => ⟨hkl b hb, hw.block b (hkl b hb) (by simp)⟩) B0 v hrow

theorem Maps.lts {w : World} {bm br bv : Nat} {L : List (Sp Int)} {f : Nat → Int} (h : Maps w bm br bv L f) : bm < w.heap.size ∧ br < w.heap.size ∧ bv < w.heap.size := ⟨h.map.lt, h.ref.head.lt, h.ref.vals.lt⟩
/-- What is done to one pair leaves another as it is. -/
theorem Maps.other {w w' : World} {bm br bv bc bs sv : Nat} {L L' : List (Sp Int)} {f f' : Nat → Int} (h : Maps w bm br bv L f) (h' : Maps w bc bs sv L' f') (hx : Ext [bc, sv] w w') (n1 : bm ≠ bc ∧ bm ≠ sv) (n2 : br ≠ bc ∧ br ≠ sv) (n3 : bv ≠ bc ∧ bv ≠ sv) : Maps w' bm br bv L f :=
  h.ext hx (by simp [n1]) (by simp [n2]) (by simp [n3]) (fun q hq => by
    have hq' : q = bc ∨ q = sv := by simpa using hq
    rcases hq' with rfl | rfl
    · exact h'.map.noRow
    · exact h'.ref.tag.noRow)
theorem take_ge {α β : Type} (g : β → α → β) (b : β) {l : List α} {k : Nat} (h : ¬ k < l.length) : (l.take (k + 1)).foldl g b = (l.take k).foldl g b := by
  rw [List.take_of_length_le (by omega), List.take_of_length_le (by omega)]

/-- Both pairs, behind some acts of each. -/
structure Two (w wr : World) (bm br bv bc bs sv : Nat) (l a b : List SAct) (k : Nat) : Prop where
  ext : Ext [] w wr
  one : Maps wr bm br bv ((a.take k).foldl actL (madeL l)) ((a.take k).foldl actF (madeF l))
  two : Maps wr bc bs sv ((b.take k).foldl actL (madeL l)) ((b.take k).foldl actF (madeF l))
structure Six (w : World) (bm br bv bc bs sv : Nat) : Prop where
  lo : w.heap.size ≤ bm ∧ w.heap.size ≤ br ∧ w.heap.size ≤ bv ∧ w.heap.size ≤ bc ∧ w.heap.size ≤ bs ∧ w.heap.size ≤ sv
  n1 : bm ≠ bc ∧ bm ≠ sv
  n2 : br ≠ bc ∧ br ≠ sv
  n3 : bv ≠ bc ∧ bv ≠ sv
  m1 : bc ≠ bm ∧ bc ≠ bv
  m2 : bs ≠ bm ∧ bs ≠ bv
  m3 : sv ≠ bm ∧ sv ≠ bv

theorem spansApart_c (v va vb : Value) (l a b : List SAct) (w : World) (hl : SActs w v l) (ha : SActs w va a) (hb : SActs w vb b) :
    Calls Try.prog 5 #[v, va, vb] w fun e w' => e = .returned (.bool true) ∧ Ext [] w w' := by
  obtain ⟨al, cl, rfl, hlen, _⟩ := hl.form
  obtain ⟨aa, ca, rfl, halen, hA⟩ := ha.form
  obtain ⟨ab, cb, rfl, hblen, hB⟩ := hb.form
  have CM := Lib.hid (made8_c w _ l hl)
  have HLM := Lib.hid (fun w' (hx : Ext [] w w') => made8_c w' _ l (hl.ext_new hx (by simp)))
  have hbo := made_both l hl.2
  have HBO := Lib.hid hbo
  have HLen := Lib.hid hbo.1.len
  have HSm := Lib.hid (fun (q : List SAct) (hq : ∀ x, x ∈ q → x.ok) => (⟨both_from hbo q hq, Both.small (both_from hbo q hq) (from_small (from_small (fun _ => .inl rfl) l hl.2) q hq)⟩ : Both (q.foldl actL (madeL l)) (q.foldl actF (madeF l)) ∧ Small (q.foldl actL (madeL l))))
  have CW := Lib.hid (fun w => awake08_c w)
  have HA := Lib.hid hA
  have HB := Lib.hid hB
  unfold maxLen at halen hblen
  unfold Made8 at CM HLM
  clear hA hB hl ha hb hbo hlen
  go_enter Try.func5, Try.ntmps5
  go_wp2_with (first
    | (go_at_call 13; (with_reducible refine (CM.out).mono ?_); rintro e w1 ⟨bm, br, bv, rfl, h1, h2, h3, hM, hx1⟩; have HM := Lib.hid hM; have X1 := Lib.hid hx1; have H123 := Lib.hid (⟨h1, h2, h3⟩ : _ ∧ _ ∧ _); clear hM hx1 h1 h2 h3 CM)
    | (go_at_call 29; refine (SpI.copy_c _ bm _ HM.out.map HLen.out).mono ?_; rintro e w2 ⟨bc, rfl, h4, hmc, hx2⟩; have HC := Lib.hid hmc; have X2 := Lib.hid (X1.out.trans hx2); have HM2 := Lib.hid (HM.out.ext0 hx2); have H4 := Lib.hid h4; clear hmc hx2 h4)
    | (go_at_call 13; (with_reducible refine (HLM.out _ X2.out).mono ?_); rintro e w3 ⟨bc0, bs, sv, rfl, h5, h6, h7, hM3, hx3⟩; have HM3 := Lib.hid hM3; have X3 := Lib.hid (X2.out.trans hx3); have HM4 := Lib.hid (HM2.out.ext0 hx3); have HC3 := Lib.hid (HC.out.ext0 hx3); have H67 := Lib.hid (And.intro h6 h7); clear hM3 hx3 h5 h6 h7))
  have hcl := HC.out.lt
  have hml := HM.out.lts
  have h123 := H123.out
  have h4 := H4.out
  have h67 := H67.out
  have hS := X1.out.size
  have HSix := Lib.hid (⟨by have := X2.out.size; omega, by omega, by omega, by omega, by omega, by have := X2.out.size; omega, by omega⟩ : Six w bm br bv bc bs sv)
  have hT0 : Two w w3 bm br bv bc bs sv l a b 0 := ⟨X3.out, HM4.out, ⟨HC3.out, HM3.out.ref, by omega⟩⟩
  have HT0 := Lib.hid hT0
  clear hcl hml h123 h4 h67 hT0 hS
  go_loopw [14] (fun i wr => ∃ k : Nat, (k ≤ a.length ∨ k ≤ b.length) ∧ i = .int .i64 k ∧ Two w wr bm br bv bc bs sv l a b k) (fun i _ => max a.length b.length - (intOf i).toNat)
  case atStart => exact ⟨0, .inl (Nat.zero_le _), rfl, HT0.out⟩
  case round =>
    obtain ⟨k, hk, rfl, hT⟩ := hrel
    have HT := Lib.hid hT
    have hx := hT.ext
    have i0 : (0 : Int) ≤ (k : Int) := by omega
    have P1 := Lib.hid (fun (h : k < a.length) => play8_c wr bm br bv _ _ HT.out.one ((HSm.out _ (take_ok HA.out.2 k)).1.1.len) a[k] (HA.out.2 _ (List.getElem_mem h)))
    have P2 := Lib.hid (fun (h : k < b.length) (W : World) (hm : Maps W bc bs sv ((b.take k).foldl actL (madeL l)) ((b.take k).foldl actF (madeF l))) => play8_c W bc bs sv _ _ hm ((HSm.out _ (take_ok HB.out.2 k)).1.1.len) b[k] (HB.out.2 _ (List.getElem_mem h)))
    by_cases hka : k < a.length
    · obtain ⟨qa, oa, rfl, hqa, hac⟩ := (HA.out.ext_new hx (by simp)).at_ hka
      have Q1 := Lib.hid (P1.out hka)
      have F1 := Lib.hid (show (a.take (k + 1)).foldl actL (madeL l) = actL ((a.take k).foldl actL (madeL l)) a[k] from foldl_take _ _ hka)
      have F2 := Lib.hid (show (a.take (k + 1)).foldl actF (madeF l) = actF ((a.take k).foldl actF (madeF l)) a[k] from foldl_take _ _ hka)
      generalize hp : a[k] = p at *
      obtain ⟨g0, g1, g2, g3⟩ := hac
      obtain ⟨cl1, a1, b1, v1⟩ := p
      unfold SAct.cells at Q1
      have i1 : (k : Int) < (a.length : Int) := by omega
      by_cases hkb : k < b.length
      · have G1 := Lib.hid (show (b.take (k + 1)).foldl actL (madeL l) = actL ((b.take k).foldl actL (madeL l)) b[k] from foldl_take _ _ hkb)
        have G2 := Lib.hid (show (b.take (k + 1)).foldl actF (madeF l) = actF ((b.take k).foldl actF (madeF l)) b[k] from foldl_take _ _ hkb)
        obtain ⟨qb, ob, rfl, hqb, _⟩ := (HB.out.ext_new hx (by simp)).at_ hkb
        have Q2 := Lib.hid (P2.out hkb)
        have HBC := Lib.hid (fun (W : World) (hW : Ext [] w W) => (show SActAt W qb ob k b[k] from by
          obtain ⟨q', o', he, _, hc⟩ := (HB.out.ext_new hW (by simp)).at_ hkb
          cases he; exact hc))
        generalize hp2 : b[k] = p2 at *
        obtain ⟨cl2, a2, b2, v2⟩ := p2
        unfold SAct.cells at Q2
        have j1 : (k : Int) < (b.length : Int) := by omega
        have k0 := (HBC.out _ hx).c0
        clear hx hT hqa hqb hp hp2 P1 P2 k0
        go_wp2_with (first
          | (go_at_call 30; (with_reducible refine (Q1.out).mono ?_); rintro e w4 ⟨rfl, hx4, hM4⟩; have HX4 := Lib.hid (HT.out.ext.step hx4 (fun i hi => .inr (by have := HSix.out.lo; simp at hi; omega))); have HM41 := Lib.hid hM4; have HM42 := Lib.hid (HT.out.two.other HT.out.one hx4 HSix.out.m1 HSix.out.m2 HSix.out.m3); have hk4 := HBC.out _ HX4.out; have r0 := hk4.c0; have r1 := hk4.c1; have r2 := hk4.c2; have r3 := hk4.c3; have Q3 := Lib.hid (Q2.out _ HM42.out); clear hx4 hM4 hk4)
          | (go_at_call 30; (with_reducible refine (Q3.out).mono ?_); rintro e w5 ⟨rfl, hx5, hM5⟩; have HX5 := Lib.hid (HX4.out.step hx5 (fun i hi => .inr (by have := HSix.out.lo; simp at hi; omega))); have HM51 := Lib.hid (HM41.out.other HM42.out hx5 HSix.out.n1 HSix.out.n2 HSix.out.n3); have HM52 := Lib.hid hM5; clear hx5 hM5))
        go_roundw
        case rel => exact ⟨k + 1, .inl (by omega), by go_num, HX5.out, by rw [F1.out, F2.out]; exact HM51.out, by rw [G1.out, G2.out]; exact HM52.out⟩
        case measure => simp [intOf]; omega
      · have G1 := Lib.hid (show (b.take (k + 1)).foldl actL (madeL l) = (b.take k).foldl actL (madeL l) from take_ge _ _ hkb)
        have G2 := Lib.hid (show (b.take (k + 1)).foldl actF (madeF l) = (b.take k).foldl actF (madeF l) from take_ge _ _ hkb)
        clear hx hT hqa hp P1 P2
        go_wp2_with (go_at_call 30; refine (Q1.out).mono ?_; rintro e w4 ⟨rfl, hx4, hM4⟩; have HX4 := Lib.hid hx4; have HM41 := Lib.hid hM4; have HM42 := Lib.hid (HT.out.two.other HT.out.one hx4 HSix.out.m1 HSix.out.m2 HSix.out.m3); clear hx4 hM4)
        go_roundw
        case rel =>
          refine ⟨k + 1, .inl (by omega), by go_num, HT.out.ext.step HX4.out (fun i hi => .inr ?_), by rw [F1.out, F2.out]; exact HM41.out, by rw [G1.out, G2.out]; exact HM42.out⟩
          have := HSix.out.lo
          simp at hi; omega
        case measure => simp [intOf]; omega
    · have F1 := Lib.hid (show (a.take (k + 1)).foldl actL (madeL l) = (a.take k).foldl actL (madeL l) from take_ge _ _ hka)
      have F2 := Lib.hid (show (a.take (k + 1)).foldl actF (madeF l) = (a.take k).foldl actF (madeF l) from take_ge _ _ hka)
      by_cases hkb : k < b.length
      · have G1 := Lib.hid (show (b.take (k + 1)).foldl actL (madeL l) = actL ((b.take k).foldl actL (madeL l)) b[k] from foldl_take _ _ hkb)
        have G2 := Lib.hid (show (b.take (k + 1)).foldl actF (madeF l) = actF ((b.take k).foldl actF (madeF l)) b[k] from foldl_take _ _ hkb)
        obtain ⟨qb, ob, rfl, hqb, hac⟩ := (HB.out.ext_new hx (by simp)).at_ hkb
        have Q2 := Lib.hid (P2.out hkb _ HT.out.two)
        generalize hp2 : b[k] = p2 at *
        obtain ⟨g0, g1, g2, g3⟩ := hac
        obtain ⟨cl2, a2, b2, v2⟩ := p2
        unfold SAct.cells at Q2
        have j1 : (k : Int) < (b.length : Int) := by omega
        clear hx hT hqb hp2 P1 P2
        go_wp2_with (go_at_call 30; refine (Q2.out).mono ?_; rintro e w5 ⟨rfl, hx5, hM5⟩; have HX5 := Lib.hid (HT.out.ext.step hx5 (fun i hi => .inr (by have := HSix.out.lo; simp at hi; omega))); have HM51 := Lib.hid (HT.out.one.other HT.out.two hx5 HSix.out.n1 HSix.out.n2 HSix.out.n3); have HM52 := Lib.hid hM5; clear hx5 hM5)
        go_roundw
        case rel => exact ⟨k + 1, .inr (by omega), by go_num, HX5.out, by rw [F1.out, F2.out]; exact HM51.out, by rw [G1.out, G2.out]; exact HM52.out⟩
        case measure => simp [intOf]; omega
      · have e1 : a.take k = a := List.take_of_length_le (by omega)
        have e2 : b.take k = b := List.take_of_length_le (by omega)
        have hT' := HT.out
        rw [show Two w wr bm br bv bc bs sv l a b k ↔ Two w wr bm br bv bc bs sv l a b k from Iff.rfl] at hT'
        have S1 := Lib.hid (HSm.out a HA.out.2)
        have S2 := Lib.hid (HSm.out b HB.out.2)
        have hM1 := HT.out.one
        have hM2 := HT.out.two
        rw [e1] at hM1
        rw [e2] at hM2
        have HX := Lib.hid hx
        have M1 := Lib.hid hM1
        have M2 := Lib.hid hM2
        have E1 := Lib.hid S1.out.1.all
        have E2 := Lib.hid S2.out.1.all
        have N1 := Lib.hid S1.out.1.1.len
        have N2 := Lib.hid S2.out.1.1.len
        have V1 := Lib.hid S1.out.2
        have V2 := Lib.hid S2.out.2
        generalize a.foldl actL (madeL l) = L1 at *
        generalize a.foldl actF (madeF l) = f1 at *
        generalize b.foldl actL (madeL l) = L2 at *
        generalize b.foldl actF (madeF l) = f2 at *
        clear hx hT hT' hM1 hM2 e1 e2 P1 P2 F1 F2 HSm S1 S2 HT
        have X1a := Lib.hid ((Ext.refl [] wr).alloc (.cells #[.pointer (some ⟨bm, 0, none⟩)] 23))
        go_wp2_with (first
          | (go_at_call 16; refine (SpI.all_c _ _).mono ?_; rintro e w' ⟨rfl, rfl⟩)
          | (go_at_call 14; (with_reducible refine (rwithin_c _ br bv f1 (M1.out.ref.ext0 X1a.out) 0 4096).mono ?_); rintro e w4 ⟨v4, rfl, hr4, hx4⟩; rw [← E1.out] at hr4; obtain ⟨a4, c4, rfl, _, _⟩ := ownsRow_form hr4; have X4 := Lib.hid (X1a.out.trans hx4); have C1 := Lib.hid (goes_all2 wr bm L1 M1.out.map N1.out V1.out 9999 (by omega) _ _ w4 hx4 hr4); clear hr4 hx4)
          | (go_at_call 15; (with_reducible refine (C1.out).mono ?_); rintro e w5 ⟨rfl, hx5⟩; have X5 := Lib.hid (X4.out.trans hx5); have M5 := Lib.hid (M2.out.ext0 X5.out); have X6 := Lib.hid ((Ext.refl [] w5).alloc (.cells #[.pointer (some ⟨bc, 0, none⟩)] 23)); clear hx5)
          | (go_at_call 14; (with_reducible refine (rwithin_c _ bs sv f2 (M5.out.ref.ext0 X6.out) 0 4096).mono ?_); rintro e w6 ⟨v6, rfl, hr6, hx6⟩; rw [← E2.out] at hr6; obtain ⟨a6, c6, rfl, _, _⟩ := ownsRow_form hr6; have X7 := Lib.hid ((X5.out.trans X6.out).trans hx6); have C2 := Lib.hid (goes_all2 w5 bc L2 M5.out.map N2.out V2.out 9999 (by omega) _ _ w6 hx6 hr6); clear hr6 hx6)
          | (go_at_call 15; (with_reducible refine (C2.out).mono ?_); rintro e w7 ⟨rfl, hx7⟩; have X8 := Lib.hid (X7.out.trans hx7); clear hx7)
          | (go_at_call 18; refine (CW.out _).mono ?_; rintro e w8 ⟨rfl, hx8⟩; have X9 := Lib.hid (X8.out.trans hx8); clear hx8))
        go_ret
        exact ⟨rfl, HX.out.trans X9.out⟩

end Go.Proofs.Ytkcaheedhbgmnaa
