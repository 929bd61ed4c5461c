/-
  Buddy's reference: Alloc.
-/
import Derived.Test.YtkpnmknkimlnaaaBrC
import Derived.Deep.RegionLaw
namespace Go.Proofs.Ytkpnmknkimlnaaa
set_option linter.unusedVariables false
set_option linter.unusedSimpArgs false
open Go.RowKit BuT
set_option maxHeartbeats 4000000
set_option maxRecDepth 100000
set_option linter.unusedVariables false
set_option linter.unusedSimpArgs false

theorem rspl_step (f : Int) : ∀ (M m : Nat) (l : List Bk), m < M → rspl f m M l = withB ⟨f + 2 ^ m, m⟩ (rspl f (m + 1) M l)
  | 0, _, _, h => by omega
  | M + 1, m, l, h => by
    rw [rspl, if_pos (show m ≤ M by omega)]
    rcases Nat.lt_or_ge m M with h1 | h1
    · conv => rhs; rw [rspl, if_pos (show m + 1 ≤ M by omega)]
      exact rspl_step f M m _ h1
    · obtain rfl : m = M := by omega
      conv => rhs; rw [rspl, if_neg (by omega)]
      cases m with
      | zero => rfl
      | succ m => rw [rspl, if_neg (by omega)]
theorem rspl_top (f : Int) (M : Nat) (l : List Bk) : rspl f M M l = l := by
  cases M with
  | zero => rfl
  | succ m => rw [rspl, if_neg (by omega)]
theorem rspl_len (f : Int) (o : Nat) : ∀ (M : Nat) (l : List Bk), (rspl f o M l).length ≤ l.length + M
  | 0, l => by simp [rspl]
  | M + 1, l => by
    unfold rspl; split
    · have := rspl_len f o M (withB ⟨f + 2 ^ M, M⟩ l); rw [withB_len] at this; omega
    · omega
theorem withoutB_len {l : List Bk} {k : Nat} (h : k < l.length) : (withoutB l k).length + 1 = l.length := by
  unfold withoutB; simp; omega

theorem ralloc_bad (w : World) (p : Value) (o : Int) (ho : o < 0 ∨ 9 < o) : Calls Try.prog 60 #[p, .int .i64 o] w fun e w' => e = .returned (.tuple #[.int .i64 0, .int .i64 1]) ∧ w = w' := by
  rcases ho with ho | ho
  all_goals
    go_enter Try.func60, Try.ntmps60
    go_wp2
    all_goals
      go_ret2
      exact ⟨rfl, rfl⟩

def RAlRet (w : World) (rp : Nat) (K : List Nat) (F n : Nat) (fr tk : List Bk) (o : Nat) (B : Option Nat) (e : Ending) (w' : World) : Prop :=
  match B with
  | none => e = .returned (.tuple #[.int .i64 0, .int .i64 6]) ∧ Ext [] w w'
  | some i => e = .returned (.tuple #[.int .i64 (fr.getD i bk0).f, .int .i64 0]) ∧ Ext [rp] w w' ∧ RB w' rp K F n (rspl (fr.getD i bk0).f o (fr.getD i bk0).o.toNat (withoutB fr i)) (withB ⟨(fr.getD i bk0).f, o⟩ tk)
theorem getD_at {l : List Bk} {k : Nat} (h : k < l.length) : l.getD k bk0 = l[k] := by simp [List.getD_eq_getElem?_getD, List.getElem?_eq_getElem h]
def bestW : Option Nat → Int
  | none => -1
  | some p => (p : Int)

theorem ralloc_c (w : World) (rp : Nat) (K : List Nat) (F n : Nat) (fr tk : List Bk) (h : RB w rp K F n fr tk) (hK : ∀ b, b ∈ K → b < w.heap.size) (ho : Ords fr) (hfr : ∀ x, x ∈ fr → 0 ≤ x.f ∧ x.f ≤ 10000) (hl : fr.length ≤ 1024) (hl2 : tk.length ≤ 1024) (o : Nat) (ho9 : o ≤ 9) :
    Calls Try.prog 60 #[.pointer (some ⟨rp, 0, none⟩), .int .i64 (o : Int)] w (RAlRet w rp K F n fr tk o (bestR fr o fr.length)) := by
  obtain ⟨vF, vT, hR⟩ := h
  have hrp := hR.head.lt
  have o0 : decide ((o : Int) < 0) = false := by simp
  have o1 : (o : Int) ≤ 9 := by omega
  have o2 : decide (9 < (o : Int)) = false := by simp; omega
  have o3 : decide ((o : Int) > 9) = false := by simp; omega
  have HR := Lib.hid hR
  have HO := Lib.hid ho
  have HFR := Lib.hid hfr
  have HK := Lib.hid hK
  obtain ⟨a, c, rfl, h1, h2, _, _⟩ := BSl.of hR.free
  have c2 := hR.head.cell 2
  unfold maxLen at h2
  clear hR ho hK hfr
  go_enter Try.func60, Try.ntmps60
  go_wp2
  go_loopw [6, 7] (fun b i wr => ∃ k : Nat, k ≤ fr.length ∧ i = .int .i64 k ∧ b = .int .i64 (bestW (bestR fr o k)) ∧ Ext [] w wr) (fun _ i _ => fr.length - (intOf i).toNat)
  case atStart => exact ⟨0, by omega, rfl, rfl, Ext.refl _ _⟩
  case round =>
    obtain ⟨k, hk, rfl, rfl, hx⟩ := hrel
    have Hr := HR.out.ext0 hx
    have c2 := Hr.head.cell 2
    have HX := Lib.hid hx
    by_cases hlt : k < fr.length
    · obtain ⟨_, _, e, _, _, _, h4⟩ := BSl.of Hr.free
      cases e
      obtain ⟨g, rfl, hg, q0, q1⟩ := h4 k hlt
      have H4 := Lib.hid h4
      have i0 : (0 : Int) ≤ (k : Int) := by omega
      have i1 : (k : Int) < (fr.length : Int) := by omega
      have hgd := getD_at hlt
      have HGD := Lib.hid hgd
      clear hx Hr h4 q0 hgd
      by_cases e2 : (o : Int) ≤ fr[k].o
      · cases hB : bestR fr o k with
        | none =>
          have HN := Lib.hid (show bestR fr o (k + 1) = some k by rw [bestR, if_pos ⟨by rw [HGD.out]; exact e2, fun b hb => by rw [hB] at hb; cases hb⟩])
          have d1 : decide (fr[k].o ≥ (o : Int)) = true := by simpa using e2
          clear hB
          generalize fr[k].o = d at *
          simp only [bestW] at *
          go_wp2
          go_quiet (fail)
          go_wp2
          go_roundw
          case rel => exact ⟨k + 1, by omega, by go_num, by rw [HN.out], HX.out.drewN nq⟩
          case measure => simp [intOf]; omega
        | some p =>
          obtain ⟨hp1, hp2⟩ := bestR_lt hB
          obtain ⟨g', e, hg', _, q3⟩ := H4.out p (by omega)
          cases e
          have p0 : (0 : Int) ≤ (p : Int) := by omega
          have p1 : (p : Int) < (fr.length : Int) := by omega
          have p2 : decide ((p : Int) < 0) = false := by simp
          have d1 : decide (fr[k].o ≥ (o : Int)) = true := by simpa using e2
          have HPD := Lib.hid (getD_at (show p < fr.length by omega))
          by_cases e3 : fr[k].o < fr[p].o
          · have HN := Lib.hid (show bestR fr o (k + 1) = some k by rw [bestR, if_pos ⟨by rw [HGD.out]; exact e2, fun b hb => by rw [hB] at hb; cases hb; rw [HGD.out, HPD.out]; exact e3⟩])
            have d2 : decide (fr[k].o < fr[p].o) = true := by simpa using e3
            clear hB hp2
            generalize fr[k].o = d at *
            generalize fr[p].o = dp at *
            simp only [bestW] at *
            go_wp2
            go_quiet (fail)
            go_wp2
            go_roundw
            case rel => exact ⟨k + 1, by omega, by go_num, by rw [HN.out], HX.out.drewN nq⟩
            case measure => simp [intOf]; omega
          · have HN := Lib.hid (show bestR fr o (k + 1) = some p by rw [bestR, if_neg (fun hh => e3 (by have := hh.2 p hB; rwa [HGD.out, HPD.out] at this)), hB])
            have d2 : decide (fr[k].o < fr[p].o) = false := by simpa using e3
            clear hB hp2
            generalize fr[k].o = d at *
            generalize fr[p].o = dp at *
            simp only [bestW] at *
            go_wp2
            go_quiet (fail)
            go_wp2
            go_roundw
            case rel => exact ⟨k + 1, by omega, by go_num, by rw [HN.out], HX.out.drewN nq⟩
            case measure => simp [intOf]; omega
      · have HN := Lib.hid (show bestR fr o (k + 1) = bestR fr o k by rw [bestR, if_neg (fun hh => e2 (by have := hh.1; rwa [HGD.out] at this))])
        have d1 : decide (fr[k].o ≥ (o : Int)) = false := by simpa using e2
        generalize fr[k].o = d at *
        generalize hbv : bestW (bestR fr o k) = bv at *
        have HBV := Lib.hid hbv
        clear hbv
        go_wp2
        go_quiet (fail)
        go_wp2
        go_roundw
        case rel => exact ⟨k + 1, by omega, by go_num, by rw [HN.out, HBV.out], HX.out.drewN nq⟩
        case measure => simp [intOf]; omega
    · obtain rfl : k = fr.length := by omega
      cases hB : bestR fr o fr.length with
      | none =>
        simp only [bestW] at *
        have HB := Lib.hid hB
        clear hB hx
        go_wp2
        go_ret2
        rw [HB.out]
        exact ⟨rfl, HX.out⟩
      | some p =>
        obtain ⟨hp1, hp2⟩ := bestR_lt hB
        have HB := Lib.hid hB
        obtain ⟨_, _, e, _, _, _, h4⟩ := BSl.of Hr.free
        cases e
        obtain ⟨g, rfl, hg, q0, q1⟩ := h4 p hp1
        have hoo := HO.out fr[p] (List.getElem_mem hp1)
        have hff := HFR.out fr[p] (List.getElem_mem hp1)
        have hgd := getD_at hp1
        have HW := Lib.hid (withoutB_len hp1)
        have HR1 := Lib.hid Hr
        obtain ⟨xf, xo, hx2⟩ : ∃ xf xo, fr[p] = ⟨xf, xo⟩ := ⟨fr[p].f, fr[p].o, rfl⟩
        rw [hx2] at q0 q1 hoo hff
        simp only [] at q0 q1 hoo hff
        obtain ⟨M, rfl⟩ := Int.eq_ofNat_of_zero_le hoo.1
        have hM9 : M ≤ 9 := by omega
        have hcond : o ≤ M := by rw [hgd, hx2] at hp2; simpa using hp2
        have HGD := Lib.hid (hgd.trans hx2)
        have p0 : (0 : Int) ≤ (p : Int) := by omega
        have p1 : (p : Int) < (fr.length : Int) := by omega
        have p2 : decide ((p : Int) < 0) = false := by simp
        have hsz := hx.size
        -- x, boxed
        have hXA : Ext [] w (wr.alloc (.cells #[.int .i64 xf, .int .i64 (M : Int)] 76)) := hx.alloc _
        have HXA := Lib.hid hXA
        have HRA := Lib.hid (Hr.ext0 ((Ext.refl [] wr).alloc (.cells #[.int .i64 xf, .int .i64 (M : Int)] 76)))
        have HBX := Lib.hid (Blk.new wr [.int .i64 xf, .int .i64 (M : Int)] 76)
        have CWo := Lib.hid (without_c (wr.alloc (.cells #[.int .i64 xf, .int .i64 (M : Int)] 76)) 0 _ fr p HRA.out.free hp1 (by omega))
        have cA := HRA.out.head.cell 2
        clear hB h4 hx2 hgd hp2 Hr hXA
        simp only [bestW]
        go_wp2_with (go_at_call 71; refine (CWo.out).mono ?_; rintro e w2 ⟨v2, rfl, hb2, hx2⟩; obtain ⟨va2, vc2, hv2, _, _⟩ := ownsRow_form hb2; subst hv2; have HB2 := Lib.hid hb2; have HX2 := Lib.hid hx2; have hr2 := HRA.out.ext0 hx2; have d2 := hr2.head.cell 2; have g2 := hr2.head.frozen 2; have HR2 := Lib.hid hr2; clear hb2 hx2 hr2)
        obtain ⟨v2, hv2⟩ : ∃ v2, v2 = Value.slice va2 (withoutB fr p).length vc2 := ⟨_, rfl⟩
        rw [← hv2] at HB2 ⊢
        clear hv2
        have HR3 : Hid (RV (w2.setCell ⟨rp, 2, none⟩ v2) rp (wr.heap.size :: K) F n v2 vT (withoutB fr p) tk) := by
          have hb := HB2.out
          have hsA : (wr.alloc (.cells #[.int .i64 xf, .int .i64 (M : Int)] 76)).heap.size = wr.heap.size + 1 := by simp
          have h3 := HR2.out.setF hb (fun b hb' hm => by have := (hb.lt b hb').1; have := HK.out b hm; omega)
          refine ⟨h3.head, h3.free, h3.taken, fun b hb' hm => ?_, fun b hb' hm => ?_⟩
          · rcases List.mem_cons.1 hm with rfl | hm
            · have := (hb.lt _ hb').1; omega
            · exact h3.fK b hb' hm
          · rcases List.mem_cons.1 hm with rfl | hm
            · have := (HR1.out.taken.lt _ hb').2; omega
            · exact h3.tK b hb' hm
        have HX3 := Lib.hid ((((HXA.out.trans HX2.out).mono (N := [rp]) (by simp)).setCell ⟨rp, 2, none⟩ v2 (.inl (by simp))))
        have HBX3 := Lib.hid ((HBX.out.ext HX2.out (by simp)).set_ne (p := ⟨rp, 2, none⟩) v2 (by show wr.heap.size ≠ rp; omega))
        clear d2 g2
        generalize w2.setCell ⟨rp, 2, none⟩ v2 = w3 at *
        clear HB2
        obtain ⟨wo, rfl⟩ : ∃ wo : World, wo = wr := ⟨_, rfl⟩
        have hszo : w.heap.size ≤ wo.heap.size := hsz
        clear HXA HRA HBX CWo cA q0 q1 HR1 HX hx c2 HR HX2 HR2
        go_loopg [] (M - o) (fun g wx => ∃ (m : Nat) (vF : Value), o ≤ m ∧ m ≤ M ∧ g = m - o ∧ Ext [rp] w wx ∧ Blk wx wo.heap.size [.int .i64 xf, .int .i64 (m : Int)] 76 ∧ RV wx rp (wo.heap.size :: K) F n vF vT (rspl xf m M (withoutB fr p)) tk)
        case atStart => exact ⟨M, v2, hcond, Nat.le_refl _, rfl, HX3.out, HBX3.out, by rw [rspl_top]; exact HR3.out⟩
        case round =>
          obtain ⟨m, vF, hm1, hm2, hgk, hx4, hb4, hr4⟩ := hrel
          have x0 := hb4.cell 0
          have x1 := hb4.cell 1
          have xf1 := hb4.frozen 1
          have hszx := hx4.size
          by_cases hlt : o < m
          · obtain ⟨m', rfl⟩ : ∃ m', m = m' + 1 := ⟨m - 1, by omega⟩
            have hd : decide (((m' + 1 : Nat) : Int) > (o : Int)) = true := by simp; omega
            have hd' : decide (o < m' + 1) = true := by simp; omega
            have hd'' : decide ((o : Int) < (m' : Int) + 1) = true := by simp; omega
            have hb5 := hb4.set 1 (.int .i64 (m' : Int))
            have hx5 := hx4.setCell ⟨wo.heap.size, 1, none⟩ (.int .i64 (m' : Int)) (.inr (by show w.heap.size ≤ wo.heap.size; omega))
            have hr5 := hr4.ext ((Ext.refl [wo.heap.size] wr).setCell ⟨wo.heap.size, 1, none⟩ (.int .i64 (m' : Int)) (.inl (by simp))) (by simp; omega) (by simp)
            have HB5 : Hid (Blk (wr.setCell ⟨wo.heap.size, 1, none⟩ (.int .i64 (m' : Int))) wo.heap.size [.int .i64 xf, .int .i64 (m' : Int)] 76) := hb5
            have HX5 := Lib.hid hx5
            have HR5 := Lib.hid hr5
            clear hb5 hx5 hr5 hb4 hx4 hr4
            go_wp2
            have HBD := Lib.hid (HB5.out.ext (Ext.refl [] _).drew (by simp))
            have HXD := Lib.hid (HX5.out.drew)
            have HRD := Lib.hid (HR5.out.ext0 (Ext.refl [] _).drew)
            have e5 : (2 : Int) ^ m' = ((2 ^ m' : Nat) : Int) := by simp
            have CSz := Lib.hid (fun w => size_c m' (by omega) w)
            have hlen : (rspl xf (m' + 1) M (withoutB fr p)).length ≤ 4096 := by have := rspl_len xf (m' + 1) M (withoutB fr p); have := HW.out; omega
            have CWi := Lib.hid (with_c _ vF _ ⟨xf + 2 ^ m', (m' : Int)⟩ (BSl.of HRD.out.free) hlen)
            rw [e5] at CWi
            have HQ := Lib.hid e5
            have hq9 := pow_le9 (show m' ≤ 9 by omega)
            clear e5
            generalize 2 ^ m' = q at *
            obtain ⟨WL, hWL⟩ : ∃ WL, WL = withB ⟨xf + (q : Int), (m' : Int)⟩ (rspl xf (m' + 1) M (withoutB fr p)) := ⟨_, rfl⟩
            rw [← hWL] at CWi
            have HWL := Lib.hid hWL
            clear hWL
            have y2 := HRD.out.head.cell 2
            obtain ⟨vaF, vcF, hvF, _, _⟩ := ownsRow_form HRD.out.free
            subst hvF
            have z0 := HBD.out.cell 0
            have z1 := HBD.out.cell 1
            have hsum : IntKind.i64.wrap (xf + (q : Int)) = xf + (q : Int) := IntWalk.i64_in _ (by omega)
            refine wp_region_held_drew (S := fun cur => cur.cell? ⟨wo.heap.size, 0, none⟩ = some (.int .i64 xf) ∧ cur.cell? ⟨wo.heap.size, 1, none⟩ = some (.int .i64 (m' : Int))) (by kernel_rfl) ⟨z0, z1⟩ (fun hHeld => ?_)
            refine wpAnyH_take (i := 0) (v := ?_) rfl (by kernel_rfl) (by kernel_rfl) (by kernel_rfl) (fun _ _ _ h => h) (Or.inl ⟨by rfl, ?_⟩) (by assumption) ?_
            rotate_left
            · (intro w hSw; obtain ⟨hS0, hS1⟩ := hSw; first | (go_simp; done) | (go_simp; with_reducible rfl))
            try simp only [Act.put, List.setIfInBounds_toArray, List.set_cons_zero, List.set_cons_succ]
            refine wpAnyH_take (i := 1) (v := ?_) rfl (by kernel_rfl) (by kernel_rfl) (by kernel_rfl) (fun _ _ _ h => h) (Or.inl ⟨by rfl, ?_⟩) (by assumption) ?_
            rotate_left
            · (intro w hSw; obtain ⟨hS0, hS1⟩ := hSw; first | (go_simp; done) | (go_simp; with_reducible rfl))
            try simp only [Act.put, List.setIfInBounds_toArray, List.set_cons_zero, List.set_cons_succ]
            refine wpAnyH_take (i := 2) (v := ?_) rfl (by kernel_rfl) (by kernel_rfl) (by kernel_rfl) (fun _ _ _ h => h) (Or.inl ⟨by rfl, ?_⟩) (by assumption) ?_
            rotate_left
            · (intro w hSw; obtain ⟨hS0, hS1⟩ := hSw; first | (go_simp; done) | (go_simp; with_reducible rfl))
            try simp only [Act.put, List.setIfInBounds_toArray, List.set_cons_zero, List.set_cons_succ]
            refine wpAnyH_take (i := 3) (v := ?_) rfl (by kernel_rfl) (by kernel_rfl) (by kernel_rfl) (fun _ _ _ h => h) (Or.inl ⟨by rfl, ?_⟩) (by assumption) ?_
            rotate_left
            · (intro w hSw; obtain ⟨hS0, hS1⟩ := hSw; first | (go_simp; done) | (go_simp; with_reducible rfl))
            try simp only [Act.put, List.setIfInBounds_toArray, List.set_cons_zero, List.set_cons_succ]
            refine wpAnyH_take (i := 5) (v := ?_) rfl (by kernel_rfl) (by kernel_rfl) (by kernel_rfl) (fun _ _ _ h => h) (Or.inl ⟨by rfl, ?_⟩) (by assumption) ?_
            rotate_left
            · (intro w hSw; obtain ⟨hS0, hS1⟩ := hSw; first | (go_simp; done) | (go_simp; with_reducible rfl))
            try simp only [Act.put, List.setIfInBounds_toArray, List.set_cons_zero, List.set_cons_succ]
            refine wpAnyH_take (i := 6) (v := ?_) rfl (by kernel_rfl) (by kernel_rfl) (by kernel_rfl) (fun _ _ _ h => h) (Or.inl ⟨by rfl, ?_⟩) (by assumption) ?_
            rotate_left
            · (intro w hSw; obtain ⟨hS0, hS1⟩ := hSw; first | (go_simp; done) | (go_simp; with_reducible rfl))
            try simp only [Act.put, List.setIfInBounds_toArray, List.set_cons_zero, List.set_cons_succ]
            refine wpAnyH_take (i := 7) (v := ?_) rfl (by kernel_rfl) (by kernel_rfl) (by kernel_rfl) (fun _ _ _ h => h) (Or.inl ⟨by rfl, ?_⟩) (by assumption) ?_
            rotate_left
            · (intro w hSw; obtain ⟨hS0, hS1⟩ := hSw; first | (go_simp; done) | (go_simp; with_reducible rfl))
            try simp only [Act.put, List.setIfInBounds_toArray, List.set_cons_zero, List.set_cons_succ]
            refine wpAnyH_take (i := 8) (v := ?_) rfl (by kernel_rfl) (by kernel_rfl) (by kernel_rfl) (fun _ _ _ h => h) (Or.inl ⟨by rfl, ?_⟩) (by assumption) ?_
            rotate_left
            · (intro w hSw; obtain ⟨hS0, hS1⟩ := hSw; first | (go_simp; done) | (go_simp; with_reducible rfl))
            try simp only [Act.put, List.setIfInBounds_toArray, List.set_cons_zero, List.set_cons_succ]
            refine wpAnyH_take (i := 11) (v := ?_) rfl (by kernel_rfl) (by kernel_rfl) (by kernel_rfl) (fun _ _ _ h => h) (Or.inl ⟨by rfl, ?_⟩) (by assumption) ?_
            rotate_left
            · (intro w hSw; obtain ⟨hS0, hS1⟩ := hSw; first | (go_simp; done) | (go_simp; with_reducible rfl))
            try simp only [Act.put, List.setIfInBounds_toArray, List.set_cons_zero, List.set_cons_succ]
            refine wpAnyH_take (i := 12) (v := ?_) rfl (by kernel_rfl) (by kernel_rfl) (by kernel_rfl) (fun _ _ _ h => h) (Or.inl ⟨by rfl, ?_⟩) (by assumption) ?_
            rotate_left
            · (intro w hSw; obtain ⟨hS0, hS1⟩ := hSw; first | (go_simp; done) | (go_simp; with_reducible rfl))
            try simp only [Act.put, List.setIfInBounds_toArray, List.set_cons_zero, List.set_cons_succ]
            refine wpAnyH_ready (rs := [4, 9]) (by kernel_rfl) (by simp) ?_
            refine AllReadyH.cons rfl (fun K hK => ?_) (AllReadyH.cons rfl (fun K hK => ?_) AllReadyH.nil)
            · -- the list is read first
              go_simp
              refine hK.out _ _ (by assumption) (fun hHeld => ?_)
              clear hK K
              try simp only [Act.put, List.setIfInBounds_toArray, List.set_cons_zero, List.set_cons_succ]
              refine wpAnyH_ready (rs := [9]) (by kernel_rfl) (by simp) ?_
              refine AllReadyH.cons rfl (fun K hK => ?_) AllReadyH.nil
              go_simp
              refine (CSz.out _).mono ?_
              rintro e w' ⟨rfl, rfl⟩
              simp only []
              refine hK.out _ _ (by assumption) (fun hHeld => ?_)
              clear hK K
              try simp only [Act.put, List.setIfInBounds_toArray, List.set_cons_zero, List.set_cons_succ]
              refine wpAnyH_take (i := 10) (v := ?_) rfl (by kernel_rfl) (by kernel_rfl) (by kernel_rfl) (fun _ _ _ h => h) (Or.inl ⟨by rfl, ?_⟩) (by assumption) ?_
              rotate_left
              · (intro w hSw; obtain ⟨hS0, hS1⟩ := hSw; first | (go_simp; done) | (go_simp; with_reducible rfl))
              try simp only [Act.put, List.setIfInBounds_toArray, List.set_cons_zero, List.set_cons_succ]
              refine wpAnyH_take (i := 13) (v := ?_) rfl (by kernel_rfl) (by kernel_rfl) (by kernel_rfl) (fun _ _ _ h => h) (Or.inl ⟨by rfl, ?_⟩) (by assumption) ?_
              rotate_left
              · (intro w hSw; obtain ⟨hS0, hS1⟩ := hSw; first | (go_simp; done) | (go_simp; with_reducible rfl))
              try simp only [Act.put, List.setIfInBounds_toArray, List.set_cons_zero, List.set_cons_succ]
              refine wpAnyH_ready (rs := [14]) (by kernel_rfl) (by simp) ?_
              refine AllReadyH.cons rfl (fun K hK => ?_) AllReadyH.nil
              go_simp
              refine (CWi.out).mono ?_
              rintro e w6 ⟨v6, rfl, hb6, hx6⟩
              obtain ⟨va6, vc6, hv6, _, _⟩ := ownsRow_form hb6
              subst hv6
              simp only []
              have HB6 := Lib.hid hb6
              have HX6 := Lib.hid hx6
              have hr6 := HRD.out.ext0 hx6
              have z2 := hr6.head.cell 2
              have zf2 := hr6.head.frozen 2
              have HR6 := Lib.hid hr6
              have hbx6 := HBD.out.ext hx6 (by simp)
              have HBX6 := Lib.hid hbx6
              refine hK.out _ _ ⟨hbx6.cell 0, hbx6.cell 1⟩ (fun hHeld => ?_)
              clear hK K hb6 hx6 hr6 hbx6
              try simp only [Act.put, List.setIfInBounds_toArray, List.set_cons_zero, List.set_cons_succ]
              refine wpAnyH_take (i := 15) (v := ?_) rfl (by kernel_rfl) (by kernel_rfl) (by kernel_rfl) (fun _ _ _ h => h) (Or.inl ⟨by rfl, ?_⟩) (by assumption) ?_
              rotate_left
              · (intro w hSw; obtain ⟨hS0, hS1⟩ := hSw; first | (go_simp; done) | (go_simp; with_reducible rfl))
              try simp only [Act.put, List.setIfInBounds_toArray, List.set_cons_zero, List.set_cons_succ]
              refine wpAnyH_take (i := 16) (v := ?_) rfl (by kernel_rfl) (by kernel_rfl) (by kernel_rfl) (fun _ _ _ h => h) (Or.inl ⟨by rfl, ?_⟩) (by assumption) ?_
              rotate_left
              · (intro w hSw; obtain ⟨hS0, hS1⟩ := hSw; first | (go_simp; done) | (go_simp; with_reducible rfl))
              try simp only [Act.put, List.setIfInBounds_toArray, List.set_cons_zero, List.set_cons_succ]
              refine wpAnyH_ready (rs := [17]) (by kernel_rfl) (by simp) ?_
              refine AllReadyH.cons rfl (fun K hK => ?_) AllReadyH.nil
              go_simp
              refine hK.out _ _ ?_ (fun hHeld => ?_)
              · exact ⟨(HBX6.out.set_ne (p := ⟨rp, 2, none⟩) _ (by show wo.heap.size ≠ rp; omega)).cell 0, (HBX6.out.set_ne (p := ⟨rp, 2, none⟩) _ (by show wo.heap.size ≠ rp; omega)).cell 1⟩
              clear hK K
              try simp only [Act.put, List.setIfInBounds_toArray, List.set_cons_zero, List.set_cons_succ]
              refine wpAnyH_done (by kernel_rfl) ?_ _
              go_wp2
              go_roundg (m' - o)
              case measure => omega
              case rel =>
                have hb6 := HB6.out
                have hX : ∀ b, (Value.slice va6 WL.length vc6).ownBlock = some b → b ∉ wo.heap.size :: K := fun b hb hm => by
                  have := (hb6.lt b hb).1
                  rcases List.mem_cons.1 hm with rfl | hm
                  · have := HBD.out.lt; omega
                  · have := HK.out b hm; have := HXD.out.size; omega
                exact ⟨m', _, by omega, by omega, rfl, (HXD.out.trans (HX6.out.mono (by simp))).setCell ⟨rp, 2, none⟩ _ (.inl (by simp)), HBX6.out.set_ne (p := ⟨rp, 2, none⟩) _ (by show wo.heap.size ≠ rp; omega), by rw [rspl_step xf M m' _ (by omega), HQ.out, ← HWL.out]; exact HR6.out.setF hb6 hX⟩
            · -- the size is asked first
              go_simp
              refine (CSz.out _).mono ?_
              rintro e w' ⟨rfl, rfl⟩
              simp only []
              refine hK.out _ _ (by assumption) (fun hHeld => ?_)
              clear hK K
              try simp only [Act.put, List.setIfInBounds_toArray, List.set_cons_zero, List.set_cons_succ]
              refine wpAnyH_take (i := 10) (v := ?_) rfl (by kernel_rfl) (by kernel_rfl) (by kernel_rfl) (fun _ _ _ h => h) (Or.inl ⟨by rfl, ?_⟩) (by assumption) ?_
              rotate_left
              · (intro w hSw; obtain ⟨hS0, hS1⟩ := hSw; first | (go_simp; done) | (go_simp; with_reducible rfl))
              try simp only [Act.put, List.setIfInBounds_toArray, List.set_cons_zero, List.set_cons_succ]
              refine wpAnyH_take (i := 13) (v := ?_) rfl (by kernel_rfl) (by kernel_rfl) (by kernel_rfl) (fun _ _ _ h => h) (Or.inl ⟨by rfl, ?_⟩) (by assumption) ?_
              rotate_left
              · (intro w hSw; obtain ⟨hS0, hS1⟩ := hSw; first | (go_simp; done) | (go_simp; with_reducible rfl))
              try simp only [Act.put, List.setIfInBounds_toArray, List.set_cons_zero, List.set_cons_succ]
              refine wpAnyH_ready (rs := [4]) (by kernel_rfl) (by simp) ?_
              refine AllReadyH.cons rfl (fun K hK => ?_) AllReadyH.nil
              go_simp
              refine hK.out _ _ (by assumption) (fun hHeld => ?_)
              clear hK K
              try simp only [Act.put, List.setIfInBounds_toArray, List.set_cons_zero, List.set_cons_succ]
              refine wpAnyH_ready (rs := [14]) (by kernel_rfl) (by simp) ?_
              refine AllReadyH.cons rfl (fun K hK => ?_) AllReadyH.nil
              go_simp
              refine (CWi.out).mono ?_
              rintro e w6 ⟨v6, rfl, hb6, hx6⟩
              obtain ⟨va6, vc6, hv6, _, _⟩ := ownsRow_form hb6
              subst hv6
              simp only []
              have HB6 := Lib.hid hb6
              have HX6 := Lib.hid hx6
              have hr6 := HRD.out.ext0 hx6
              have z2 := hr6.head.cell 2
              have zf2 := hr6.head.frozen 2
              have HR6 := Lib.hid hr6
              have hbx6 := HBD.out.ext hx6 (by simp)
              have HBX6 := Lib.hid hbx6
              refine hK.out _ _ ⟨hbx6.cell 0, hbx6.cell 1⟩ (fun hHeld => ?_)
              clear hK K hb6 hx6 hr6 hbx6
              try simp only [Act.put, List.setIfInBounds_toArray, List.set_cons_zero, List.set_cons_succ]
              refine wpAnyH_take (i := 15) (v := ?_) rfl (by kernel_rfl) (by kernel_rfl) (by kernel_rfl) (fun _ _ _ h => h) (Or.inl ⟨by rfl, ?_⟩) (by assumption) ?_
              rotate_left
              · (intro w hSw; obtain ⟨hS0, hS1⟩ := hSw; first | (go_simp; done) | (go_simp; with_reducible rfl))
              try simp only [Act.put, List.setIfInBounds_toArray, List.set_cons_zero, List.set_cons_succ]
              refine wpAnyH_take (i := 16) (v := ?_) rfl (by kernel_rfl) (by kernel_rfl) (by kernel_rfl) (fun _ _ _ h => h) (Or.inl ⟨by rfl, ?_⟩) (by assumption) ?_
              rotate_left
              · (intro w hSw; obtain ⟨hS0, hS1⟩ := hSw; first | (go_simp; done) | (go_simp; with_reducible rfl))
              try simp only [Act.put, List.setIfInBounds_toArray, List.set_cons_zero, List.set_cons_succ]
              refine wpAnyH_ready (rs := [17]) (by kernel_rfl) (by simp) ?_
              refine AllReadyH.cons rfl (fun K hK => ?_) AllReadyH.nil
              go_simp
              refine hK.out _ _ ?_ (fun hHeld => ?_)
              · exact ⟨(HBX6.out.set_ne (p := ⟨rp, 2, none⟩) _ (by show wo.heap.size ≠ rp; omega)).cell 0, (HBX6.out.set_ne (p := ⟨rp, 2, none⟩) _ (by show wo.heap.size ≠ rp; omega)).cell 1⟩
              clear hK K
              try simp only [Act.put, List.setIfInBounds_toArray, List.set_cons_zero, List.set_cons_succ]
              refine wpAnyH_done (by kernel_rfl) ?_ _
              go_wp2
              go_roundg (m' - o)
              case measure => omega
              case rel =>
                have hb6 := HB6.out
                have hX : ∀ b, (Value.slice va6 WL.length vc6).ownBlock = some b → b ∉ wo.heap.size :: K := fun b hb hm => by
                  have := (hb6.lt b hb).1
                  rcases List.mem_cons.1 hm with rfl | hm
                  · have := HBD.out.lt; omega
                  · have := HK.out b hm; have := HXD.out.size; omega
                exact ⟨m', _, by omega, by omega, rfl, (HXD.out.trans (HX6.out.mono (by simp))).setCell ⟨rp, 2, none⟩ _ (.inl (by simp)), HBX6.out.set_ne (p := ⟨rp, 2, none⟩) _ (by show wo.heap.size ≠ rp; omega), by rw [rspl_step xf M m' _ (by omega), HQ.out, ← HWL.out]; exact HR6.out.setF hb6 hX⟩
          · obtain rfl : m = o := by omega
            have hd : decide (((m : Nat) : Int) > (m : Int)) = false := by simp
            have hd' : decide (m < m) = false := by simp
            have HB5 := Lib.hid hb4
            have HX5 := Lib.hid hx4
            have HR5 := Lib.hid hr4
            clear hb4 hx4 hr4
            go_wp2
            have HBD := Lib.hid (HB5.out.ext (Ext.refl [] _).drew (by simp))
            have HXD := Lib.hid (HX5.out.drew)
            have HRD := Lib.hid (HR5.out.ext0 (Ext.refl [] _).drew)
            have CWi := Lib.hid (with_c _ vT _ ⟨xf, (m : Int)⟩ (BSl.of HRD.out.taken) (by omega))
            have y3 := HRD.out.head.cell 3
            obtain ⟨vaT, vcT, hvT, _, _⟩ := ownsRow_form HRD.out.taken
            subst hvT
            have z0 := HBD.out.cell 0
            have z1 := HBD.out.cell 1
            obtain ⟨WL, hWL⟩ : ∃ WL, WL = withB ⟨xf, (m : Int)⟩ tk := ⟨_, rfl⟩
            rw [← hWL] at CWi
            have HWL := Lib.hid hWL
            clear hWL
            refine wp_region_held_drew (S := fun cur => cur.cell? ⟨wo.heap.size, 0, none⟩ = some (.int .i64 xf) ∧ cur.cell? ⟨wo.heap.size, 1, none⟩ = some (.int .i64 (m : Int))) (by kernel_rfl) ⟨z0, z1⟩ (fun hHeld => ?_)
            refine wpAnyH_take (i := 0) (v := ?_) rfl (by kernel_rfl) (by kernel_rfl) (by kernel_rfl) (fun _ _ _ h => h) (Or.inl ⟨by rfl, ?_⟩) (by assumption) ?_
            rotate_left
            · (intro w hSw; obtain ⟨hS0, hS1⟩ := hSw; first | (go_simp; done) | (go_simp; with_reducible rfl))
            try simp only [Act.put, List.setIfInBounds_toArray, List.set_cons_zero, List.set_cons_succ]
            refine wpAnyH_take (i := 1) (v := ?_) rfl (by kernel_rfl) (by kernel_rfl) (by kernel_rfl) (fun _ _ _ h => h) (Or.inl ⟨by rfl, ?_⟩) (by assumption) ?_
            rotate_left
            · (intro w hSw; obtain ⟨hS0, hS1⟩ := hSw; first | (go_simp; done) | (go_simp; with_reducible rfl))
            try simp only [Act.put, List.setIfInBounds_toArray, List.set_cons_zero, List.set_cons_succ]
            refine wpAnyH_take (i := 2) (v := ?_) rfl (by kernel_rfl) (by kernel_rfl) (by kernel_rfl) (fun _ _ _ h => h) (Or.inl ⟨by rfl, ?_⟩) (by assumption) ?_
            rotate_left
            · (intro w hSw; obtain ⟨hS0, hS1⟩ := hSw; first | (go_simp; done) | (go_simp; with_reducible rfl))
            try simp only [Act.put, List.setIfInBounds_toArray, List.set_cons_zero, List.set_cons_succ]
            refine wpAnyH_take (i := 3) (v := ?_) rfl (by kernel_rfl) (by kernel_rfl) (by kernel_rfl) (fun _ _ _ h => h) (Or.inl ⟨by rfl, ?_⟩) (by assumption) ?_
            rotate_left
            · (intro w hSw; obtain ⟨hS0, hS1⟩ := hSw; first | (go_simp; done) | (go_simp; with_reducible rfl))
            try simp only [Act.put, List.setIfInBounds_toArray, List.set_cons_zero, List.set_cons_succ]
            refine wpAnyH_take (i := 5) (v := ?_) rfl (by kernel_rfl) (by kernel_rfl) (by kernel_rfl) (fun _ _ _ h => h) (Or.inl ⟨by rfl, ?_⟩) (by assumption) ?_
            rotate_left
            · (intro w hSw; obtain ⟨hS0, hS1⟩ := hSw; first | (go_simp; done) | (go_simp; with_reducible rfl))
            try simp only [Act.put, List.setIfInBounds_toArray, List.set_cons_zero, List.set_cons_succ]
            refine wpAnyH_ready (rs := [4]) (by kernel_rfl) (by simp) ?_
            refine AllReadyH.cons rfl (fun K hK => ?_) AllReadyH.nil
            go_simp
            refine hK.out _ _ (by assumption) (fun hHeld => ?_)
            clear hK K
            try simp only [Act.put, List.setIfInBounds_toArray, List.set_cons_zero, List.set_cons_succ]
            refine wpAnyH_ready (rs := [6]) (by kernel_rfl) (by simp) ?_
            refine AllReadyH.cons rfl (fun K hK => ?_) AllReadyH.nil
            go_simp
            refine (CWi.out).mono ?_
            rintro e w6 ⟨v6, rfl, hb6, hx6⟩
            obtain ⟨va6, vc6, hv6, _, _⟩ := ownsRow_form hb6
            subst hv6
            simp only []
            have HB6 := Lib.hid hb6
            have HX6 := Lib.hid hx6
            have hr6 := HRD.out.ext0 hx6
            have z3 := hr6.head.cell 3
            have zf3 := hr6.head.frozen 3
            have HR6 := Lib.hid hr6
            have hbx6 := HBD.out.ext hx6 (by simp)
            have HBX6 := Lib.hid hbx6
            refine hK.out _ _ ⟨hbx6.cell 0, hbx6.cell 1⟩ (fun hHeld => ?_)
            clear hK K hb6 hx6 hr6 hbx6
            try simp only [Act.put, List.setIfInBounds_toArray, List.set_cons_zero, List.set_cons_succ]
            refine wpAnyH_take (i := 7) (v := ?_) rfl (by kernel_rfl) (by kernel_rfl) (by kernel_rfl) (fun _ _ _ h => h) (Or.inl ⟨by rfl, ?_⟩) (by assumption) ?_
            rotate_left
            · (intro w hSw; obtain ⟨hS0, hS1⟩ := hSw; first | (go_simp; done) | (go_simp; with_reducible rfl))
            try simp only [Act.put, List.setIfInBounds_toArray, List.set_cons_zero, List.set_cons_succ]
            refine wpAnyH_take (i := 8) (v := ?_) rfl (by kernel_rfl) (by kernel_rfl) (by kernel_rfl) (fun _ _ _ h => h) (Or.inl ⟨by rfl, ?_⟩) (by assumption) ?_
            rotate_left
            · (intro w hSw; obtain ⟨hS0, hS1⟩ := hSw; first | (go_simp; done) | (go_simp; with_reducible rfl))
            try simp only [Act.put, List.setIfInBounds_toArray, List.set_cons_zero, List.set_cons_succ]
            refine wpAnyH_ready (rs := [9]) (by kernel_rfl) (by simp) ?_
            refine AllReadyH.cons rfl (fun K hK => ?_) AllReadyH.nil
            go_simp
            refine hK.out _ _ ?_ (fun hHeld => ?_)
            · exact ⟨(HBX6.out.set_ne (p := ⟨rp, 3, none⟩) _ (by show wo.heap.size ≠ rp; omega)).cell 0, (HBX6.out.set_ne (p := ⟨rp, 3, none⟩) _ (by show wo.heap.size ≠ rp; omega)).cell 1⟩
            clear hK K
            try simp only [Act.put, List.setIfInBounds_toArray, List.set_cons_zero, List.set_cons_succ]
            refine wpAnyH_done (by kernel_rfl) ?_ _
            have hb6 := HB6.out
            have hX : ∀ b, (Value.slice va6 WL.length vc6).ownBlock = some b → b ∉ wo.heap.size :: K := fun b hb hm => by
              have := (hb6.lt b hb).1
              rcases List.mem_cons.1 hm with rfl | hm
              · have := HBD.out.lt; omega
              · have := HK.out b hm; have := HXD.out.size; omega
            have hfin := HR6.out.setT hb6 hX
            have HFIN := Lib.hid hfin
            have xz0 := (HBX6.out.set_ne (p := ⟨rp, 3, none⟩) (.slice va6 WL.length vc6) (by show wo.heap.size ≠ rp; omega)).cell 0
            clear hb6 hX hfin
            go_wp2
            go_ret2
            rw [HB.out]
            refine ⟨?_, (HXD.out.trans (HX6.out.mono (by simp))).setCell ⟨rp, 3, none⟩ _ (.inl (by simp)), ?_⟩
            · rw [HGD.out]; rfl
            · rw [HGD.out]
              refine ⟨_, _, ⟨HFIN.out.head, HFIN.out.free, ?_, fun b hb hm => HFIN.out.fK b hb (List.mem_cons_of_mem _ hm), fun b hb hm => HFIN.out.tK b hb (List.mem_cons_of_mem _ hm)⟩⟩
              have h := HFIN.out.taken
              show BRow _ 0 _ (withB ⟨xf, (m : Int)⟩ tk)
              rw [← HWL.out]
              exact h
end Go.Proofs.Ytkpnmknkimlnaaa
