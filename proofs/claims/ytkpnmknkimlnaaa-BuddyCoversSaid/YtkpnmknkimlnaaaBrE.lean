/-
  Buddy's reference: Give and Shatter.
-/
import Derived.Test.YtkpnmknkimlnaaaBrD
namespace Go.Proofs.Ytkpnmknkimlnaaa
set_option linter.unusedVariables false
set_option linter.unusedSimpArgs false
open Go.RowKit BuT
set_option maxHeartbeats 4000000
set_option maxRecDepth 100000
set_option linter.unusedVariables false
set_option linter.unusedSimpArgs false

theorem giveR_len (F : Int) : ∀ (m : Nat) (l : List Bk) (p k : Nat), (giveR F m l p k).length ≤ l.length + 1
  | 0, l, p, k => by unfold giveR; rw [withB_len]; omega
  | m + 1, l, p, k => by
    unfold giveR; split
    · have := giveR_len F m (withoutB l (placeB l ⟨F + oth p k, k⟩).toNat) (min p (oth p k)) (k + 1)
      have h2 : (withoutB l (placeB l ⟨F + oth p k, k⟩).toNat).length ≤ l.length := by unfold withoutB; simp; omega
      omega
    · rw [withB_len]; omega
theorem placeB_form (l : List Bk) (x : Bk) : (placeB l x = -1 ∧ x ∉ l) ∨ ∃ k : Nat, k < l.length ∧ placeB l x = k ∧ x ∈ l := by
  unfold placeB
  cases h : l.findIdx? (fun y => decide (y = x)) with
  | none =>
    refine .inl ⟨rfl, fun hm => ?_⟩
    have := List.findIdx?_eq_none_iff.1 h x hm
    simp at this
  | some i =>
    obtain ⟨h1, h2, _⟩ := List.findIdx?_eq_some_iff_getElem.1 h
    exact .inr ⟨i, h1, rfl, by simp at h2; rw [← h2]; exact List.getElem_mem h1⟩

theorem rshatter_no (w : World) (rp : Nat) (K : List Nat) (F n : Nat) (fr tk : List Bk) (f o : Int) (h : RB w rp K F n fr tk) (hl2 : tk.length ≤ 4096) (hno : (⟨f, o⟩ : Bk) ∉ tk) :
    Calls Try.prog 62 #[.pointer (some ⟨rp, 0, none⟩), .int .i64 f, .int .i64 o] w fun e w' => e = .returned (.int .i64 4) ∧ Ext [] w w' := by
  obtain ⟨vF, vT, hR⟩ := h
  have c3 := hR.head.cell 3
  have CP := Lib.hid (place_c w vT tk ⟨f, o⟩ (BSl.of hR.taken) hl2)
  rw [placeB_no hno] at CP
  obtain ⟨va, vc, hv, _, _⟩ := ownsRow_form hR.taken
  subst hv
  clear hR hno
  go_enter Try.func62, Try.ntmps62
  go_wp2_with (go_at_call 73; refine (CP.out).mono ?_; rintro e w1 ⟨rfl, hx⟩; have HX := Lib.hid hx; clear hx)
  go_ret
  exact ⟨rfl, HX.out⟩

theorem rsh_len (f : Int) : ∀ (m : Nat) (l : List Bk), (rsh f m l).length = l.length + m
  | 0, l => rfl
  | m + 1, l => by unfold rsh; rw [withB_len, rsh_len f m l]; omega

theorem rshatter_is (w : World) (rp : Nat) (K : List Nat) (F n : Nat) (fr tk : List Bk) (f : Int) (m : Nat) (h : RB w rp K F n fr tk) (hK : ∀ b, b ∈ K → b < w.heap.size) (hl2 : tk.length ≤ 1024) (hf : 0 ≤ f ∧ f ≤ 10000) (hm : m ≤ 9) (hin : (⟨f, (m : Int)⟩ : Bk) ∈ tk) :
    Calls Try.prog 62 #[.pointer (some ⟨rp, 0, none⟩), .int .i64 f, .int .i64 (m : Int)] w fun e w' => e = .returned (.int .i64 0) ∧ Ext [rp] w w' ∧ RB w' rp K F n fr (rsh f (2 ^ m) (withoutB tk (placeB tk ⟨f, m⟩).toNat)) := by
  obtain ⟨vF, vT, hR⟩ := h
  have c3 := hR.head.cell 3
  have CP := Lib.hid (place_c w vT tk ⟨f, (m : Int)⟩ (BSl.of hR.taken) (by omega))
  obtain ⟨k, hk, hpl, _⟩ := (placeB_form tk ⟨f, (m : Int)⟩).resolve_left (fun h => h.2 hin)
  rw [hpl] at CP ⊢
  rw [Int.toNat_natCast]
  obtain ⟨va, vc, hv, _, _⟩ := ownsRow_form hR.taken
  subst hv
  have HR := Lib.hid hR
  have HK := Lib.hid hK
  have CS := Lib.hid (fun w => size_c m (by omega) w)
  have hq := pow_le9 hm
  have hW := withoutB_len hk
  have hrp := hR.head.lt
  clear hR hin hpl hK
  generalize 2 ^ m = q at *
  go_enter Try.func62, Try.ntmps62
  go_wp2_with (first
    | (go_at_call 73; refine (CP.out).mono ?_; rintro e w1 ⟨rfl, hx⟩; have HX := Lib.hid hx; have hr := HR.out.ext0 hx; have d3 := hr.head.cell 3; have HR1 := Lib.hid hr; clear hx hr)
    | (go_at_call 71; refine (without_c _ 0 _ tk k HR1.out.taken hk (by omega)).mono ?_; rintro e w2 ⟨v2, rfl, hb2, hx2⟩; obtain ⟨va2, vc2, hv2, _, _⟩ := ownsRow_form hb2; subst hv2; have HB2 := Lib.hid hb2; have HX2 := Lib.hid hx2; have hr2 := HR1.out.ext0 hx2; have e3 := hr2.head.cell 3; have g3 := hr2.head.frozen 3; have HR2 := Lib.hid hr2; clear hb2 hx2 hr2))
  have hr3 := HR2.out.setT HB2.out (fun b hb hm => by have := (HB2.out.lt b hb).1; have := HK.out b hm; have := HX.out.size; omega)
  have HR3 := Lib.hid hr3
  have HX3 := Lib.hid ((((HX.out.trans HX2.out).mono (N := [rp]) (by simp)).setCell ⟨rp, 3, none⟩ (.slice va2 (withoutB tk k).length vc2) (.inl (by simp))))
  clear hr3 e3 g3 d3
  generalize w2.setCell ⟨rp, 3, none⟩ (.slice va2 (withoutB tk k).length vc2) = w3 at *
  go_loopw [8] (fun z wr => ∃ (i : Nat) (vT : Value), i ≤ q ∧ z = .int .i64 i ∧ Ext [rp] w wr ∧ RV wr rp K F n vF vT fr (rsh f i (withoutB tk k))) (fun z _ => q - (intOf z).toNat)
  case atStart => exact ⟨0, _, by omega, rfl, HX3.out, HR3.out⟩
  case round =>
    obtain ⟨i, vT, hi, rfl, hx, hr⟩ := hrel
    have f3 := hr.head.cell 3
    have hll := Lib.hid (rsh_len f i (withoutB tk k))
    have CW := Lib.hid (with_c wr vT _ ⟨f + (i : Int), 0⟩ (BSl.of hr.taken) (by have := hll.out; omega))
    obtain ⟨va5, vc5, hv5, _, _⟩ := ownsRow_form hr.taken
    subst hv5
    have HX5 := Lib.hid hx
    have HR5 := Lib.hid hr
    clear hx hr
    by_cases hlt : i < q
    · have hd : decide ((i : Int) < (q : Int)) = true := by simp; omega
      have hd' : decide (i < q) = true := by simp; omega
      have i0 : (0 : Int) ≤ (i : Int) := by omega
      have hwl : rsh f (i + 1) (withoutB tk k) = withB ⟨f + (i : Int), 0⟩ (rsh f i (withoutB tk k)) := rfl
      have HWL := Lib.hid hwl
      clear hwl
      generalize withB ⟨f + (i : Int), 0⟩ (rsh f i (withoutB tk k)) = WL at *
      go_wp2_with (first
        | (go_at_call 66; refine (CS.out _).mono ?_; rintro e w' ⟨rfl, rfl⟩)
        | (go_at_call 72; refine (CW.out).mono ?_; rintro e w6 ⟨v6, rfl, hb6, hx6⟩; obtain ⟨va6, vc6, hv6, _, _⟩ := ownsRow_form hb6; subst hv6; have HB6 := Lib.hid hb6; have HX6 := Lib.hid hx6; have hr6 := HR5.out.ext0 hx6; have z3 := hr6.head.cell 3; have zf3 := hr6.head.frozen 3; have HR6 := Lib.hid hr6; clear hb6 hx6 hr6))
      go_roundw
      case rel => exact ⟨i + 1, _, by omega, by go_num, (HX5.out.trans (HX6.out.mono (by simp))).setCell ⟨rp, 3, none⟩ _ (.inl (by simp)), by rw [HWL.out]; exact HR6.out.setT HB6.out (fun b hb hm => by have := (HB6.out.lt b hb).1; have := HK.out b hm; have := HX5.out.size; omega)⟩
      case measure => simp [intOf]; omega
    · obtain rfl : q = i := by omega
      have hd : decide ((q : Int) < (q : Int)) = false := by simp
      go_wp2_with (first
        | (go_at_call 66; refine (CS.out _).mono ?_; rintro e w' ⟨rfl, rfl⟩))
      go_ret
      exact ⟨rfl, HX5.out, _, _, HR5.out⟩

theorem rgive_no (w : World) (rp : Nat) (K : List Nat) (F n : Nat) (fr tk : List Bk) (f o : Int) (h : RB w rp K F n fr tk) (hl2 : tk.length ≤ 4096) (hno : (⟨f, o⟩ : Bk) ∉ tk) :
    Calls Try.prog 61 #[.pointer (some ⟨rp, 0, none⟩), .int .i64 f, .int .i64 o] w fun e w' => e = .returned (.int .i64 4) ∧ Ext [] w w' := by
  obtain ⟨vF, vT, hR⟩ := h
  have hx0 : Ext [] w (w.alloc (.cells #[.int .i64 f, .int .i64 o] 76)).drew := ((Ext.refl _ _).alloc _).drew
  have hr0 := hR.ext0 hx0
  have c3 := (hR.ext0 ((Ext.refl [] w).alloc (.cells #[.int .i64 f, .int .i64 o] 76))).head.cell 3
  have CP := Lib.hid (place_c _ vT tk ⟨f, o⟩ (BSl.of hr0.taken) hl2)
  rw [placeB_no hno] at CP
  obtain ⟨va, vc, hv, _, _⟩ := ownsRow_form hR.taken
  subst hv
  have B0 := Blk.new w [.int .i64 f, .int .i64 o] 76
  have b0 := B0.cell 0
  have b1 := B0.cell 1
  have HX0 := Lib.hid hx0
  have HR0 := Lib.hid hr0
  have HB0 := Lib.hid (B0.ext (Ext.refl [] _).drew (by simp))
  clear hR hno hx0 hr0 B0
  go_enter Try.func61, Try.ntmps61
  go_wp2
  go_region_held3 (fun cur => cur.cell? ⟨rp, 3, none⟩ = some (.slice va tk.length vc) ∧ cur.cell? ⟨w.heap.size, 0, none⟩ = some (.int .i64 f) ∧ cur.cell? ⟨w.heap.size, 1, none⟩ = some (.int .i64 o))
    (first | exact ⟨(HR0.out.ext0 HX.out).head.cell 3, (HB0.out.ext HX.out (by simp)).cell 0, (HB0.out.ext HX.out (by simp)).cell 1⟩ | exact ⟨HR0.out.head.cell 3, HB0.out.cell 0, HB0.out.cell 1⟩)
    (((go_at_call 73; refine (CP.out).mono ?_; rintro e w1 ⟨rfl, hx⟩; have HX := Lib.hid hx; clear hx)))
  go_wp2
  go_ret
  exact ⟨rfl, HX0.out.trans HX.out⟩

theorem rgive_is (w : World) (rp : Nat) (K : List Nat) (F n : Nat) (fr tk : List Bk) (p0 k0 : Nat) (h : RB w rp K F n fr tk) (hK : ∀ b, b ∈ K → b < w.heap.size) (hl : fr.length ≤ 1024) (hl2 : tk.length ≤ 1024) (hF : F ≤ 8192) (hp0 : p0 < 1024) (hk0 : k0 ≤ 9) (hal : p0 % 2 ^ k0 = 0)
    (hin : (⟨(F : Int) + (p0 : Int), (k0 : Int)⟩ : Bk) ∈ tk) :
    Calls Try.prog 61 #[.pointer (some ⟨rp, 0, none⟩), .int .i64 ((F : Int) + (p0 : Int)), .int .i64 (k0 : Int)] w fun e w' => e = .returned (.int .i64 0) ∧ Ext [rp] w w' ∧ RB w' rp K F n (giveR F (9 - k0) fr p0 k0) (withoutB tk (placeB tk ⟨(F : Int) + (p0 : Int), k0⟩).toNat) := by
  obtain ⟨vF, vT, hR⟩ := h
  obtain ⟨ki, hki, hpl, _⟩ := (placeB_form tk ⟨(F : Int) + (p0 : Int), (k0 : Int)⟩).resolve_left (fun h => h.2 hin)
  have hx0 : Ext [] w (w.alloc (.cells #[.int .i64 ((F : Int) + (p0 : Int)), .int .i64 (k0 : Int)] 76)).drew := ((Ext.refl _ _).alloc _).drew
  have hr0 := hR.ext0 hx0
  have c3 := (hR.ext0 ((Ext.refl [] w).alloc (.cells #[.int .i64 ((F : Int) + (p0 : Int)), .int .i64 (k0 : Int)] 76))).head.cell 3
  have CP := Lib.hid (place_c _ vT tk ⟨(F : Int) + (p0 : Int), (k0 : Int)⟩ (BSl.of hr0.taken) (by omega))
  rw [hpl] at CP ⊢
  rw [Int.toNat_natCast]
  obtain ⟨va, vc, hv, _, _⟩ := ownsRow_form hR.taken
  subst hv
  have B0 := Blk.new w [.int .i64 ((F : Int) + (p0 : Int)), .int .i64 (k0 : Int)] 76
  have b0 := B0.cell 0
  have b1 := B0.cell 1
  have HX0 := Lib.hid hx0
  have HR0 := Lib.hid hr0
  have HB0 := Lib.hid (B0.ext (Ext.refl [] _).drew (by simp))
  have HK := Lib.hid hK
  have hrp := hR.head.lt
  have HW := Lib.hid (withoutB_len hki)
  have HFree := Lib.hid hR.free
  have HTf := Lib.hid hR
  clear hR hin hx0 hr0 B0 hpl hK
  go_enter Try.func61, Try.ntmps61
  go_wp2
  go_region_held3 (fun cur => cur.cell? ⟨rp, 3, none⟩ = some (.slice va tk.length vc) ∧ cur.cell? ⟨w.heap.size, 0, none⟩ = some (.int .i64 ((F : Int) + (p0 : Int))) ∧ cur.cell? ⟨w.heap.size, 1, none⟩ = some (.int .i64 (k0 : Int)))
    (first | exact ⟨(HR0.out.ext0 HX.out).head.cell 3, (HB0.out.ext HX.out (by simp)).cell 0, (HB0.out.ext HX.out (by simp)).cell 1⟩ | exact ⟨HR0.out.head.cell 3, HB0.out.cell 0, HB0.out.cell 1⟩)
    (((go_at_call 73; refine (CP.out).mono ?_; rintro e w1 ⟨rfl, hx⟩; have HX := Lib.hid hx; have hr := HR0.out.ext0 hx; have d3 := hr.head.cell 3; have HR1 := Lib.hid hr; clear hx hr)))
  go_wp2_with (first
    | (go_at_call 71; refine (without_c _ 0 _ tk ki HR1.out.taken hki (by omega)).mono ?_; rintro e w2 ⟨v2, rfl, hb2, hx2⟩; obtain ⟨va2, vc2, hv2, _, _⟩ := ownsRow_form hb2; subst hv2; have HB2 := Lib.hid hb2; have HX2 := Lib.hid hx2; have hr2 := HR1.out.ext0 hx2; have e3 := hr2.head.cell 3; have g3 := hr2.head.frozen 3; have HR2 := Lib.hid hr2; clear hb2 hx2 hr2))
  have hX02 := Lib.hid ((HX0.out.trans HX.out).trans HX2.out)
  have hs1 := (HX0.out.trans HX.out).size
  have hs0 : w.heap.size + 1 ≤ w1.heap.size := by have := HX.out.size; simp at this; omega
  have hr3 : RV (w2.setCell ⟨rp, 3, none⟩ (.slice va2 (withoutB tk ki).length vc2)) rp (w.heap.size :: K) F n vF (.slice va2 (withoutB tk ki).length vc2) fr (withoutB tk ki) := by
    have h3 := HR2.out.setT HB2.out (fun b hb hm => by have := (HB2.out.lt b hb).1; have := HK.out b hm; omega)
    refine ⟨h3.head, h3.free, h3.taken, fun b hb' hm => ?_, fun b hb' hm => ?_⟩
    · rcases List.mem_cons.1 hm with rfl | hm
      · have := (HFree.out.lt _ hb').2; omega
      · exact h3.fK b hb' hm
    · rcases List.mem_cons.1 hm with rfl | hm
      · have := (HB2.out.lt _ hb').1; omega
      · exact h3.tK b hb' hm
  have HR3 := Lib.hid hr3
  have HX3 := Lib.hid ((hX02.out.mono (N := [rp]) (by simp)).setCell ⟨rp, 3, none⟩ (.slice va2 (withoutB tk ki).length vc2) (.inl (by simp)))
  have HB3 := Lib.hid ((((HB0.out.ext HX.out (by simp)).ext HX2.out (by simp))).set_ne (p := ⟨rp, 3, none⟩) (.slice va2 (withoutB tk ki).length vc2) (by show w.heap.size ≠ rp; omega))
  generalize hT' : withoutB tk ki = T at *
  have HTT := Lib.hid hT'
  clear hT' hr3 e3 g3 d3 b0 b1 c3
  generalize hvt : (Value.slice va2 T.length vc2) = vT at *
  clear hvt
  generalize w2.setCell ⟨rp, 3, none⟩ vT = w3 at *
  have HG := Lib.hid (show giveR F (9 - k0) fr p0 k0 = giveR F (9 - k0) fr p0 k0 from rfl)
  generalize hGG : giveR F (9 - k0) fr p0 k0 = G at *
  have HGG := Lib.hid hGG
  clear hGG
  go_loopg [9, 10, 11] (9 - k0) (fun g _ _ _ wr => ∃ (p k : Nat) (vF : Value) (f : List Bk), k ≤ 9 ∧ p < 1024 ∧ p % 2 ^ k = 0 ∧ g = 9 - k ∧ f.length ≤ 1024 ∧ Ext [rp] w wr ∧ Blk wr w.heap.size [.int .i64 ((F : Int) + (p : Int)), .int .i64 (k : Int)] 76 ∧ RV wr rp (w.heap.size :: K) F n vF vT f T ∧ giveR F (9 - k) f p k = G)
  case atStart => exact ⟨p0, k0, _, fr, hk0, hp0, hal, rfl, hl, HX3.out, HB3.out, HR3.out, HGG.out⟩
  case round =>
    obtain ⟨p, k, vF', f, hk, hp, hpa, hgk, hfl, hx, hb, hr, hG⟩ := hrel
    have HX4 := Lib.hid hx
    have HB4 := Lib.hid hb
    have HR4 := Lib.hid hr
    have HG4 := Lib.hid hG
    have x0 := hb.cell 0
    have x1 := hb.cell 1
    have r0 := hr.head.cell 0
    have r2 := hr.head.cell 2
    have hszr := hx.size
    have hxlt := hb.lt
    have hrlt := hr.head.lt
    clear hx hb hr hG
    by_cases hk9 : k < 9
    · have hd : decide ((k : Int) < 9) = true := by simp; omega
      have hs2 : (F : Int) + (p : Int) - (F : Int) = (p : Int) := by omega
      have hs3 : IntKind.i64.wrap ((p : Nat) : Int) = (p : Int) := IntWalk.i64_in _ (by omega)
      have hs4 : IntKind.i64.wrap ((F : Int) + (p : Int)) = (F : Int) + (p : Int) := IntWalk.i64_in _ (by omega)
      have CS := Lib.hid (fun w => size_c k (by omega) w)
      have CS1 : Hid (∀ w, Calls Try.prog 66 #[.int .i64 ((k : Int) + 1)] w fun e w' => e = .returned (.int .i64 ((2 ^ (k + 1) : Nat) : Int)) ∧ w = w') := fun w => by have h := size_c (k + 1) (by omega) w; rwa [show ((k + 1 : Nat) : Int) = (k : Int) + 1 by omega] at h
      have hq9 := pow_le9 (show k ≤ 9 by omega)
      have hq10 : 2 ^ (k + 1) ≤ 2 ^ 10 := Nat.pow_le_pow_right (n := 2) (by omega) (show k + 1 ≤ 10 by omega)
      have hpos1 := Nat.two_pow_pos (k + 1)
      have HOF := Lib.hid (oth_form hpa)
      have HOL := Lib.hid (oth_lt hp hk9)
      have hmod : ((p : Nat) : Int) % ((2 ^ (k + 1) : Nat) : Int) = ((p % 2 ^ (k + 1) : Nat) : Int) := by simp
      have HGS : Hid (giveR F (9 - k) f p k = if (⟨(F : Int) + oth p k, k⟩ : Bk) ∈ f then giveR F (9 - (k + 1)) (withoutB f (placeB f ⟨(F : Int) + oth p k, k⟩).toNat) (min p (oth p k)) (k + 1) else withB ⟨(F : Int) + p, k⟩ f) := by
        show _ = _
        rw [show 9 - k = (9 - (k + 1)) + 1 by omega, giveR]
      obtain ⟨q, hq⟩ : ∃ q, q = 2 ^ k := ⟨_, rfl⟩
      obtain ⟨q1, hq1⟩ : ∃ q1, q1 = 2 ^ (k + 1) := ⟨_, rfl⟩
      have hqq1 : q1 = q + q := by rw [hq, hq1, pow_succ2]
      rw [← hq] at CS hq9 HOF
      rw [← hq1] at CS1 hq10 hpos1 hmod HOF
      have HQ := Lib.hid (And.intro hq hq1)
      clear hq hq1 hpa
      have hs5 : IntKind.i64.wrap ((F : Int) + (p : Int) + (q : Int)) = (F : Int) + (p : Int) + (q : Int) := IntWalk.i64_in _ (by omega)
      have hs6 : IntKind.i64.wrap ((F : Int) + (p : Int) - (q : Int)) = (F : Int) + (p : Int) - (q : Int) := IntWalk.i64_in _ (by omega)
      have j0 : (0 : Int) ≤ (p : Int) := by omega
      have j1 : (0 : Int) < (q1 : Int) := by omega
      have HQQ := Lib.hid hqq1
      clear hqq1
      have bn0 : ∀ d, ((wr.drewN d).alloc (.cells #[.int .i64 0, .int .i64 0] 76)).cell? ⟨wr.heap.size, 0, none⟩ = some (.int .i64 0) := fun d => (Blk.new (wr.drewN d) [.int .i64 0, .int .i64 0] 76).cell 0
      have bn1 : ∀ d, ((wr.drewN d).alloc (.cells #[.int .i64 0, .int .i64 0] 76)).cell? ⟨wr.heap.size, 1, none⟩ = some (.int .i64 0) := fun d => (Blk.new (wr.drewN d) [.int .i64 0, .int .i64 0] 76).cell 1
      have bf0 : ∀ d, ((wr.drewN d).alloc (.cells #[.int .i64 0, .int .i64 0] 76)).frozen? ⟨wr.heap.size, 0, none⟩ = false := fun d => (Blk.new (wr.drewN d) [.int .i64 0, .int .i64 0] 76).frozen 0
      have bf1 : ∀ d, ((wr.drewN d).alloc (.cells #[.int .i64 0, .int .i64 0] 76)).frozen? ⟨wr.heap.size, 1, none⟩ = false := fun d => (Blk.new (wr.drewN d) [.int .i64 0, .int .i64 0] 76).frozen 1
      have n1 : wr.heap.size ≠ rp := by omega
      have n2 : wr.heap.size ≠ w.heap.size := by omega
      have n3 : ¬ rp = wr.heap.size := by omega
      have n4 : ¬ w.heap.size = wr.heap.size := by omega
      rcases HOF.out with ⟨ha, ho⟩ | ⟨ha, ho, ha2⟩
      · rw [ha] at hmod
        have HO := Lib.hid ho
        have HM := Lib.hid ha
        clear ha ho
        go_wp2
        go_quiet (fail)
        go_wp2
        have hW : Ext [] wr ((((wr.drewN (nq + 1)).alloc (.cells #[.int .i64 0, .int .i64 0] 76)).setCell ⟨wr.heap.size, 0, none⟩ (.int .i64 ((F : Int) + (p : Int) + (q : Int)))).setCell ⟨wr.heap.size, 1, none⟩ (.int .i64 (k : Int))) :=
          ((((Ext.refl [] wr).drewN (nq + 1)).alloc _).setCell ⟨wr.heap.size, 0, none⟩ _ (.inr (Nat.le_refl _))).setCell ⟨wr.heap.size, 1, none⟩ _ (.inr (Nat.le_refl _))
        have hO : Blk ((((wr.drewN (nq + 1)).alloc (.cells #[.int .i64 0, .int .i64 0] 76)).setCell ⟨wr.heap.size, 0, none⟩ (.int .i64 ((F : Int) + (p : Int) + (q : Int)))).setCell ⟨wr.heap.size, 1, none⟩ (.int .i64 (k : Int))) wr.heap.size [.int .i64 ((F : Int) + (p : Int) + (q : Int)), .int .i64 (k : Int)] 76 :=
          ((Blk.new (wr.drewN (nq + 1)) [.int .i64 0, .int .i64 0] 76).set 0 (.int .i64 ((F : Int) + (p : Int) + (q : Int)))).set 1 (.int .i64 (k : Int))
        have HW8 := Lib.hid hW
        have HO8 := Lib.hid hO
        clear hW hO
        go_region_held3 (fun cur => cur.cell? ⟨rp, 0, none⟩ = some (.int .i64 (F : Int)) ∧ cur.cell? ⟨w.heap.size, 1, none⟩ = some (.int .i64 (k : Int))) (go_keep) (((go_at_call 66; refine (CS.out _).mono ?_; rintro e w' ⟨rfl, rfl⟩)))
        all_goals
          clear bn0 bn1 bf0 bf1
          generalize ((((wr.drewN (nq + 1)).alloc (.cells #[.int .i64 0, .int .i64 0] 76)).setCell ⟨wr.heap.size, 0, none⟩ (.int .i64 ((F : Int) + (p : Int) + (q : Int)))).setCell ⟨wr.heap.size, 1, none⟩ (.int .i64 (k : Int))) = W8 at *
          have HB8 := Lib.hid (HB4.out.ext HW8.out (by simp))
          have HR8 := Lib.hid (HR4.out.ext0 HW8.out)
          have HX8 := Lib.hid (HX4.out.trans (HW8.out.mono (by simp)))
          have hrs : wr.heap.size < W8.heap.size := HO8.out.lt
          clear x0 x1 r0 r2
          have x0 := HB8.out.cell 0
          have x1 := HB8.out.cell 1
          have r0 := HR8.out.head.cell 0
          have r2 := HR8.out.head.cell 2
          have o0 := HO8.out.cell 0
          have o1 := HO8.out.cell 1
          go_wp2_with (go_at_call 66; refine (CS1.out _).mono ?_; rintro e w' ⟨rfl, rfl⟩)
          have CP11 := Lib.hid (place_c W8.drew vF' f ⟨(F : Int) + (p : Int) + (q : Int), (k : Int)⟩ (BSl.of (HR8.out.ext0 (Ext.refl [] _).drew).free) (by omega))
          have HBD := Lib.hid (HB8.out.ext (Ext.refl [] _).drew (by simp))
          have HOD := Lib.hid (HO8.out.ext (Ext.refl [] _).drew (by simp))
          have HXD := Lib.hid (HX8.out.drew)
          have HRD := Lib.hid (HR8.out.ext0 (Ext.refl [] _).drew)
          obtain ⟨vaF, vcF, hvF, _, _⟩ := ownsRow_form HR8.out.free
          subst hvF
          skip
          go_region_held3 (fun cur => cur.cell? ⟨rp, 2, none⟩ = some (.slice vaF f.length vcF) ∧ cur.cell? ⟨wr.heap.size, 0, none⟩ = some (.int .i64 ((F : Int) + (p : Int) + (q : Int))) ∧ cur.cell? ⟨wr.heap.size, 1, none⟩ = some (.int .i64 (k : Int)))
            (first | exact ⟨(HRD.out.ext0 HX11.out).head.cell 2, (HOD.out.ext HX11.out (by simp)).cell 0, (HOD.out.ext HX11.out (by simp)).cell 1⟩ | exact ⟨HRD.out.head.cell 2, HOD.out.cell 0, HOD.out.cell 1⟩)
            (((go_at_call 73; refine (CP11.out).mono ?_; rintro e w11 ⟨rfl, hx⟩; have HX11 := Lib.hid hx; clear hx)))
          have hoe : (F : Int) + ((oth p k : Nat) : Int) = (F : Int) + (p : Int) + (q : Int) := by rw [HO.out]; omega
          rcases placeB_form f ⟨(F : Int) + (p : Int) + (q : Int), (k : Int)⟩ with ⟨hpl, hno⟩ | ⟨i, hif, hpl, hmem⟩
          · rw [hpl]
            clear hpl
            have BX := Lib.hid (HBD.out.ext HX11.out (by simp))
            have RX := Lib.hid (HRD.out.ext0 HX11.out)
            have XX := Lib.hid (HXD.out.trans (HX11.out.mono (by simp)))
            have GX : Hid (G = withB ⟨(F : Int) + (p : Int), (k : Int)⟩ f) := by
              show _ = _
              rw [← HG4.out, HGS.out, hoe, if_neg hno]
            obtain ⟨vF', hvF'⟩ : ∃ v, v = Value.slice vaF f.length vcF := ⟨_, rfl⟩
            rw [← hvF'] at RX
            clear r2 o0 o1 hno hvF' hoe
            go_wp2
            have HBD := Lib.hid (BX.out.ext (Ext.refl [] _).drew (by simp))
            have HXD := Lib.hid (XX.out.drew)
            have HRD := Lib.hid (RX.out.ext0 (Ext.refl [] _).drew)
            have CWi := Lib.hid (with_c _ vF' _ ⟨(F : Int) + (p : Int), (k : Int)⟩ (BSl.of HRD.out.free) (by omega))
            have y2 := HRD.out.head.cell 2
            obtain ⟨vaT, vcT, hvT, _, _⟩ := ownsRow_form HRD.out.free
            subst hvT
            have z0 := HBD.out.cell 0
            have z1 := HBD.out.cell 1
            obtain ⟨WL, hWL⟩ : ∃ WL, WL = withB ⟨(F : Int) + (p : Int), (k : Int)⟩ f := ⟨_, rfl⟩
            rw [← hWL] at CWi
            have HWL := Lib.hid hWL
            clear hWL
            refine wp_region_held_drew (S := fun cur => cur.cell? ⟨w.heap.size, 0, none⟩ = some (.int .i64 ((F : Int) + (p : Int))) ∧ cur.cell? ⟨w.heap.size, 1, none⟩ = some (.int .i64 (k : Int))) (by kernel_rfl) ⟨z0, z1⟩ (fun hHeld => ?_)
            refine wpAnyH_take (i := 0) (v := ?_) rfl (by kernel_rfl) (by kernel_rfl) (by kernel_rfl) (fun _ _ _ h => h) (Or.inl ⟨by rfl, ?_⟩) (by assumption) ?_
            rotate_left
            · (intro w hSw; obtain ⟨hS0, hS1⟩ := hSw; first | (go_simp; done) | (go_simp; with_reducible rfl))
            try simp only [Act.put, List.setIfInBounds_toArray, List.set_cons_zero, List.set_cons_succ]
            refine wpAnyH_take (i := 1) (v := ?_) rfl (by kernel_rfl) (by kernel_rfl) (by kernel_rfl) (fun _ _ _ h => h) (Or.inl ⟨by rfl, ?_⟩) (by assumption) ?_
            rotate_left
            · (intro w hSw; obtain ⟨hS0, hS1⟩ := hSw; first | (go_simp; done) | (go_simp; with_reducible rfl))
            try simp only [Act.put, List.setIfInBounds_toArray, List.set_cons_zero, List.set_cons_succ]
            refine wpAnyH_take (i := 2) (v := ?_) rfl (by kernel_rfl) (by kernel_rfl) (by kernel_rfl) (fun _ _ _ h => h) (Or.inl ⟨by rfl, ?_⟩) (by assumption) ?_
            rotate_left
            · (intro w hSw; obtain ⟨hS0, hS1⟩ := hSw; first | (go_simp; done) | (go_simp; with_reducible rfl))
            try simp only [Act.put, List.setIfInBounds_toArray, List.set_cons_zero, List.set_cons_succ]
            refine wpAnyH_take (i := 3) (v := ?_) rfl (by kernel_rfl) (by kernel_rfl) (by kernel_rfl) (fun _ _ _ h => h) (Or.inl ⟨by rfl, ?_⟩) (by assumption) ?_
            rotate_left
            · (intro w hSw; obtain ⟨hS0, hS1⟩ := hSw; first | (go_simp; done) | (go_simp; with_reducible rfl))
            try simp only [Act.put, List.setIfInBounds_toArray, List.set_cons_zero, List.set_cons_succ]
            refine wpAnyH_take (i := 5) (v := ?_) rfl (by kernel_rfl) (by kernel_rfl) (by kernel_rfl) (fun _ _ _ h => h) (Or.inl ⟨by rfl, ?_⟩) (by assumption) ?_
            rotate_left
            · (intro w hSw; obtain ⟨hS0, hS1⟩ := hSw; first | (go_simp; done) | (go_simp; with_reducible rfl))
            try simp only [Act.put, List.setIfInBounds_toArray, List.set_cons_zero, List.set_cons_succ]
            refine wpAnyH_ready (rs := [4]) (by kernel_rfl) (by simp) ?_
            refine AllReadyH.cons rfl (fun K hK => ?_) AllReadyH.nil
            go_simp
            refine hK.out _ _ (by assumption) (fun hHeld => ?_)
            clear hK K
            try simp only [Act.put, List.setIfInBounds_toArray, List.set_cons_zero, List.set_cons_succ]
            refine wpAnyH_ready (rs := [6]) (by kernel_rfl) (by simp) ?_
            refine AllReadyH.cons rfl (fun K hK => ?_) AllReadyH.nil
            go_simp
            refine (CWi.out).mono ?_
            rintro e w6 ⟨v6, rfl, hb6, hx6⟩
            obtain ⟨va6, vc6, hv6, _, _⟩ := ownsRow_form hb6
            subst hv6
            have HB6 := Lib.hid hb6
            have HX6 := Lib.hid hx6
            have hr6 := HRD.out.ext0 hx6
            have zz2 := hr6.head.cell 2
            have zf2 := hr6.head.frozen 2
            have HR6 := Lib.hid hr6
            have hbx6 := HBD.out.ext hx6 (by simp)
            have HBX6 := Lib.hid hbx6
            simp only []
            refine hK.out _ _ ⟨hbx6.cell 0, hbx6.cell 1⟩ (fun hHeld => ?_)
            clear hK K
            try simp only [Act.put, List.setIfInBounds_toArray, List.set_cons_zero, List.set_cons_succ]
            refine wpAnyH_take (i := 7) (v := ?_) rfl (by kernel_rfl) (by kernel_rfl) (by kernel_rfl) (fun _ _ _ h => h) (Or.inl ⟨by rfl, ?_⟩) (by assumption) ?_
            rotate_left
            · (intro w hSw; obtain ⟨hS0, hS1⟩ := hSw; first | (go_simp; done) | (go_simp; with_reducible rfl))
            try simp only [Act.put, List.setIfInBounds_toArray, List.set_cons_zero, List.set_cons_succ]
            refine wpAnyH_take (i := 8) (v := ?_) rfl (by kernel_rfl) (by kernel_rfl) (by kernel_rfl) (fun _ _ _ h => h) (Or.inl ⟨by rfl, ?_⟩) (by assumption) ?_
            rotate_left
            · (intro w hSw; obtain ⟨hS0, hS1⟩ := hSw; first | (go_simp; done) | (go_simp; with_reducible rfl))
            try simp only [Act.put, List.setIfInBounds_toArray, List.set_cons_zero, List.set_cons_succ]
            refine wpAnyH_ready (rs := [9]) (by kernel_rfl) (by simp) ?_
            refine AllReadyH.cons rfl (fun K hK => ?_) AllReadyH.nil
            go_simp
            refine hK.out _ _ (⟨(HBX6.out.set_ne (p := ⟨rp, 2, none⟩) _ (by show w.heap.size ≠ rp; omega)).cell 0, (HBX6.out.set_ne (p := ⟨rp, 2, none⟩) _ (by show w.heap.size ≠ rp; omega)).cell 1⟩) (fun hHeld => ?_)
            clear hK K
            try simp only [Act.put, List.setIfInBounds_toArray, List.set_cons_zero, List.set_cons_succ]
            refine wpAnyH_done (by kernel_rfl) ?_ _
            have hb6 := HB6.out
            have hX : ∀ b, (Value.slice va6 WL.length vc6).ownBlock = some b → b ∉ w.heap.size :: K := fun b hb hm => by
              have := (hb6.lt b hb).1
              rcases List.mem_cons.1 hm with rfl | hm
              · have := HBD.out.lt; omega
              · have := HK.out b hm; have := HXD.out.size; omega
            have HFIN := Lib.hid (HR6.out.setF hb6 hX)
            clear hb6 hX
            go_wp2
            go_ret
            refine ⟨rfl, (HXD.out.trans (HX6.out.mono (by simp))).setCell ⟨rp, 2, none⟩ _ (.inl (by simp)), ?_⟩
            rw [HTT.out, HGG.out]
            refine ⟨_, _, ⟨HFIN.out.head, ?_, HFIN.out.taken, fun b hb hm => HFIN.out.fK b hb (List.mem_cons_of_mem _ hm), fun b hb hm => HFIN.out.tK b hb (List.mem_cons_of_mem _ hm)⟩⟩
            have h := HFIN.out.free
            show BRow _ 0 _ G
            rw [GX.out, ← HWL.out]
            exact h
          · rw [hpl]
            have HPL := Lib.hid (And.intro hpl hmem)
            clear hpl hmem
            have GX : Hid (giveR F (9 - (k + 1)) (withoutB f i) p (k + 1) = G) := by
              show _ = _
              have h := HGS.out
              rw [hoe, if_pos HPL.out.2, HPL.out.1, Int.toNat_natCast] at h
              rw [← HG4.out, h, show min p (oth p k) = p by rw [HO.out]; omega]
            have BX := Lib.hid (HBD.out.ext HX11.out (by simp))
            have OX := Lib.hid (HOD.out.ext HX11.out (by simp))
            have RX := Lib.hid (HRD.out.ext0 HX11.out)
            have XX := Lib.hid (HXD.out.trans (HX11.out.mono (by simp)))
            clear r2 o0 o1 hoe
            have r2 := RX.out.head.cell 2
            have hif0 : decide ((i : Int) < 0) = false := by simp
            have hqpos : 0 < q := by rw [HQ.out.1]; exact Nat.two_pow_pos k
            have hcmp : decide ((F : Int) + (p : Int) + (q : Int) < (F : Int) + (p : Int)) = false := by simp; omega
            have hk1 : IntKind.i64.wrap ((k : Int) + 1) = (k : Int) + 1 := IntWalk.i64_in _ (by omega)
            go_wp2_with (go_at_call 71; refine (without_c _ 0 _ f i RX.out.free hif (by omega)).mono ?_; rintro e w13 ⟨v13, rfl, hb13, hx13⟩; obtain ⟨va13, vc13, hv13, _, _⟩ := ownsRow_form hb13; subst hv13; have HB13 := Lib.hid hb13; have HX13 := Lib.hid hx13; have hr13 := RX.out.ext0 hx13; have t2 := hr13.head.cell 2; have tf2 := hr13.head.frozen 2; have HR13 := Lib.hid hr13; have hx13' := BX.out.ext hx13 (by simp); have ho13' := OX.out.ext hx13 (by simp); have tx0 := hx13'.cell 0; have tx1 := hx13'.cell 1; have tfx0 := hx13'.frozen 0; have tfx1 := hx13'.frozen 1; have to0 := ho13'.cell 0; have BX13 := Lib.hid hx13'; clear hb13 hx13 hr13 hx13' ho13')
            have hX : ∀ b, (Value.slice va13 (withoutB f i).length vc13).ownBlock = some b → b ∉ w.heap.size :: K := fun b hb hm => by
              have := (HB13.out.lt b hb).1
              rcases List.mem_cons.1 hm with rfl | hm
              · have := BX.out.lt; omega
              · have := HK.out b hm; have := XX.out.size; omega
            have HF13 := Lib.hid (HR13.out.setF HB13.out hX)
            clear hX
            have hlw := withoutB_len hif
            go_roundg (9 - (k + 1))
            case measure => omega
            case rel =>
              refine ⟨p, k + 1, .slice va13 (withoutB f i).length vc13, withoutB f i, by omega, by omega, ?_, rfl, by omega, ?_, ?_, ?_, GX.out⟩
              · rw [← HQ.out.2]; exact HM.out
              · exact (((XX.out.trans (HX13.out.mono (by simp))).setCell ⟨rp, 2, none⟩ _ (.inl (by simp))).setCell ⟨w.heap.size, 1, none⟩ _ (.inr (Nat.le_refl _)))
              · rw [show ((k + 1 : Nat) : Int) = (k : Int) + 1 by omega]
                exact ((BX13.out.set_ne (p := ⟨rp, 2, none⟩) _ (by show w.heap.size ≠ rp; omega)).set 1 (.int .i64 ((k : Int) + 1)))
              · exact (HF13.out.ext ((Ext.refl [w.heap.size] _).setCell ⟨w.heap.size, 1, none⟩ _ (.inl (by simp))) (by simp; omega) (by simp))
      · have hm0 : ((((p % q1 : Nat)) : Int) != 0) = true := by rw [bne_iff_ne]; intro h; exact ha (Int.ofNat_eq_zero.1 h)
        have HO := Lib.hid (And.intro ho ha2)
        have hqp : q ≤ p := by omega
        clear ha ho ha2
        generalize p % q1 = r at *
        go_wp2
        go_quiet (fail)
        go_wp2
        have hW : Ext [] wr ((((wr.drewN (nq + 1)).alloc (.cells #[.int .i64 0, .int .i64 0] 76)).setCell ⟨wr.heap.size, 0, none⟩ (.int .i64 ((F : Int) + (p : Int) + (q : Int)))).setCell ⟨wr.heap.size, 1, none⟩ (.int .i64 (k : Int))) :=
          ((((Ext.refl [] wr).drewN (nq + 1)).alloc _).setCell ⟨wr.heap.size, 0, none⟩ _ (.inr (Nat.le_refl _))).setCell ⟨wr.heap.size, 1, none⟩ _ (.inr (Nat.le_refl _))
        have hO : Blk ((((wr.drewN (nq + 1)).alloc (.cells #[.int .i64 0, .int .i64 0] 76)).setCell ⟨wr.heap.size, 0, none⟩ (.int .i64 ((F : Int) + (p : Int) + (q : Int)))).setCell ⟨wr.heap.size, 1, none⟩ (.int .i64 (k : Int))) wr.heap.size [.int .i64 ((F : Int) + (p : Int) + (q : Int)), .int .i64 (k : Int)] 76 :=
          ((Blk.new (wr.drewN (nq + 1)) [.int .i64 0, .int .i64 0] 76).set 0 (.int .i64 ((F : Int) + (p : Int) + (q : Int)))).set 1 (.int .i64 (k : Int))
        have HW8 := Lib.hid hW
        have HO8 := Lib.hid hO
        clear hW hO
        go_region_held3 (fun cur => cur.cell? ⟨rp, 0, none⟩ = some (.int .i64 (F : Int)) ∧ cur.cell? ⟨w.heap.size, 1, none⟩ = some (.int .i64 (k : Int))) (go_keep) (((go_at_call 66; refine (CS.out _).mono ?_; rintro e w' ⟨rfl, rfl⟩)))
        all_goals
          clear bn0 bn1 bf0 bf1
          generalize ((((wr.drewN (nq + 1)).alloc (.cells #[.int .i64 0, .int .i64 0] 76)).setCell ⟨wr.heap.size, 0, none⟩ (.int .i64 ((F : Int) + (p : Int) + (q : Int)))).setCell ⟨wr.heap.size, 1, none⟩ (.int .i64 (k : Int))) = W8 at *
          have HB8 := Lib.hid (HB4.out.ext HW8.out (by simp))
          have HR8 := Lib.hid (HR4.out.ext0 HW8.out)
          have HX8 := Lib.hid (HX4.out.trans (HW8.out.mono (by simp)))
          have hrs : wr.heap.size < W8.heap.size := HO8.out.lt
          clear x0 x1 r0 r2
          have x0 := HB8.out.cell 0
          have x1 := HB8.out.cell 1
          have r0 := HR8.out.head.cell 0
          have r2 := HR8.out.head.cell 2
          have o0 := HO8.out.cell 0
          have o1 := HO8.out.cell 1
          have of0 := HO8.out.frozen 0
          go_wp2_with (go_at_call 66; refine (CS1.out _).mono ?_; rintro e w' ⟨rfl, rfl⟩)
          go_region_held3 (fun cur => cur.cell? ⟨rp, 0, none⟩ = some (.int .i64 (F : Int)) ∧ cur.cell? ⟨w.heap.size, 1, none⟩ = some (.int .i64 (k : Int))) (go_keep) (((go_at_call 66; refine (CS.out _).mono ?_; rintro e w' ⟨rfl, rfl⟩)))
          have HO9 : Hid (Blk (W8.setCell ⟨wr.heap.size, 0, none⟩ (.int .i64 ((F : Int) + (p : Int) - (q : Int)))).drew wr.heap.size [.int .i64 ((F : Int) + (p : Int) - (q : Int)), .int .i64 (k : Int)] 76) := (HO8.out.set 0 (.int .i64 ((F : Int) + (p : Int) - (q : Int)))).ext (Ext.refl [] _).drew (by simp)
          have hE9 : Ext [wr.heap.size] W8 (W8.setCell ⟨wr.heap.size, 0, none⟩ (.int .i64 ((F : Int) + (p : Int) - (q : Int)))).drew := ((Ext.refl _ _).setCell _ _ (.inl (by simp))).drew
          have HB9 := Lib.hid (HB8.out.ext hE9 (by simp; omega))
          have HX9 := Lib.hid (((HX8.out.setCell ⟨wr.heap.size, 0, none⟩ (.int .i64 ((F : Int) + (p : Int) - (q : Int))) (.inr (by show w.heap.size ≤ wr.heap.size; omega)))).drew)
          have HR9 := Lib.hid (HR4.out.ext0 ((HW8.out.setCell ⟨wr.heap.size, 0, none⟩ (.int .i64 ((F : Int) + (p : Int) - (q : Int))) (.inr (Nat.le_refl _))).drew))
          generalize (W8.setCell ⟨wr.heap.size, 0, none⟩ (.int .i64 ((F : Int) + (p : Int) - (q : Int)))).drew = W9 at *
          have hr9 : wr.heap.size < W9.heap.size := HO9.out.lt
          have CP11 := Lib.hid (place_c W9.drew vF' f ⟨(F : Int) + (p : Int) - (q : Int), (k : Int)⟩ (BSl.of (HR9.out.ext0 (Ext.refl [] _).drew).free) (by omega))
          have HBD := Lib.hid (HB9.out.ext (Ext.refl [] _).drew (by simp))
          have HOD := Lib.hid (HO9.out.ext (Ext.refl [] _).drew (by simp))
          have HXD := Lib.hid (HX9.out.drew)
          have HRD := Lib.hid (HR9.out.ext0 (Ext.refl [] _).drew)
          obtain ⟨vaF, vcF, hvF, _, _⟩ := ownsRow_form HR9.out.free
          subst hvF
          clear x0 x1 r0 r2 o0 o1 of0
          have r2 := HR9.out.head.cell 2
          have o0 := HO9.out.cell 0
          have o1 := HO9.out.cell 1
          go_wp2
          go_region_held3 (fun cur => cur.cell? ⟨rp, 2, none⟩ = some (.slice vaF f.length vcF) ∧ cur.cell? ⟨wr.heap.size, 0, none⟩ = some (.int .i64 ((F : Int) + (p : Int) - (q : Int))) ∧ cur.cell? ⟨wr.heap.size, 1, none⟩ = some (.int .i64 (k : Int)))
            (first | exact ⟨(HRD.out.ext0 HX11.out).head.cell 2, (HOD.out.ext HX11.out (by simp)).cell 0, (HOD.out.ext HX11.out (by simp)).cell 1⟩ | exact ⟨HRD.out.head.cell 2, HOD.out.cell 0, HOD.out.cell 1⟩)
            (((go_at_call 73; refine (CP11.out).mono ?_; rintro e w11 ⟨rfl, hx⟩; have HX11 := Lib.hid hx; clear hx)))
          have hoe : (F : Int) + ((oth p k : Nat) : Int) = (F : Int) + (p : Int) - (q : Int) := by have h := HO.out.1; omega
          rcases placeB_form f ⟨(F : Int) + (p : Int) - (q : Int), (k : Int)⟩ with ⟨hpl, hno⟩ | ⟨i, hif, hpl, hmem⟩
          · rw [hpl]
            clear hpl
            have BX := Lib.hid (HBD.out.ext HX11.out (by simp))
            have RX := Lib.hid (HRD.out.ext0 HX11.out)
            have XX := Lib.hid (HXD.out.trans (HX11.out.mono (by simp)))
            have GX : Hid (G = withB ⟨(F : Int) + (p : Int), (k : Int)⟩ f) := by
              show _ = _
              rw [← HG4.out, HGS.out, hoe, if_neg hno]
            obtain ⟨vF', hvF'⟩ : ∃ v, v = Value.slice vaF f.length vcF := ⟨_, rfl⟩
            rw [← hvF'] at RX
            clear r2 o0 o1 hno hvF' hoe
            go_wp2
            have HBD := Lib.hid (BX.out.ext (Ext.refl [] _).drew (by simp))
            have HXD := Lib.hid (XX.out.drew)
            have HRD := Lib.hid (RX.out.ext0 (Ext.refl [] _).drew)
            have CWi := Lib.hid (with_c _ vF' _ ⟨(F : Int) + (p : Int), (k : Int)⟩ (BSl.of HRD.out.free) (by omega))
            have y2 := HRD.out.head.cell 2
            obtain ⟨vaT, vcT, hvT, _, _⟩ := ownsRow_form HRD.out.free
            subst hvT
            have z0 := HBD.out.cell 0
            have z1 := HBD.out.cell 1
            obtain ⟨WL, hWL⟩ : ∃ WL, WL = withB ⟨(F : Int) + (p : Int), (k : Int)⟩ f := ⟨_, rfl⟩
            rw [← hWL] at CWi
            have HWL := Lib.hid hWL
            clear hWL
            refine wp_region_held_drew (S := fun cur => cur.cell? ⟨w.heap.size, 0, none⟩ = some (.int .i64 ((F : Int) + (p : Int))) ∧ cur.cell? ⟨w.heap.size, 1, none⟩ = some (.int .i64 (k : Int))) (by kernel_rfl) ⟨z0, z1⟩ (fun hHeld => ?_)
            refine wpAnyH_take (i := 0) (v := ?_) rfl (by kernel_rfl) (by kernel_rfl) (by kernel_rfl) (fun _ _ _ h => h) (Or.inl ⟨by rfl, ?_⟩) (by assumption) ?_
            rotate_left
            · (intro w hSw; obtain ⟨hS0, hS1⟩ := hSw; first | (go_simp; done) | (go_simp; with_reducible rfl))
            try simp only [Act.put, List.setIfInBounds_toArray, List.set_cons_zero, List.set_cons_succ]
            refine wpAnyH_take (i := 1) (v := ?_) rfl (by kernel_rfl) (by kernel_rfl) (by kernel_rfl) (fun _ _ _ h => h) (Or.inl ⟨by rfl, ?_⟩) (by assumption) ?_
            rotate_left
            · (intro w hSw; obtain ⟨hS0, hS1⟩ := hSw; first | (go_simp; done) | (go_simp; with_reducible rfl))
            try simp only [Act.put, List.setIfInBounds_toArray, List.set_cons_zero, List.set_cons_succ]
            refine wpAnyH_take (i := 2) (v := ?_) rfl (by kernel_rfl) (by kernel_rfl) (by kernel_rfl) (fun _ _ _ h => h) (Or.inl ⟨by rfl, ?_⟩) (by assumption) ?_
            rotate_left
            · (intro w hSw; obtain ⟨hS0, hS1⟩ := hSw; first | (go_simp; done) | (go_simp; with_reducible rfl))
            try simp only [Act.put, List.setIfInBounds_toArray, List.set_cons_zero, List.set_cons_succ]
            refine wpAnyH_take (i := 3) (v := ?_) rfl (by kernel_rfl) (by kernel_rfl) (by kernel_rfl) (fun _ _ _ h => h) (Or.inl ⟨by rfl, ?_⟩) (by assumption) ?_
            rotate_left
            · (intro w hSw; obtain ⟨hS0, hS1⟩ := hSw; first | (go_simp; done) | (go_simp; with_reducible rfl))
            try simp only [Act.put, List.setIfInBounds_toArray, List.set_cons_zero, List.set_cons_succ]
            refine wpAnyH_take (i := 5) (v := ?_) rfl (by kernel_rfl) (by kernel_rfl) (by kernel_rfl) (fun _ _ _ h => h) (Or.inl ⟨by rfl, ?_⟩) (by assumption) ?_
            rotate_left
            · (intro w hSw; obtain ⟨hS0, hS1⟩ := hSw; first | (go_simp; done) | (go_simp; with_reducible rfl))
            try simp only [Act.put, List.setIfInBounds_toArray, List.set_cons_zero, List.set_cons_succ]
            refine wpAnyH_ready (rs := [4]) (by kernel_rfl) (by simp) ?_
            refine AllReadyH.cons rfl (fun K hK => ?_) AllReadyH.nil
            go_simp
            refine hK.out _ _ (by assumption) (fun hHeld => ?_)
            clear hK K
            try simp only [Act.put, List.setIfInBounds_toArray, List.set_cons_zero, List.set_cons_succ]
            refine wpAnyH_ready (rs := [6]) (by kernel_rfl) (by simp) ?_
            refine AllReadyH.cons rfl (fun K hK => ?_) AllReadyH.nil
            go_simp
            refine (CWi.out).mono ?_
            rintro e w6 ⟨v6, rfl, hb6, hx6⟩
            obtain ⟨va6, vc6, hv6, _, _⟩ := ownsRow_form hb6
            subst hv6
            have HB6 := Lib.hid hb6
            have HX6 := Lib.hid hx6
            have hr6 := HRD.out.ext0 hx6
            have zz2 := hr6.head.cell 2
            have zf2 := hr6.head.frozen 2
            have HR6 := Lib.hid hr6
            have hbx6 := HBD.out.ext hx6 (by simp)
            have HBX6 := Lib.hid hbx6
            simp only []
            refine hK.out _ _ ⟨hbx6.cell 0, hbx6.cell 1⟩ (fun hHeld => ?_)
            clear hK K
            try simp only [Act.put, List.setIfInBounds_toArray, List.set_cons_zero, List.set_cons_succ]
            refine wpAnyH_take (i := 7) (v := ?_) rfl (by kernel_rfl) (by kernel_rfl) (by kernel_rfl) (fun _ _ _ h => h) (Or.inl ⟨by rfl, ?_⟩) (by assumption) ?_
            rotate_left
            · (intro w hSw; obtain ⟨hS0, hS1⟩ := hSw; first | (go_simp; done) | (go_simp; with_reducible rfl))
            try simp only [Act.put, List.setIfInBounds_toArray, List.set_cons_zero, List.set_cons_succ]
            refine wpAnyH_take (i := 8) (v := ?_) rfl (by kernel_rfl) (by kernel_rfl) (by kernel_rfl) (fun _ _ _ h => h) (Or.inl ⟨by rfl, ?_⟩) (by assumption) ?_
            rotate_left
            · (intro w hSw; obtain ⟨hS0, hS1⟩ := hSw; first | (go_simp; done) | (go_simp; with_reducible rfl))
            try simp only [Act.put, List.setIfInBounds_toArray, List.set_cons_zero, List.set_cons_succ]
            refine wpAnyH_ready (rs := [9]) (by kernel_rfl) (by simp) ?_
            refine AllReadyH.cons rfl (fun K hK => ?_) AllReadyH.nil
            go_simp
            refine hK.out _ _ (⟨(HBX6.out.set_ne (p := ⟨rp, 2, none⟩) _ (by show w.heap.size ≠ rp; omega)).cell 0, (HBX6.out.set_ne (p := ⟨rp, 2, none⟩) _ (by show w.heap.size ≠ rp; omega)).cell 1⟩) (fun hHeld => ?_)
            clear hK K
            try simp only [Act.put, List.setIfInBounds_toArray, List.set_cons_zero, List.set_cons_succ]
            refine wpAnyH_done (by kernel_rfl) ?_ _
            have hb6 := HB6.out
            have hX : ∀ b, (Value.slice va6 WL.length vc6).ownBlock = some b → b ∉ w.heap.size :: K := fun b hb hm => by
              have := (hb6.lt b hb).1
              rcases List.mem_cons.1 hm with rfl | hm
              · have := HBD.out.lt; omega
              · have := HK.out b hm; have := HXD.out.size; omega
            have HFIN := Lib.hid (HR6.out.setF hb6 hX)
            clear hb6 hX
            go_wp2
            go_ret
            refine ⟨rfl, (HXD.out.trans (HX6.out.mono (by simp))).setCell ⟨rp, 2, none⟩ _ (.inl (by simp)), ?_⟩
            rw [HTT.out, HGG.out]
            refine ⟨_, _, ⟨HFIN.out.head, ?_, HFIN.out.taken, fun b hb hm => HFIN.out.fK b hb (List.mem_cons_of_mem _ hm), fun b hb hm => HFIN.out.tK b hb (List.mem_cons_of_mem _ hm)⟩⟩
            have h := HFIN.out.free
            show BRow _ 0 _ G
            rw [GX.out, ← HWL.out]
            exact h
          · rw [hpl]
            have HPL := Lib.hid (And.intro hpl hmem)
            clear hpl hmem
            have GX : Hid (giveR F (9 - (k + 1)) (withoutB f i) (p - q) (k + 1) = G) := by
              show _ = _
              have h := HGS.out
              rw [hoe, if_pos HPL.out.2, HPL.out.1, Int.toNat_natCast] at h
              rw [← HG4.out, h, show min p (oth p k) = (p - q) by have h := HO.out.1; omega]
            have BX := Lib.hid (HBD.out.ext HX11.out (by simp))
            have OX := Lib.hid (HOD.out.ext HX11.out (by simp))
            have RX := Lib.hid (HRD.out.ext0 HX11.out)
            have XX := Lib.hid (HXD.out.trans (HX11.out.mono (by simp)))
            clear r2 o0 o1 hoe
            have r2 := RX.out.head.cell 2
            have hif0 : decide ((i : Int) < 0) = false := by simp
            have hqpos : 0 < q := by rw [HQ.out.1]; exact Nat.two_pow_pos k
            have hcmp : decide ((F : Int) + (p : Int) - (q : Int) < (F : Int) + (p : Int)) = true := by simp; omega
            have hk1 : IntKind.i64.wrap ((k : Int) + 1) = (k : Int) + 1 := IntWalk.i64_in _ (by omega)
            go_wp2_with (go_at_call 71; refine (without_c _ 0 _ f i RX.out.free hif (by omega)).mono ?_; rintro e w13 ⟨v13, rfl, hb13, hx13⟩; obtain ⟨va13, vc13, hv13, _, _⟩ := ownsRow_form hb13; subst hv13; have HB13 := Lib.hid hb13; have HX13 := Lib.hid hx13; have hr13 := RX.out.ext0 hx13; have t2 := hr13.head.cell 2; have tf2 := hr13.head.frozen 2; have HR13 := Lib.hid hr13; have hx13' := BX.out.ext hx13 (by simp); have ho13' := OX.out.ext hx13 (by simp); have tx0 := hx13'.cell 0; have tx1 := hx13'.cell 1; have tfx0 := hx13'.frozen 0; have tfx1 := hx13'.frozen 1; have to0 := ho13'.cell 0; have BX13 := Lib.hid hx13'; clear hb13 hx13 hr13 hx13' ho13')
            have hX : ∀ b, (Value.slice va13 (withoutB f i).length vc13).ownBlock = some b → b ∉ w.heap.size :: K := fun b hb hm => by
              have := (HB13.out.lt b hb).1
              rcases List.mem_cons.1 hm with rfl | hm
              · have := BX.out.lt; omega
              · have := HK.out b hm; have := XX.out.size; omega
            have HF13 := Lib.hid (HR13.out.setF HB13.out hX)
            clear hX
            have hlw := withoutB_len hif
            go_roundg (9 - (k + 1))
            case measure => omega
            case rel =>
              refine ⟨(p - q), k + 1, .slice va13 (withoutB f i).length vc13, withoutB f i, by omega, by omega, ?_, rfl, by omega, ?_, ?_, ?_, GX.out⟩
              · rw [← HQ.out.2, show p - q = oth p k by have h := HO.out.1; omega]; exact HO.out.2
              · exact ((((XX.out.trans (HX13.out.mono (by simp))).setCell ⟨rp, 2, none⟩ _ (.inl (by simp))).setCell ⟨w.heap.size, 0, none⟩ _ (.inr (Nat.le_refl _))).setCell ⟨w.heap.size, 1, none⟩ _ (.inr (Nat.le_refl _)))
              · rw [show ((k + 1 : Nat) : Int) = (k : Int) + 1 by omega, show (F : Int) + ((p - q : Nat) : Int) = (F : Int) + (p : Int) - (q : Int) by omega]
                exact (((BX13.out.set_ne (p := ⟨rp, 2, none⟩) _ (by show w.heap.size ≠ rp; omega)).set 0 (.int .i64 ((F : Int) + (p : Int) - (q : Int)))).set 1 (.int .i64 ((k : Int) + 1)))
              · exact ((HF13.out.ext ((Ext.refl [w.heap.size] _).setCell ⟨w.heap.size, 0, none⟩ _ (.inl (by simp))) (by simp; omega) (by simp)).ext ((Ext.refl [w.heap.size] _).setCell ⟨w.heap.size, 1, none⟩ _ (.inl (by simp))) (by simp; omega) (by simp))
    · obtain rfl : k = 9 := by omega
      have BX := HB4
      have RX := HR4
      have XX := HX4
      have GX := Lib.hid (show G = withB ⟨(F : Int) + (p : Int), ((9 : Nat) : Int)⟩ f from HG4.out.symm)
      have hd : decide (((9 : Nat) : Int) < 9) = false := by simp
      clear x0 r0 r2
      go_wp2
      have HBD := Lib.hid (BX.out.ext (Ext.refl [] _).drew (by simp))
      have HXD := Lib.hid (XX.out.drew)
      have HRD := Lib.hid (RX.out.ext0 (Ext.refl [] _).drew)
      have CWi := Lib.hid (with_c _ vF' _ ⟨(F : Int) + (p : Int), ((9 : Nat) : Int)⟩ (BSl.of HRD.out.free) (by omega))
      have y2 := HRD.out.head.cell 2
      obtain ⟨vaT, vcT, hvT, _, _⟩ := ownsRow_form HRD.out.free
      subst hvT
      have z0 := HBD.out.cell 0
      have z1 := HBD.out.cell 1
      obtain ⟨WL, hWL⟩ : ∃ WL, WL = withB ⟨(F : Int) + (p : Int), ((9 : Nat) : Int)⟩ f := ⟨_, rfl⟩
      rw [← hWL] at CWi
      have HWL := Lib.hid hWL
      clear hWL
      refine wp_region_held_drew (S := fun cur => cur.cell? ⟨w.heap.size, 0, none⟩ = some (.int .i64 ((F : Int) + (p : Int))) ∧ cur.cell? ⟨w.heap.size, 1, none⟩ = some (.int .i64 ((9 : Nat) : Int))) (by kernel_rfl) ⟨z0, z1⟩ (fun hHeld => ?_)
      refine wpAnyH_take (i := 0) (v := ?_) rfl (by kernel_rfl) (by kernel_rfl) (by kernel_rfl) (fun _ _ _ h => h) (Or.inl ⟨by rfl, ?_⟩) (by assumption) ?_
      rotate_left
      · (intro w hSw; obtain ⟨hS0, hS1⟩ := hSw; first | (go_simp; done) | (go_simp; with_reducible rfl))
      try simp only [Act.put, List.setIfInBounds_toArray, List.set_cons_zero, List.set_cons_succ]
      refine wpAnyH_take (i := 1) (v := ?_) rfl (by kernel_rfl) (by kernel_rfl) (by kernel_rfl) (fun _ _ _ h => h) (Or.inl ⟨by rfl, ?_⟩) (by assumption) ?_
      rotate_left
      · (intro w hSw; obtain ⟨hS0, hS1⟩ := hSw; first | (go_simp; done) | (go_simp; with_reducible rfl))
      try simp only [Act.put, List.setIfInBounds_toArray, List.set_cons_zero, List.set_cons_succ]
      refine wpAnyH_take (i := 2) (v := ?_) rfl (by kernel_rfl) (by kernel_rfl) (by kernel_rfl) (fun _ _ _ h => h) (Or.inl ⟨by rfl, ?_⟩) (by assumption) ?_
      rotate_left
      · (intro w hSw; obtain ⟨hS0, hS1⟩ := hSw; first | (go_simp; done) | (go_simp; with_reducible rfl))
      try simp only [Act.put, List.setIfInBounds_toArray, List.set_cons_zero, List.set_cons_succ]
      refine wpAnyH_take (i := 3) (v := ?_) rfl (by kernel_rfl) (by kernel_rfl) (by kernel_rfl) (fun _ _ _ h => h) (Or.inl ⟨by rfl, ?_⟩) (by assumption) ?_
      rotate_left
      · (intro w hSw; obtain ⟨hS0, hS1⟩ := hSw; first | (go_simp; done) | (go_simp; with_reducible rfl))
      try simp only [Act.put, List.setIfInBounds_toArray, List.set_cons_zero, List.set_cons_succ]
      refine wpAnyH_take (i := 5) (v := ?_) rfl (by kernel_rfl) (by kernel_rfl) (by kernel_rfl) (fun _ _ _ h => h) (Or.inl ⟨by rfl, ?_⟩) (by assumption) ?_
      rotate_left
      · (intro w hSw; obtain ⟨hS0, hS1⟩ := hSw; first | (go_simp; done) | (go_simp; with_reducible rfl))
      try simp only [Act.put, List.setIfInBounds_toArray, List.set_cons_zero, List.set_cons_succ]
      refine wpAnyH_ready (rs := [4]) (by kernel_rfl) (by simp) ?_
      refine AllReadyH.cons rfl (fun K hK => ?_) AllReadyH.nil
      go_simp
      refine hK.out _ _ (by assumption) (fun hHeld => ?_)
      clear hK K
      try simp only [Act.put, List.setIfInBounds_toArray, List.set_cons_zero, List.set_cons_succ]
      refine wpAnyH_ready (rs := [6]) (by kernel_rfl) (by simp) ?_
      refine AllReadyH.cons rfl (fun K hK => ?_) AllReadyH.nil
      go_simp
      refine (CWi.out).mono ?_
      rintro e w6 ⟨v6, rfl, hb6, hx6⟩
      obtain ⟨va6, vc6, hv6, _, _⟩ := ownsRow_form hb6
      subst hv6
      have HB6 := Lib.hid hb6
      have HX6 := Lib.hid hx6
      have hr6 := HRD.out.ext0 hx6
      have zz2 := hr6.head.cell 2
      have zf2 := hr6.head.frozen 2
      have HR6 := Lib.hid hr6
      have hbx6 := HBD.out.ext hx6 (by simp)
      have HBX6 := Lib.hid hbx6
      simp only []
      refine hK.out _ _ ⟨hbx6.cell 0, hbx6.cell 1⟩ (fun hHeld => ?_)
      clear hK K
      try simp only [Act.put, List.setIfInBounds_toArray, List.set_cons_zero, List.set_cons_succ]
      refine wpAnyH_take (i := 7) (v := ?_) rfl (by kernel_rfl) (by kernel_rfl) (by kernel_rfl) (fun _ _ _ h => h) (Or.inl ⟨by rfl, ?_⟩) (by assumption) ?_
      rotate_left
      · (intro w hSw; obtain ⟨hS0, hS1⟩ := hSw; first | (go_simp; done) | (go_simp; with_reducible rfl))
      try simp only [Act.put, List.setIfInBounds_toArray, List.set_cons_zero, List.set_cons_succ]
      refine wpAnyH_take (i := 8) (v := ?_) rfl (by kernel_rfl) (by kernel_rfl) (by kernel_rfl) (fun _ _ _ h => h) (Or.inl ⟨by rfl, ?_⟩) (by assumption) ?_
      rotate_left
      · (intro w hSw; obtain ⟨hS0, hS1⟩ := hSw; first | (go_simp; done) | (go_simp; with_reducible rfl))
      try simp only [Act.put, List.setIfInBounds_toArray, List.set_cons_zero, List.set_cons_succ]
      refine wpAnyH_ready (rs := [9]) (by kernel_rfl) (by simp) ?_
      refine AllReadyH.cons rfl (fun K hK => ?_) AllReadyH.nil
      go_simp
      refine hK.out _ _ (⟨(HBX6.out.set_ne (p := ⟨rp, 2, none⟩) _ (by show w.heap.size ≠ rp; omega)).cell 0, (HBX6.out.set_ne (p := ⟨rp, 2, none⟩) _ (by show w.heap.size ≠ rp; omega)).cell 1⟩) (fun hHeld => ?_)
      clear hK K
      try simp only [Act.put, List.setIfInBounds_toArray, List.set_cons_zero, List.set_cons_succ]
      refine wpAnyH_done (by kernel_rfl) ?_ _
      have hb6 := HB6.out
      have hX : ∀ b, (Value.slice va6 WL.length vc6).ownBlock = some b → b ∉ w.heap.size :: K := fun b hb hm => by
        have := (hb6.lt b hb).1
        rcases List.mem_cons.1 hm with rfl | hm
        · have := HBD.out.lt; omega
        · have := HK.out b hm; have := HXD.out.size; omega
      have HFIN := Lib.hid (HR6.out.setF hb6 hX)
      clear hb6 hX
      go_wp2
      go_ret
      refine ⟨rfl, (HXD.out.trans (HX6.out.mono (by simp))).setCell ⟨rp, 2, none⟩ _ (.inl (by simp)), ?_⟩
      rw [HTT.out, HGG.out]
      refine ⟨_, _, ⟨HFIN.out.head, ?_, HFIN.out.taken, fun b hb hm => HFIN.out.fK b hb (List.mem_cons_of_mem _ hm), fun b hb hm => HFIN.out.tK b hb (List.mem_cons_of_mem _ hm)⟩⟩
      have h := HFIN.out.free
      show BRow _ 0 _ G
      rw [GX.out, ← HWL.out]
      exact h

end Go.Proofs.Ytkpnmknkimlnaaa
