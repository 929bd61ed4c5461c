/-
  Buddy: Alloc.
-/
import Derived.Test.YtkpnmknkimlnaaaBvA
namespace Go.Proofs.Ytkpnmknkimlnaaa
set_option linter.unusedVariables false
set_option linter.unusedSimpArgs false
open Go.RowKit BuT
set_option maxHeartbeats 4000000
set_option maxRecDepth 100000
set_option linter.unusedVariables false
set_option linter.unusedSimpArgs false

theorem pow_le9 {n : Nat} (h : n ≤ 9) : (2 : Nat) ^ n ≤ 512 := Nat.pow_le_pow_right (n := 2) (by omega) h
theorem pow_wrap9 {z : Nat} (h : z ≤ 9) : wrap64 (2 ^ z) = ((2 ^ z : Nat) : Int) := by
  have := pow_le9 h
  have e : (2 : Int) ^ z = ((2 ^ z : Nat) : Int) := by simp
  rw [e]
  generalize 2 ^ z = q at *
  exact wrap64_of (by omega) (by omega)
/-- The table behind a store. -/
theorem Bud.put {w : World} {bp bl F n : Nat} {kd od : Nat → Nat} (h : Bud w bp bl F n kd od) {i : Nat} (hi : i < n) (c o : Nat) :
    Bud ((w.setCell ⟨bl, i * 2, none⟩ (.int .i64 (c : Int))).setCell ⟨bl, i * 2 + 1, none⟩ (.int .i64 (o : Int))) bp bl F n (upd kd i c) (upd od i o) := by
  refine ⟨(h.head.set_ne _ h.ne).set_ne _ h.ne, ?_, h.ne, h.n1, h.n2, h.F8⟩
  refine ((h.tab.set (show i * 2 < n * 2 by omega) _).set (show i * 2 + 1 < n * 2 by omega) _).congr fun q hq => ?_
  unfold upd tabF
  by_cases e1 : q = i * 2 + 1
  · subst e1; simp; rw [show (i * 2 + 1) / 2 = i by omega]; simp
  · by_cases e2 : q = i * 2
    · subst e2; simp
    · rw [if_neg e1, if_neg e2]
      have : q / 2 ≠ i := by omega
      simp [this]
theorem splK_step (kd : Nat → Nat) (p : Nat) : ∀ (M m : Nat), m < M → splK kd p m M = upd (splK kd p (m + 1) M) (p + 2 ^ m) 1
  | 0, _, h => by omega
  | M + 1, m, h => by
    rw [splK, if_pos (show m ≤ M by omega)]
    rcases Nat.lt_or_ge m M with h1 | h1
    · conv => rhs; rw [splK, if_pos (show m + 1 ≤ M by omega)]
      exact splK_step _ p M m h1
    · obtain rfl : m = M := by omega
      conv => rhs; rw [splK, if_neg (by omega)]
      cases m with
      | zero => rfl
      | succ m => rw [splK, if_neg (by omega)]
theorem splO_step (od : Nat → Nat) (p : Nat) : ∀ (M m : Nat), m < M → splO od p m M = upd (splO od p (m + 1) M) (p + 2 ^ m) m
  | 0, _, h => by omega
  | M + 1, m, h => by
    rw [splO, if_pos (show m ≤ M by omega)]
    rcases Nat.lt_or_ge m M with h1 | h1
    · conv => rhs; rw [splO, if_pos (show m + 1 ≤ M by omega)]
      exact splO_step _ p M m h1
    · obtain rfl : m = M := by omega
      conv => rhs; rw [splO, if_neg (by omega)]
      cases m with
      | zero => rfl
      | succ m => rw [splO, if_neg (by omega)]
theorem splK_top (kd : Nat → Nat) (p M : Nat) : splK kd p M M = kd := by
  cases M with
  | zero => rfl
  | succ m => rw [splK, if_neg (by omega)]
theorem splO_top (od : Nat → Nat) (p M : Nat) : splO od p M M = od := by
  cases M with
  | zero => rfl
  | succ m => rw [splO, if_neg (by omega)]
def AlRet (w : World) (bp bl F n : Nat) (kd od : Nat → Nat) (o : Nat) (B : Option Nat) (e : Ending) (w' : World) : Prop :=
  match B with
  | none => e = .returned (.tuple #[.int .i64 0, .int .i64 6]) ∧ Ext [] w w'
  | some p => e = .returned (.tuple #[.int .i64 ((F : Int) + p), .int .i64 0]) ∧ Ext [bl] w w' ∧ Bud w' bp bl F n (alK kd od p o) (alO od p o)
def bestV : Option Nat → Int
  | none => -1
  | some p => (p : Int)

section
variable {w : World} {bp bl F n : Nat} {kd od : Nat → Nat} (h : Bud w bp bl F n kd od)
include h
theorem Bud.alloc_bad (o : Int) (ho : o < 0 ∨ 9 < o) : Calls Try.prog 33 #[.pointer (some ⟨bp, 0, none⟩), .int .i64 o] w fun e w' => e = .returned (.tuple #[.int .i64 0, .int .i64 1]) ∧ Ext [] w w' := by
  have CI := Lib.hid h.is_
  clear h
  rcases ho with ho | ho
  all_goals
    go_enter Try.func33, Try.ntmps33
    go_wp2_with (go_at_call 67; refine (CI.out).mono ?_; rintro e w' ⟨rfl, rfl⟩)
    all_goals
      go_ret2
      exact ⟨rfl, Ext.refl _ _⟩

theorem Bud.alloc_ (ht : Tiles kd od n) (o : Nat) (ho : o ≤ 9) : Calls Try.prog 33 #[.pointer (some ⟨bp, 0, none⟩), .int .i64 (o : Int)] w (AlRet w bp bl F n kd od o (bestI kd od o n)) := by
  have CI := Lib.hid h.is_
  have c1 := h.head.cell 1
  have n1 := h.n1
  have n2 := h.n2
  have F8 := h.F8
  have o0 : decide ((o : Int) < 0) = false := by simp
  have o1 : (o : Int) ≤ 9 := by omega
  have H := Lib.hid h
  have HT := Lib.hid ht
  clear h ht
  go_enter Try.func33, Try.ntmps33
  go_wp2_with (go_at_call 67; refine (CI.out).mono ?_; rintro e w' ⟨rfl, rfl⟩)
  go_loopw [6, 26] (fun a i wr => ∃ k : Nat, k ≤ n ∧ i = .int .i64 k ∧ a = .int .i64 (bestV (bestI kd od o k)) ∧ Ext [] w wr) (fun _ i _ => n - (intOf i).toNat)
  case atStart => exact ⟨0, by omega, rfl, rfl, Ext.refl _ _⟩
  case round =>
    obtain ⟨k, hk, rfl, rfl, hx⟩ := hrel
    have Hr := H.out.ext hx (by simp) (by simp)
    have c1 := Hr.head.cell 1
    by_cases hlt : k < n
    · have k0 := Hr.kc hlt
      have k1 := Hr.oc hlt
      have i0 : (0 : Int) ≤ (k : Int) := by omega
      have i1 : (k : Int) < (n : Int) := by omega
      have HX := Lib.hid hx
      have HR := Lib.hid Hr
      clear hx Hr
      by_cases e1 : kd k = 1
      · by_cases e2 : o ≤ od k
        · cases hB : bestI kd od o k with
          | none =>
            have HN := Lib.hid (show bestI kd od o (k + 1) = some k by rw [bestI, if_pos ⟨e1, e2, fun b hb => by rw [hB] at hb; cases hb⟩])
            rw [e1] at k0
            have d1 : decide (o ≤ od k) = true := by simpa using e2
            clear hB e1 e2
            generalize od k = d at *
            simp only [bestV] at *
            go_wp2
            go_quiet (fail)
            go_wp2
            go_roundw
            case rel => exact ⟨k + 1, by omega, by go_num, by rw [HN.out], (HX.out.alloc _).drewN nq⟩
            case measure => simp [intOf]; omega
          | some p =>
            obtain ⟨hp1, hp2, hp3⟩ := bestI_some hB
            have k2 := HR.out.oc (show p < n by omega)
            have k3 : ∀ ob, (wr.alloc ob).cell? ⟨bl, p * 2 + 1, none⟩ = some (.int .i64 ((od p : Nat) : Int)) := fun ob => (HR.out.ext ((Ext.refl [] wr).alloc ob) (by simp) (by simp)).oc (show p < n by omega)
            have c3 : ∀ ob, (wr.alloc ob).cell? ⟨bp, 1, none⟩ = some (.slice (some ⟨bl, 0, none⟩) n n) := fun ob => (HR.out.ext ((Ext.refl [] wr).alloc ob) (by simp) (by simp)).head.cell 1
            have p0 : (0 : Int) ≤ (p : Int) := by omega
            have p1 : (p : Int) < (n : Int) := by omega
            have p2 : decide ((p : Int) < 0) = false := by simp
            have d1 : decide (o ≤ od k) = true := by simpa using e2
            by_cases e3 : od k < od p
            · have HN := Lib.hid (show bestI kd od o (k + 1) = some k by rw [bestI, if_pos ⟨e1, e2, fun b hb => by rw [hB] at hb; cases hb; exact e3⟩])
              rw [e1] at k0
              have d2 : decide (od k < od p) = true := by simpa using e3
              clear hB e1 e2 e3 hp2 hp3
              generalize od k = d at *
              generalize od p = dp at *
              simp only [bestV] at *
              go_wp2
              go_quiet (fail)
              go_wp2
              go_roundw
              case rel => exact ⟨k + 1, by omega, by go_num, by rw [HN.out], (HX.out.alloc _).drewN nq⟩
              case measure => simp [intOf]; omega
            · have HN := Lib.hid (show bestI kd od o (k + 1) = some p by rw [bestI, if_neg (fun hh => e3 (hh.2.2 p hB)), hB])
              rw [e1] at k0
              have d2 : decide (od k < od p) = false := by simpa using e3
              clear hB e1 e2 e3 hp2 hp3
              generalize od k = d at *
              generalize od p = dp at *
              simp only [bestV] at *
              go_wp2
              go_quiet (fail)
              go_wp2
              go_roundw
              case rel => exact ⟨k + 1, by omega, by go_num, by rw [HN.out], (HX.out.alloc _).drewN nq⟩
              case measure => simp [intOf]; omega
        · have HN := Lib.hid (show bestI kd od o (k + 1) = bestI kd od o k by rw [bestI, if_neg (fun hh => e2 hh.2.1)])
          rw [e1] at k0
          have d1 : decide (o ≤ od k) = false := by simpa using e2
          clear e1 e2
          generalize od k = d at *
          generalize hbv : bestV (bestI kd od o k) = bv at *
          have HBV := Lib.hid hbv
          clear hbv
          go_wp2
          go_quiet (fail)
          go_wp2
          go_roundw
          case rel => exact ⟨k + 1, by omega, by go_num, by rw [HN.out, HBV.out], (HX.out.alloc _).drewN nq⟩
          case measure => simp [intOf]; omega
      · have HN := Lib.hid (show bestI kd od o (k + 1) = bestI kd od o k by rw [bestI, if_neg (fun hh => e1 hh.1)])
        have d1 : (((kd k : Nat) : Int) == 1) = false := beq_eq_false_iff_ne.2 (by omega)
        clear e1
        generalize od k = d at *
        generalize kd k = c at *
        generalize hbv : bestV (bestI kd od o k) = bv at *
        have HBV := Lib.hid hbv
        clear hbv
        go_wp2
        go_quiet (fail)
        go_wp2
        go_roundw
        case rel => exact ⟨k + 1, by omega, by go_num, by rw [HN.out, HBV.out], (HX.out.alloc _).drewN nq⟩
        case measure => simp [intOf]; omega
    · obtain rfl : n = k := by omega
      have HX := Lib.hid hx
      have HR := Lib.hid Hr
      clear hx Hr
      cases hB : bestI kd od o n with
      | none =>
        simp only [bestV] at *
        have HB := Lib.hid hB
        clear hB
        go_wp2
        go_ret2
        rw [HB.out]
        exact ⟨rfl, HX.out⟩
      | some p =>
        obtain ⟨hp1, hp2, hp3⟩ := bestI_some hB
        have hM9 := HT.out.ord p hp1 (by omega)
        have HIN := Lib.hid (fun k hk => HT.out.inner hp1 (by omega) (k := k) hk)
        have HB := Lib.hid hB
        have k1 := HR.out.oc hp1
        have p0 : (0 : Int) ≤ (p : Int) := by omega
        have p1 : (p : Int) < (n : Int) := by omega
        have p2 : decide ((p : Int) < 0) = false := by simp
        obtain ⟨M, hM⟩ : ∃ M, M = od p := ⟨_, rfl⟩
        rw [← hM] at k1 hp3 hM9 HIN
        have HM := Lib.hid hM
        clear hB hp2 hM hk hlt
        simp only [bestV]
        go_wp2
        go_loopw [9] (fun z wr => ∃ (m : Nat) (x : Int), o ≤ m ∧ m ≤ M ∧ z = .int .i64 x ∧ x = (m : Int) - 1 ∧ Ext [bl] w wr ∧ Bud wr bp bl F n (splK kd p m M) (splO od p m M)) (fun z _ => (intOf z + 1).toNat)
        case atStart => exact ⟨M, _, hp3, Nat.le_refl _, rfl, rfl, HX.out.mono (by simp), by rw [splK_top, splO_top]; exact HR.out⟩
        case round =>
          obtain ⟨m, x, hm1, hm2, rfl, hx, hxx, hR⟩ := hrel
          have c1 := hR.head.cell 1
          by_cases hlt : o < m
          · obtain ⟨m', rfl⟩ : ∃ m', m = m' + 1 := ⟨m - 1, by omega⟩
            obtain rfl : x = (m' : Int) := by omega
            obtain ⟨hin1, hin2⟩ := HIN.out m' (by omega)
            have hw := pow_wrap9 (show m' ≤ 9 by omega)
            have hw3 : IntKind.i64.wrap (2 ^ m') = ((2 ^ m' : Nat) : Int) := (IntWalk.i64_left _).trans hw
            have hq9 := pow_le9 (show m' ≤ 9 by omega)
            have e1 := splK_step kd p M m' (by omega)
            have e2 := splO_step od p M m' (by omega)
            have HE := Lib.hid (And.intro e1 e2)
            have HP := Lib.hid (hR.put hin1 1 m')
            have t0 := hR.kc hin1
            have t1 := hR.oc hin1
            have f0 := hR.tab.fr (show (p + 2 ^ m') * 2 < n * 2 by omega)
            have f1 := hR.tab.fr (show (p + 2 ^ m') * 2 + 1 < n * 2 by omega)
            have hne := hR.ne
            have HXX := Lib.hid hxx
            have hd : decide ((m' : Int) ≥ (o : Int)) = true := by simp; omega
            have hd' : decide (o ≤ m') = true := by simp; omega
            have m0 : (0 : Int) ≤ (m' : Int) := by omega
            clear hxx hR e1 e2 hx hin2
            generalize 2 ^ m' = q at *
            have hw2 : IntKind.i64.wrap ((p : Int) + (q : Int)) = (p : Int) + (q : Int) := IntWalk.i64_in _ (by omega)
            have hn2 : ((p : Int) + (q : Int)).toNat = p + q := by omega
            have q0 : (0 : Int) ≤ (p : Int) + (q : Int) := by omega
            have q1 : (p : Int) + (q : Int) < (n : Int) := by omega
            go_wp2
            go_region_held3 (fun cur => cur.cell? ⟨bp, 1, none⟩ = some (.slice (some ⟨bl, 0, none⟩) n n)) (first | exact ((HP.out).ext (Ext.refl [] _).drew (by simp) (by simp)).head.cell 1 | go_keep) (fail)
            go_wp2
            go_roundw
            case rel => exact ⟨m', (m' : Int) - 1, by omega, by omega, rfl, rfl, ((HXX.out.setCell _ _ (.inl (by simp))).setCell _ _ (.inl (by simp))).drew, by rw [HE.out.1, HE.out.2]; exact (HP.out).ext (Ext.refl [] _).drew (by simp) (by simp)⟩
            case measure => simp [intOf]
          · obtain rfl : m = o := by omega
            have hd : decide (x ≥ (m : Int)) = false := by simp; omega
            have hd' : decide ((m : Int) ≤ x) = false := by simp; omega
            have HXX := Lib.hid hxx
            have HP : Hid (Bud ((wr.setCell ⟨bl, p * 2, none⟩ (.int .i64 2)).setCell ⟨bl, p * 2 + 1, none⟩ (.int .i64 (m : Int))) bp bl F n (upd (splK kd p m M) p 2) (upd (splO od p m M) p m)) := hR.put hp1 2 m
            have t0 := hR.kc hp1
            have t1 := hR.oc hp1
            have f0 := hR.tab.fr (show p * 2 < n * 2 by omega)
            have f1 := hR.tab.fr (show p * 2 + 1 < n * 2 by omega)
            have hne := hR.ne
            have c0 := HP.out.head.cell 0
            clear hxx hR
            go_wp2
            go_ret2
            rw [HB.out]
            refine ⟨rfl, (HXX.out.setCell _ _ (.inl (by simp))).setCell _ _ (.inl (by simp)), ?_⟩
            unfold alK alO
            rw [← HM.out]
            exact HP.out
end

end Go.Proofs.Ytkpnmknkimlnaaa
