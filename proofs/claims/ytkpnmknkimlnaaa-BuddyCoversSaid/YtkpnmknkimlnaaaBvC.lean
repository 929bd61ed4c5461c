/-
  Buddy: Free and Shatter.
-/
import Derived.Test.YtkpnmknkimlnaaaBvB
namespace Go.Proofs.Ytkpnmknkimlnaaa
set_option linter.unusedVariables false
set_option linter.unusedSimpArgs false
open Go.RowKit BuT
set_option maxHeartbeats 4000000
set_option maxRecDepth 100000
set_option linter.unusedVariables false
set_option linter.unusedSimpArgs false

theorem xor_fin : ∀ p : Fin 1024, ∀ k : Fin 9, p.val % 2 ^ k.val = 0 → bits BinOp.xor IntKind.i64 (p.val : Int) ((2 ^ k.val : Nat) : Int) = ((oth p.val k.val : Nat) : Int) := by decide +kernel
theorem oth_lt {p k : Nat} (hp : p < 1024) (hk : k < 9) : oth p k < 2048 := by
  have : 2 ^ k ≤ 2 ^ 9 := Nat.pow_le_pow_right (by omega) (by omega)
  unfold oth; split <;> omega

section
variable {w : World} {bp bl F n : Nat} {kd od : Nat → Nat} (h : Bud w bp bl F n kd od)
include h
theorem Bud.free_no (f o : Int) (hf : f ≤ 9223372036854775807) (ht : takI F n kd od f o = -1) : Calls Try.prog 29 #[.pointer (some ⟨bp, 0, none⟩), .int .i64 f, .int .i64 o] w fun e w' => e = .returned (.int .i64 4) ∧ Ext [] w w' := by
  have CT := Lib.hid (h.taken_ f o hf)
  rw [ht] at CT
  have CN := Lib.hid (fun w' (e : Ext [] w w') => (h.ext e (by simp) (by simp)).none_)
  clear h ht
  go_enter Try.func29, Try.ntmps29
  go_wp2_with (first
    | (go_at_call 64; refine (CT.out).mono ?_; rintro e w' ⟨rfl, hx⟩; have HX := Lib.hid hx; clear hx)
    | (go_at_call 65; refine (CN.out _ HX.out).mono ?_; rintro e w' ⟨rfl, rfl⟩))
  go_ret
  exact ⟨rfl, HX.out⟩
theorem Bud.shatter_no (f o : Int) (hf : f ≤ 9223372036854775807) (ht : takI F n kd od f o = -1) : Calls Try.prog 34 #[.pointer (some ⟨bp, 0, none⟩), .int .i64 f, .int .i64 o] w fun e w' => e = .returned (.int .i64 4) ∧ Ext [] w w' := by
  have CT := Lib.hid (h.taken_ f o hf)
  rw [ht] at CT
  have CN := Lib.hid (fun w' (e : Ext [] w w') => (h.ext e (by simp) (by simp)).none_)
  clear h ht
  go_enter Try.func34, Try.ntmps34
  go_wp2_with (first
    | (go_at_call 64; refine (CT.out).mono ?_; rintro e w' ⟨rfl, hx⟩; have HX := Lib.hid hx; clear hx)
    | (go_at_call 65; refine (CN.out _ HX.out).mono ?_; rintro e w' ⟨rfl, rfl⟩))
  go_ret
  exact ⟨rfl, HX.out⟩

theorem Bud.shatter_is (ht : Tiles kd od n) {p : Nat} (hp : p < n) (h2 : kd p = 2) : Calls Try.prog 34 #[.pointer (some ⟨bp, 0, none⟩), .int .i64 ((F : Int) + (p : Int)), .int .i64 ((od p : Nat) : Int)] w fun e w' =>
    e = .returned (.int .i64 0) ∧ Ext [bl] w w' ∧ Bud w' bp bl F n (shK kd p (2 ^ od p)) (shO od p (2 ^ od p)) := by
  have CT := Lib.hid (h.taken_is hp h2)
  have n1 := h.n1
  have n2 := h.n2
  have ho9 := ht.ord p hp (by omega)
  have hf := ht.fits p hp (by omega)
  have H := Lib.hid h
  have hp0 : decide ((p : Int) < 0) = false := by simp
  obtain ⟨o, hO⟩ : ∃ o, o = od p := ⟨_, rfl⟩
  rw [← hO] at CT ho9 hf ⊢
  have hw := pow_wrap9 ho9
  have hq9 := pow_le9 ho9
  have o0 : (0 : Int) ≤ (o : Int) := by omega
  clear h ht h2 hO
  generalize 2 ^ o = m at *
  go_enter Try.func34, Try.ntmps34
  go_wp2_with (first
    | (go_at_call 64; refine (CT.out).mono ?_; rintro e w' ⟨rfl, hx⟩; have HX := Lib.hid hx; clear hx))
  go_loopw [19] (fun z wr => ∃ i : Nat, i ≤ m ∧ z = .int .i64 i ∧ Ext [bl] w wr ∧ Bud wr bp bl F n (shK kd p i) (shO od p i)) (fun z _ => m - (intOf z).toNat)
  case atStart => exact ⟨0, by omega, rfl, HX.out.mono (by simp), H.out.ext HX.out (by simp) (by simp)⟩
  case round =>
    obtain ⟨i, hi, rfl, hx, hR⟩ := hrel
    have HXX := Lib.hid hx
    by_cases hlt : i < m
    · have hin : p + i < n := by omega
      have HP : Hid (Bud ((wr.setCell ⟨bl, (p + i) * 2, none⟩ (.int .i64 2)).setCell ⟨bl, (p + i) * 2 + 1, none⟩ (.int .i64 0)) bp bl F n (shK kd p (i + 1)) (shO od p (i + 1))) := hR.put hin 2 0
      have c1 := hR.head.cell 1
      have t0 := hR.kc hin
      have t1 := hR.oc hin
      have f0 := hR.tab.fr (show (p + i) * 2 < n * 2 by omega)
      have f1 := hR.tab.fr (show (p + i) * 2 + 1 < n * 2 by omega)
      have hne := hR.ne
      have hd : decide ((i : Int) < (m : Int)) = true := by simp; omega
      have hd' : decide (i < m) = true := by simp; omega
      have q0 : (0 : Int) ≤ (p : Int) + (i : Int) := by omega
      have q1 : (p : Int) + (i : Int) < (n : Int) := by omega
      have hn2 : ((p : Int) + (i : Int)).toNat = p + i := by omega
      clear hx hR
      go_wp2
      go_roundw
      case rel => exact ⟨i + 1, by omega, by go_num, (HXX.out.setCell _ _ (.inl (by simp))).setCell _ _ (.inl (by simp)), HP.out⟩
      case measure => simp [intOf]; omega
    · obtain rfl : i = m := by omega
      have HR := Lib.hid hR
      clear hx hR
      go_wp2
      go_ret
      exact ⟨rfl, HXX.out, HR.out⟩
/-- What Free leaves. -/
def FreeRet (w : World) (bp bl F n : Nat) (G T : List Bk) (e : Ending) (w' : World) : Prop :=
  e = .returned (.int .i64 0) ∧ Ext [bl] w w' ∧ ∃ kd od, Bud w' bp bl F n kd od ∧ Tiles kd od n ∧ NoBud kd od n ∧ blks F kd od 1 n = G ∧ blks F kd od 2 n = T
theorem Bud.free_is (ht : Tiles kd od n) (hb : NoBud kd od n) {p0 : Nat} (hp : p0 < n) (h2 : kd p0 = 2) : Calls Try.prog 29 #[.pointer (some ⟨bp, 0, none⟩), .int .i64 ((F : Int) + (p0 : Int)), .int .i64 ((od p0 : Nat) : Int)] w
    (FreeRet w bp bl F n (giveR F (9 - od p0) (blks F kd od 1 n) p0 (od p0)) (blks F (upd kd p0 0) od 2 n)) := by
  have CT := Lib.hid (h.taken_is hp h2)
  have n1 := h.n1
  have n2 := h.n2
  have F8 := h.F8
  have hI0 := FrI.start (F := F) ht hb hp h2
  generalize giveR F (9 - od p0) (blks F kd od 1 n) p0 (od p0) = G at *
  generalize blks F (upd kd p0 0) od 2 n = T at *
  have H := Lib.hid h
  have HI0 := Lib.hid hI0
  have hp0 : decide ((p0 : Int) < 0) = false := by simp
  have hs2 : (F : Int) + (p0 : Int) - (F : Int) = (p0 : Int) := by omega
  have hs3 : IntKind.i64.wrap ((p0 : Nat) : Int) = (p0 : Int) := IntWalk.i64_in _ (by omega)
  clear h ht h2 hb hI0
  go_enter Try.func29, Try.ntmps29
  go_wp2_with (first
    | (go_at_call 64; refine (CT.out).mono ?_; rintro e w' ⟨rfl, hx⟩; have HX := Lib.hid hx; clear hx))
  go_loopw [7, 8] (fun a z wr => ∃ (p k : Nat) (kd od : Nat → Nat), a = .int .i64 p ∧ z = .int .i64 k ∧ Ext [bl] w wr ∧ Bud wr bp bl F n kd od ∧ FrI F kd od n p0 p k G T) (fun _ z _ => 9 - (intOf z).toNat)
  case atStart => exact ⟨p0, od p0, kd, od, rfl, rfl, HX.out.mono (by simp), H.out.ext HX.out (by simp) (by simp), HI0.out⟩
  case round =>
    obtain ⟨p, k, kd, od, rfl, rfl, hx, hR, hI⟩ := hrel
    have HXX := Lib.hid hx
    have c0 := hR.head.cell 0
    have c1 := hR.head.cell 1
    have hne := hR.ne
    have k9 := hI.k9
    by_cases hk : k < 9
    · have hpn' := hI.lt
      have hxor := xor_fin ⟨p, by omega⟩ ⟨k, hk⟩ hI.al.1
      have hw := pow_wrap9 (show k ≤ 9 by omega)
      have hol := oth_lt (show p < 1024 by omega) hk
      simp only [] at hxor
      obtain ⟨q, hq⟩ : ∃ q, q = oth p k := ⟨_, rfl⟩
      rw [← hq] at hxor hol
      have hkd : decide ((k : Int) < 9) = true := by simp; omega
      have q0 : (0 : Int) ≤ (q : Int) := by omega
      generalize hpw : ((2 ^ k : Nat) : Int) = pw at *
      clear hpw
      by_cases hqn : q < n
      · have q1 : (q : Int) < (n : Int) := by omega
        have hqd : decide (n ≤ q) = false := by simp; omega
        have t0 := hR.kc hqn
        have t1 := hR.oc hqn
        by_cases e1 : kd q = 1
        · by_cases e2 : od q = k
          · have hI' := hI.step hk (by rw [← hq]; exact hqn) (by rw [← hq]; exact e1) (by rw [← hq]; exact e2)
            rw [← hq] at hI'
            obtain ⟨hi, hhi⟩ : ∃ hi, hi = max p q := ⟨_, rfl⟩
            obtain ⟨lo, hlo⟩ : ∃ lo, lo = min p q := ⟨_, rfl⟩
            rw [← hhi, ← hlo] at hI'
            have m1 : mxI (p : Int) (q : Int) = (hi : Int) := by unfold mxI; omega
            have m2 : mnI (p : Int) (q : Int) = (lo : Int) := by unfold mnI; omega
            have hin1 : hi < n := by omega
            have hin2 : lo < n := by omega
            have hP1 : Bud ((wr.setCell ⟨bl, hi * 2, none⟩ (.int .i64 0)).setCell ⟨bl, hi * 2 + 1, none⟩ (.int .i64 0)) bp bl F n (upd kd hi 0) (upd od hi 0) := hR.put hin1 0 0
            have HP : Hid (Bud ((((wr.setCell ⟨bl, hi * 2, none⟩ (.int .i64 0)).setCell ⟨bl, hi * 2 + 1, none⟩ (.int .i64 0)).setCell ⟨bl, lo * 2, none⟩ (.int .i64 0)).setCell ⟨bl, lo * 2 + 1, none⟩ (.int .i64 0)) bp bl F n (upd (upd kd hi 0) lo 0) (upd (upd od hi 0) lo 0)) := hP1.put hin2 0 0
            have HI' := Lib.hid hI'
            rw [e1] at t0
            rw [e2] at t1
            have a0 : (0 : Int) ≤ (hi : Int) := by omega
            have a1 : (hi : Int) < (n : Int) := by omega
            have b0 : (0 : Int) ≤ (lo : Int) := by omega
            have b1 : (lo : Int) < (n : Int) := by omega
            have u0 := hR.kc hin1
            have u1 := hR.oc hin1
            have g0 := hR.tab.fr (show hi * 2 < n * 2 by omega)
            have g1 := hR.tab.fr (show hi * 2 + 1 < n * 2 by omega)
            have v0 := hP1.kc hin2
            have v1 := hP1.oc hin2
            have x0 := hP1.tab.fr (show lo * 2 < n * 2 by omega)
            have x1 := hP1.tab.fr (show lo * 2 + 1 < n * 2 by omega)
            have y1 := hP1.head.cell 1
            clear hI' hI hR hx hq e1 e2 hhi hlo hP1
            go_wp2
            go_roundw
            case rel => exact ⟨lo, k + 1, _, _, rfl, by go_num, (((HXX.out.setCell _ _ (.inl (by simp))).setCell _ _ (.inl (by simp))).setCell _ _ (.inl (by simp))).setCell _ _ (.inl (by simp)), HP.out, HI'.out⟩
            case measure => simp [intOf]; omega
          · have hex : k = 9 ∨ ¬ (oth p k < n ∧ kd (oth p k) = 1 ∧ od (oth p k) = k) := .inr (fun h => e2 (by rw [hq]; exact h.2.2))
            rw [e1] at t0
            have e3 : (((od q : Nat) : Int) == (k : Int)) = false := beq_eq_false_iff_ne.2 (by omega)
            generalize od q = dq at *
            clear e1 e2 hq
            by_cases hpp : p = p0
            · obtain rfl : p0 = p := hpp.symm
              have hd := hI.done hex 0 0 (fun e => absurd rfl e)
              rw [if_pos rfl, if_pos rfl] at hd
              have HD := Lib.hid hd
              have HP : Hid (Bud ((wr.setCell ⟨bl, p0 * 2, none⟩ (.int .i64 1)).setCell ⟨bl, p0 * 2 + 1, none⟩ (.int .i64 (k : Int))) bp bl F n (upd kd p0 1) (upd od p0 k)) := hR.put hI.lt 1 k
              have hpd : ((p0 : Int) != (p0 : Int)) = false := by simp
              have hpn := hI.lt
              have j0 : (0 : Int) ≤ (p0 : Int) := by omega
              have j1 : (p0 : Int) < (n : Int) := by omega
              have u0 := hR.kc hI.lt
              have u1 := hR.oc hI.lt
              have g0 := hR.tab.fr (show p0 * 2 < n * 2 by omega)
              have g1 := hR.tab.fr (show p0 * 2 + 1 < n * 2 by omega)
              clear hd hI hR hex hx
              go_wp2
              go_ret
              exact ⟨rfl, (HXX.out.setCell _ _ (.inl (by simp))).setCell _ _ (.inl (by simp)), _, _, HP.out, HD.out⟩
            · have hd := hI.done hex 0 0 (fun _ => rfl)
              rw [if_neg hpp, if_neg hpp] at hd
              have HD := Lib.hid hd
              have hp0n : p0 < n := by have := hI.al.2; have := hI.hi; omega
              have hP1 := hR.put hp0n 0 0
              have HP1 : Hid (Bud ((wr.setCell ⟨bl, p0 * 2, none⟩ (.int .i64 0)).setCell ⟨bl, p0 * 2 + 1, none⟩ (.int .i64 0)) bp bl F n (upd kd p0 0) (upd od p0 0)) := hP1
              have hP1' := HP1.out
              have HP : Hid (Bud ((((wr.setCell ⟨bl, p0 * 2, none⟩ (.int .i64 0)).setCell ⟨bl, p0 * 2 + 1, none⟩ (.int .i64 0)).setCell ⟨bl, p * 2, none⟩ (.int .i64 1)).setCell ⟨bl, p * 2 + 1, none⟩ (.int .i64 (k : Int))) bp bl F n (upd (upd kd p0 0) p 1) (upd (upd od p0 0) p k)) := hP1'.put hI.lt 1 k
              have hpd : ((p : Int) != (p0 : Int)) = true := by simp; omega
              have hpn := hI.lt
              have j0 : (0 : Int) ≤ (p : Int) := by omega
              have j1 : (p : Int) < (n : Int) := by omega
              have l0 : (0 : Int) ≤ (p0 : Int) := by omega
              have l1 : (p0 : Int) < (n : Int) := by omega
              have u0 := hR.kc hp0n
              have u1 := hR.oc hp0n
              have g0 := hR.tab.fr (show p0 * 2 < n * 2 by omega)
              have g1 := hR.tab.fr (show p0 * 2 + 1 < n * 2 by omega)
              have v0 := hP1'.kc hI.lt
              have v1 := hP1'.oc hI.lt
              have x0 := hP1'.tab.fr (show p * 2 < n * 2 by omega)
              have x1 := hP1'.tab.fr (show p * 2 + 1 < n * 2 by omega)
              have y0 := hP1'.head.cell 0
              have y1 := hP1'.head.cell 1
              have V := Lib.hid (And.intro v0 (And.intro v1 (And.intro x0 (And.intro x1 (And.intro y0 y1)))))
              clear hd hI hR hex hx hP1 hP1' v0 v1 x0 x1 y0 y1
              go_wp2
              obtain ⟨v0, v1, x0, x1, y0, y1⟩ := V.out
              go_region_held3 (fun cur => cur.cell? ⟨bp, 0, none⟩ = some (.int .i64 (F : Int)) ∧ cur.cell? ⟨bp, 1, none⟩ = some (.slice (some ⟨bl, 0, none⟩) n n)) (first | exact ⟨y0, y1⟩ | go_keep) (fail)
              go_wp2
              go_ret
              exact ⟨rfl, ((((HXX.out.setCell _ _ (.inl (by simp))).setCell _ _ (.inl (by simp)))).setCell _ _ (.inl (by simp))).setCell _ _ (.inl (by simp)) |>.drew, _, _, HP.out.ext (Ext.refl [] _).drew (by simp) (by simp), HD.out⟩
        · have hex : k = 9 ∨ ¬ (oth p k < n ∧ kd (oth p k) = 1 ∧ od (oth p k) = k) := .inr (fun h => e1 (by rw [hq]; exact h.2.1))
          have e3 : (((kd q : Nat) : Int) == 1) = false := beq_eq_false_iff_ne.2 (by omega)
          generalize kd q = cq at *
          generalize od q = dq at *
          clear e1 hq
          by_cases hpp : p = p0
          · obtain rfl : p0 = p := hpp.symm
            have hd := hI.done hex 0 0 (fun e => absurd rfl e)
            rw [if_pos rfl, if_pos rfl] at hd
            have HD := Lib.hid hd
            have HP : Hid (Bud ((wr.setCell ⟨bl, p0 * 2, none⟩ (.int .i64 1)).setCell ⟨bl, p0 * 2 + 1, none⟩ (.int .i64 (k : Int))) bp bl F n (upd kd p0 1) (upd od p0 k)) := hR.put hI.lt 1 k
            have hpd : ((p0 : Int) != (p0 : Int)) = false := by simp
            have hpn := hI.lt
            have j0 : (0 : Int) ≤ (p0 : Int) := by omega
            have j1 : (p0 : Int) < (n : Int) := by omega
            have u0 := hR.kc hI.lt
            have u1 := hR.oc hI.lt
            have g0 := hR.tab.fr (show p0 * 2 < n * 2 by omega)
            have g1 := hR.tab.fr (show p0 * 2 + 1 < n * 2 by omega)
            clear hd hI hR hex hx
            go_wp2
            go_ret
            exact ⟨rfl, (HXX.out.setCell _ _ (.inl (by simp))).setCell _ _ (.inl (by simp)), _, _, HP.out, HD.out⟩
          · have hd := hI.done hex 0 0 (fun _ => rfl)
            rw [if_neg hpp, if_neg hpp] at hd
            have HD := Lib.hid hd
            have hp0n : p0 < n := by have := hI.al.2; have := hI.hi; omega
            have hP1 := hR.put hp0n 0 0
            have HP1 : Hid (Bud ((wr.setCell ⟨bl, p0 * 2, none⟩ (.int .i64 0)).setCell ⟨bl, p0 * 2 + 1, none⟩ (.int .i64 0)) bp bl F n (upd kd p0 0) (upd od p0 0)) := hP1
            have hP1' := HP1.out
            have HP : Hid (Bud ((((wr.setCell ⟨bl, p0 * 2, none⟩ (.int .i64 0)).setCell ⟨bl, p0 * 2 + 1, none⟩ (.int .i64 0)).setCell ⟨bl, p * 2, none⟩ (.int .i64 1)).setCell ⟨bl, p * 2 + 1, none⟩ (.int .i64 (k : Int))) bp bl F n (upd (upd kd p0 0) p 1) (upd (upd od p0 0) p k)) := hP1'.put hI.lt 1 k
            have hpd : ((p : Int) != (p0 : Int)) = true := by simp; omega
            have hpn := hI.lt
            have j0 : (0 : Int) ≤ (p : Int) := by omega
            have j1 : (p : Int) < (n : Int) := by omega
            have l0 : (0 : Int) ≤ (p0 : Int) := by omega
            have l1 : (p0 : Int) < (n : Int) := by omega
            have u0 := hR.kc hp0n
            have u1 := hR.oc hp0n
            have g0 := hR.tab.fr (show p0 * 2 < n * 2 by omega)
            have g1 := hR.tab.fr (show p0 * 2 + 1 < n * 2 by omega)
            have v0 := hP1'.kc hI.lt
            have v1 := hP1'.oc hI.lt
            have x0 := hP1'.tab.fr (show p * 2 < n * 2 by omega)
            have x1 := hP1'.tab.fr (show p * 2 + 1 < n * 2 by omega)
            have y0 := hP1'.head.cell 0
            have y1 := hP1'.head.cell 1
            have V := Lib.hid (And.intro v0 (And.intro v1 (And.intro x0 (And.intro x1 (And.intro y0 y1)))))
            clear hd hI hR hex hx hP1 hP1' v0 v1 x0 x1 y0 y1
            go_wp2
            obtain ⟨v0, v1, x0, x1, y0, y1⟩ := V.out
            go_region_held3 (fun cur => cur.cell? ⟨bp, 0, none⟩ = some (.int .i64 (F : Int)) ∧ cur.cell? ⟨bp, 1, none⟩ = some (.slice (some ⟨bl, 0, none⟩) n n)) (first | exact ⟨y0, y1⟩ | go_keep) (fail)
            go_wp2
            go_ret
            exact ⟨rfl, ((((HXX.out.setCell _ _ (.inl (by simp))).setCell _ _ (.inl (by simp)))).setCell _ _ (.inl (by simp))).setCell _ _ (.inl (by simp)) |>.drew, _, _, HP.out.ext (Ext.refl [] _).drew (by simp) (by simp), HD.out⟩
      · have hex : k = 9 ∨ ¬ (oth p k < n ∧ kd (oth p k) = 1 ∧ od (oth p k) = k) := .inr (fun h => hqn (by rw [hq]; exact h.1))
        have hqd : decide (n ≤ q) = true := by simp; omega
        clear hq
        by_cases hpp : p = p0
        · obtain rfl : p0 = p := hpp.symm
          have hd := hI.done hex 0 0 (fun e => absurd rfl e)
          rw [if_pos rfl, if_pos rfl] at hd
          have HD := Lib.hid hd
          have HP : Hid (Bud ((wr.setCell ⟨bl, p0 * 2, none⟩ (.int .i64 1)).setCell ⟨bl, p0 * 2 + 1, none⟩ (.int .i64 (k : Int))) bp bl F n (upd kd p0 1) (upd od p0 k)) := hR.put hI.lt 1 k
          have hpd : ((p0 : Int) != (p0 : Int)) = false := by simp
          have hpn := hI.lt
          have j0 : (0 : Int) ≤ (p0 : Int) := by omega
          have j1 : (p0 : Int) < (n : Int) := by omega
          have u0 := hR.kc hI.lt
          have u1 := hR.oc hI.lt
          have g0 := hR.tab.fr (show p0 * 2 < n * 2 by omega)
          have g1 := hR.tab.fr (show p0 * 2 + 1 < n * 2 by omega)
          clear hd hI hR hex hx
          go_wp2
          go_ret
          exact ⟨rfl, (HXX.out.setCell _ _ (.inl (by simp))).setCell _ _ (.inl (by simp)), _, _, HP.out, HD.out⟩
        · have hd := hI.done hex 0 0 (fun _ => rfl)
          rw [if_neg hpp, if_neg hpp] at hd
          have HD := Lib.hid hd
          have hp0n : p0 < n := by have := hI.al.2; have := hI.hi; omega
          have hP1 := hR.put hp0n 0 0
          have HP1 : Hid (Bud ((wr.setCell ⟨bl, p0 * 2, none⟩ (.int .i64 0)).setCell ⟨bl, p0 * 2 + 1, none⟩ (.int .i64 0)) bp bl F n (upd kd p0 0) (upd od p0 0)) := hP1
          have hP1' := HP1.out
          have HP : Hid (Bud ((((wr.setCell ⟨bl, p0 * 2, none⟩ (.int .i64 0)).setCell ⟨bl, p0 * 2 + 1, none⟩ (.int .i64 0)).setCell ⟨bl, p * 2, none⟩ (.int .i64 1)).setCell ⟨bl, p * 2 + 1, none⟩ (.int .i64 (k : Int))) bp bl F n (upd (upd kd p0 0) p 1) (upd (upd od p0 0) p k)) := hP1'.put hI.lt 1 k
          have hpd : ((p : Int) != (p0 : Int)) = true := by simp; omega
          have hpn := hI.lt
          have j0 : (0 : Int) ≤ (p : Int) := by omega
          have j1 : (p : Int) < (n : Int) := by omega
          have l0 : (0 : Int) ≤ (p0 : Int) := by omega
          have l1 : (p0 : Int) < (n : Int) := by omega
          have u0 := hR.kc hp0n
          have u1 := hR.oc hp0n
          have g0 := hR.tab.fr (show p0 * 2 < n * 2 by omega)
          have g1 := hR.tab.fr (show p0 * 2 + 1 < n * 2 by omega)
          have v0 := hP1'.kc hI.lt
          have v1 := hP1'.oc hI.lt
          have x0 := hP1'.tab.fr (show p * 2 < n * 2 by omega)
          have x1 := hP1'.tab.fr (show p * 2 + 1 < n * 2 by omega)
          have y0 := hP1'.head.cell 0
          have y1 := hP1'.head.cell 1
          have V := Lib.hid (And.intro v0 (And.intro v1 (And.intro x0 (And.intro x1 (And.intro y0 y1)))))
          clear hd hI hR hex hx hP1 hP1' v0 v1 x0 x1 y0 y1
          go_wp2
          obtain ⟨v0, v1, x0, x1, y0, y1⟩ := V.out
          go_region_held3 (fun cur => cur.cell? ⟨bp, 0, none⟩ = some (.int .i64 (F : Int)) ∧ cur.cell? ⟨bp, 1, none⟩ = some (.slice (some ⟨bl, 0, none⟩) n n)) (first | exact ⟨y0, y1⟩ | go_keep) (fail)
          go_wp2
          go_ret
          exact ⟨rfl, ((((HXX.out.setCell _ _ (.inl (by simp))).setCell _ _ (.inl (by simp)))).setCell _ _ (.inl (by simp))).setCell _ _ (.inl (by simp)) |>.drew, _, _, HP.out.ext (Ext.refl [] _).drew (by simp) (by simp), HD.out⟩
    · have hex : k = 9 ∨ ¬ (oth p k < n ∧ kd (oth p k) = 1 ∧ od (oth p k) = k) := .inl (by omega)
      have hkd : decide ((k : Int) < 9) = false := by simp; omega
      by_cases hpp : p = p0
      · obtain rfl : p0 = p := hpp.symm
        have hd := hI.done hex 0 0 (fun e => absurd rfl e)
        rw [if_pos rfl, if_pos rfl] at hd
        have HD := Lib.hid hd
        have HP : Hid (Bud ((wr.setCell ⟨bl, p0 * 2, none⟩ (.int .i64 1)).setCell ⟨bl, p0 * 2 + 1, none⟩ (.int .i64 (k : Int))) bp bl F n (upd kd p0 1) (upd od p0 k)) := hR.put hI.lt 1 k
        have hpd : ((p0 : Int) != (p0 : Int)) = false := by simp
        have hpn := hI.lt
        have j0 : (0 : Int) ≤ (p0 : Int) := by omega
        have j1 : (p0 : Int) < (n : Int) := by omega
        have u0 := hR.kc hI.lt
        have u1 := hR.oc hI.lt
        have g0 := hR.tab.fr (show p0 * 2 < n * 2 by omega)
        have g1 := hR.tab.fr (show p0 * 2 + 1 < n * 2 by omega)
        clear hd hI hR hex hx
        go_wp2
        go_ret
        exact ⟨rfl, (HXX.out.setCell _ _ (.inl (by simp))).setCell _ _ (.inl (by simp)), _, _, HP.out, HD.out⟩
      · have hd := hI.done hex 0 0 (fun _ => rfl)
        rw [if_neg hpp, if_neg hpp] at hd
        have HD := Lib.hid hd
        have hp0n : p0 < n := by have := hI.al.2; have := hI.hi; omega
        have hP1 := hR.put hp0n 0 0
        have HP1 : Hid (Bud ((wr.setCell ⟨bl, p0 * 2, none⟩ (.int .i64 0)).setCell ⟨bl, p0 * 2 + 1, none⟩ (.int .i64 0)) bp bl F n (upd kd p0 0) (upd od p0 0)) := hP1
        have hP1' := HP1.out
        have HP : Hid (Bud ((((wr.setCell ⟨bl, p0 * 2, none⟩ (.int .i64 0)).setCell ⟨bl, p0 * 2 + 1, none⟩ (.int .i64 0)).setCell ⟨bl, p * 2, none⟩ (.int .i64 1)).setCell ⟨bl, p * 2 + 1, none⟩ (.int .i64 (k : Int))) bp bl F n (upd (upd kd p0 0) p 1) (upd (upd od p0 0) p k)) := hP1'.put hI.lt 1 k
        have hpd : ((p : Int) != (p0 : Int)) = true := by simp; omega
        have hpn := hI.lt
        have j0 : (0 : Int) ≤ (p : Int) := by omega
        have j1 : (p : Int) < (n : Int) := by omega
        have l0 : (0 : Int) ≤ (p0 : Int) := by omega
        have l1 : (p0 : Int) < (n : Int) := by omega
        have u0 := hR.kc hp0n
        have u1 := hR.oc hp0n
        have g0 := hR.tab.fr (show p0 * 2 < n * 2 by omega)
        have g1 := hR.tab.fr (show p0 * 2 + 1 < n * 2 by omega)
        have v0 := hP1'.kc hI.lt
        have v1 := hP1'.oc hI.lt
        have x0 := hP1'.tab.fr (show p * 2 < n * 2 by omega)
        have x1 := hP1'.tab.fr (show p * 2 + 1 < n * 2 by omega)
        have y0 := hP1'.head.cell 0
        have y1 := hP1'.head.cell 1
        have V := Lib.hid (And.intro v0 (And.intro v1 (And.intro x0 (And.intro x1 (And.intro y0 y1)))))
        clear hd hI hR hex hx hP1 hP1' v0 v1 x0 x1 y0 y1
        go_wp2
        obtain ⟨v0, v1, x0, x1, y0, y1⟩ := V.out
        go_region_held3 (fun cur => cur.cell? ⟨bp, 0, none⟩ = some (.int .i64 (F : Int)) ∧ cur.cell? ⟨bp, 1, none⟩ = some (.slice (some ⟨bl, 0, none⟩) n n)) (first | exact ⟨y0, y1⟩ | go_keep) (fail)
        go_wp2
        go_ret
        exact ⟨rfl, ((((HXX.out.setCell _ _ (.inl (by simp))).setCell _ _ (.inl (by simp)))).setCell _ _ (.inl (by simp))).setCell _ _ (.inl (by simp)) |>.drew, _, _, HP.out.ext (Ext.refl [] _).drew (by simp) (by simp), HD.out⟩
end

end Go.Proofs.Ytkpnmknkimlnaaa
