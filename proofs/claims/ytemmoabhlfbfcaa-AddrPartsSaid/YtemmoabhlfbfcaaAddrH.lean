/-
  Walks: the reference's lists of pages and of nodes; the laws AddrGoes and AddrMasks.
-/
import Derived.Test.YtemmoabhlfbfcaaAddrG
import Derived.Deep.RegionWith
import Derived.Deep.DeepMust
namespace Go.Proofs.Ytemmoabhlfbfcaa
set_option linter.unusedVariables false
set_option linter.unusedSimpArgs false
open Go.RowKit
set_option maxHeartbeats 400000
set_option maxRecDepth 100000

/-- A new slice of these numbers. -/
def RetN (B : Nat) (L : List Nat) (w : World) (e : Ending) (w' : World) : Prop :=
  ∃ v, e = .returned v ∧ w'.ownsRow B 3 1 v L.length (encN L) ∧ Ext [] w w'

theorem upto_snoc {p : Nat → Bool} {k : Nat} (h : p k = true) : encN (upto p (k + 1)) = encN (upto p k) ++ [.int .i64 (k : Int)] ∧ (upto p (k + 1)).length = (upto p k).length + 1 := by
  rw [upto_succ, if_pos h]; exact ⟨(encN_snoc _ _).symm, by simp⟩

theorem own_above {w w1 w2 : World} {base e sz n : Nat} {v v' : Value} {xs : List Value} (h : w.ownsRow base e sz v n xs) (hn : ∀ b, v'.ownBlock = some b → v.ownBlock = some b ∨ w1.heap.size ≤ b) (hs : base ≤ w1.heap.size) : ∀ b, v'.ownBlock = some b → base ≤ b := fun b hb => by
  rcases hn b hb with h' | h'
  · exact (h.lt b h').1
  · omega

theorem rpages_c (from_ to : Int) (w : World) : Calls Try.prog 24 #[.int .i64 from_, .int .i64 to] w (RetN w.heap.size (pagesL from_ to) w) := by
  go_enter Try.func24, Try.ntmps24
  go_wp2
  go_loopw [5, 6] (fun v p wr => ∃ k : Nat, k ≤ 4096 ∧ p = .int .i64 k ∧ wr.ownsRow w.heap.size 3 1 v (upto (inR from_ to) k).length (encN (upto (inR from_ to) k)) ∧ Ext [] w wr) (fun _ p _ => 4096 - (intOf p).toNat)
  case atStart => exact ⟨0, by omega, rfl, World.ownsRow_nil _ _ _ _, Ext.refl _ _⟩
  case round =>
    obtain ⟨k, hk, rfl, ho, hx⟩ := hrel
    have hsz := hx.size
    by_cases hlt : k < 4096
    · by_cases h1 : from_ ≤ k
      · by_cases h2 : (k : Int) < to
        · have hq : inR from_ to k = true := by simp [inR, h1, h2]
          obtain ⟨e1, e2⟩ := upto_snoc hq
          have E1 := Lib.hid e1
          have E2 := Lib.hid e2
          have hl := upto_le (inR from_ to) k
          clear e1 e2 hq
          generalize (upto (inR from_ to) k).length = n at *
          go_wp2_with (at_builtin; refine wpList_app T_int (ownsRow_ext ho ((Ext.refl [] _).alloc _) (by simp)) (Sl.lit wr 1 1 [.int .i64 (k : Int)] 3 (by decide) rfl) rfl rfl rfl rfl rfl (by simp [Value.oneCell']) (by unfold maxLen; omega) (by omega) (by simp; omega) ?_; intro v' w' hown' hext' hnew')
          go_roundw
          case rel => exact ⟨k + 1, by omega, by go_num, by rw [E1.out, E2.out]; exact hown', (hx.alloc _).step hext' (fun i hi => .inr (ho.lt i (of_mem_own hi)).1)⟩
          case measure => simp [intOf]; omega
        · have hq : ¬ inR from_ to k = true := by simp [inR, h1, h2]
          have Hq := Lib.hid (show upto (inR from_ to) (k + 1) = upto (inR from_ to) k by rw [upto_succ, if_neg hq])
          clear hq
          go_wp2
          go_roundw
          case rel => exact ⟨k + 1, by omega, by go_num, by rw [Hq.out]; exact ho, hx⟩
          case measure => simp [intOf]; omega
      · have hq : ¬ inR from_ to k = true := by simp [inR, h1]
        have Hq := Lib.hid (show upto (inR from_ to) (k + 1) = upto (inR from_ to) k by rw [upto_succ, if_neg hq])
        clear hq
        go_wp2
        go_roundw
        case rel => exact ⟨k + 1, by omega, by go_num, by rw [Hq.out]; exact ho, hx⟩
        case measure => simp [intOf]; omega
    · obtain rfl : k = 4096 := by omega
      go_wp2
      go_ret
      exact ⟨_, rfl, ho, hx⟩

theorem pagesL_le (from_ to : Int) : (pagesL from_ to).length ≤ 4096 := upto_le _ _

/-- Ext out of what lies in the context. -/
theorem Ext.tr {a b c : World} (h : Ext [] a b) (k : Ext [] b c) : Ext [] a c := h.trans k

set_option maxHeartbeats 4000000 in
theorem addrGoes_a (from_ to : Int) (m : Nat) (h1 : m ≤ 65535) (hm : (pagesL from_ to).length < m) (w : World) :
    Calls Try.prog 5 #[.int .i64 from_, .int .i64 to, .int .u16 m] w fun e w' => e = .returned (.bool true) ∧ Ext [] w w' := by
  have hL := pagesL_le from_ to
  obtain ⟨L, hLd⟩ : ∃ L, L = pagesL from_ to := ⟨_, rfl⟩
  rw [← hLd] at hL hm
  have Hp := Lib.hid (fun w => pages_it from_ to w)
  have Hr := Lib.hid (fun w => rpages_c from_ to w)
  rw [← hLd] at Hp Hr
  clear hLd
  go_enter Try.func5, Try.ntmps5
  have hx1 : Ext [] w ((w.alloc (.cells #[.int .i64 from_] 3)).alloc (.cells #[.int .i64 to] 3)) := ((Ext.refl _ _).alloc _).alloc _
  go_wp2_with (first
    | (go_at_call 23; refine (pages_c _ _ _).mono ?_; rintro e w' ⟨rfl, rfl⟩)
    | (go_at_call 24; refine (Hr.out _).mono ?_; rintro e w2 ⟨v, rfl, hown, hx⟩; obtain ⟨va, vc, rfl, hvc, hvm⟩ := ownsRow_form hown))
  have HG := Lib.hid (fun (k : Int) (w' : World) (h : Ext [] w2 w') => gone_c 50 _ _ L _ (Hp.out w) (Go.Proofs.enters_of Try.func50 (by kernel_rfl) rfl) hL k w' (by have := hx.size; have := h.size; omega)
      (fun b hb => by have hb' : b = w.heap.size ∨ b = w.heap.size + 1 := by simpa using hb
                      have hlt : b < ((w.alloc (.cells #[.int .i64 from_] 3)).alloc (.cells #[.int .i64 to] 3)).heap.size := by simp; omega
                      exact ⟨hlt, (hx.trans h).block b hlt (by simp)⟩))
  have HX := Lib.hid (hx1.trans hx)
  have HO := Lib.hid hown
  have hc : Ext [] w2 w2.drew := (Ext.refl _ _).drew
  clear Hp Hr hx hx1 hown
  have E1 := Lib.hid (show L.take ((L.length : Int)).toNat = L by simp)
  have E2 := Lib.hid (show L.take ((4097 : Int)).toNat = L from List.take_of_length_le (by omega))
  go_region_with (first
    | (go_at_call 17; refine (HG.out _ _ hc).mono ?_; rintro e w3 ⟨v3, rfl, hown3, hx3⟩; (first | rw [E1.out] at hown3 | rw [E2.out] at hown3); replace hc := hc.trans hx3; have HS := Lib.hid (Sl.of_own hown3); clear hown3 hx3)
    | (go_at_call 16; refine (ints_true _ _ L _ HS.out ((Sl.of_own HO.out).ext hc (by simp))).mono ?_; rintro e w4 ⟨rfl, hx4⟩; replace hc := hc.trans hx4; clear HS hx4)
    | (go_at_call 20; refine (awake_c _).mono ?_; rintro e w5 ⟨rfl, hx5⟩; replace hc := hc.trans hx5))
  all_goals
    go_wp2
    go_ret
    exact ⟨rfl, HX.out.trans hc⟩

set_option maxHeartbeats 4000000 in
theorem addrGoes_b (from_ to : Int) (m : Nat) (h1 : m ≤ 65535) (hm : m ≤ (pagesL from_ to).length) (w : World) :
    Calls Try.prog 5 #[.int .i64 from_, .int .i64 to, .int .u16 m] w fun e w' => e = .returned (.bool true) ∧ Ext [] w w' := by
  have hL := pagesL_le from_ to
  obtain ⟨L, hLd⟩ : ∃ L, L = pagesL from_ to := ⟨_, rfl⟩
  rw [← hLd] at hL hm
  have Hp := Lib.hid (fun w => pages_it from_ to w)
  have Hr := Lib.hid (fun w => rpages_c from_ to w)
  rw [← hLd] at Hp Hr
  clear hLd
  go_enter Try.func5, Try.ntmps5
  have hx1 : Ext [] w ((w.alloc (.cells #[.int .i64 from_] 3)).alloc (.cells #[.int .i64 to] 3)) := ((Ext.refl _ _).alloc _).alloc _
  go_wp2_with (first
    | (go_at_call 23; refine (pages_c _ _ _).mono ?_; rintro e w' ⟨rfl, rfl⟩)
    | (go_at_call 24; refine (Hr.out _).mono ?_; rintro e w2 ⟨v, rfl, hown, hx⟩; obtain ⟨va, vc, rfl, hvc, hvm⟩ := ownsRow_form hown))
  have HG := Lib.hid (fun (k : Int) (w' : World) (h : Ext [] w2 w') => gone_c 50 _ _ L _ (Hp.out w) (Go.Proofs.enters_of Try.func50 (by kernel_rfl) rfl) hL k w' (by have := hx.size; have := h.size; omega)
      (fun b hb => by have hb' : b = w.heap.size ∨ b = w.heap.size + 1 := by simpa using hb
                      have hlt : b < ((w.alloc (.cells #[.int .i64 from_] 3)).alloc (.cells #[.int .i64 to] 3)).heap.size := by simp; omega
                      exact ⟨hlt, (hx.trans h).block b hlt (by simp)⟩))
  have HX := Lib.hid (hx1.trans hx)
  have HO := Lib.hid hown
  have hc : Ext [] w2 w2.drew := (Ext.refl _ _).drew
  clear Hp Hr hx hx1 hown
  have hmn := hm
  have hm0 : (0 : Int) ≤ (m : Int) := by omega
  have hm1 : (m : Int) ≤ (L.length : Int) := by omega
  have E1 := Lib.hid (show L.take ((m : Int)).toNat = L.take m by simp)
  have E2 := Lib.hid (show L.take ((4097 : Int)).toNat = L from List.take_of_length_le (by omega))
  have HT := Lib.hid (Sl.take_own HO.out hmn)
  rw [← encN_take] at HT
  go_region_with (first
    | (go_at_call 17; refine (HG.out _ _ hc).mono ?_; rintro e w3 ⟨v3, rfl, hown3, hx3⟩; (first | rw [E1.out] at hown3 | rw [E2.out] at hown3); replace hc := hc.trans hx3; have HS := Lib.hid (Sl.of_own hown3); clear hown3 hx3)
    | (go_at_call 16; (first | with_reducible refine (ints_true _ _ (L.take m) _ HS.out (HT.out.ext hc (by simp))).mono ?_ | with_reducible refine (ints_true _ _ L _ HS.out ((Sl.of_own HO.out).ext hc (by simp))).mono ?_); rintro e w4 ⟨rfl, hx4⟩; replace hc := hc.trans hx4; clear HS hx4)
    | (go_at_call 20; refine (awake_c _).mono ?_; rintro e w5 ⟨rfl, hx5⟩; replace hc := hc.trans hx5))
  all_goals
    go_wp2
    go_ret
    exact ⟨rfl, HX.out.trans hc⟩

theorem addrGoes_c (from_ to : Int) (a : Int) (w2 : (Lit.int .u16 a).wf = true) (w : World) :
    Calls Try.prog 5 #[.int .i64 from_, .int .i64 to, .int .u16 a] w fun e w' => e = .returned (.bool true) ∧ Ext [] w w' := by
  have hb : 0 ≤ a ∧ a ≤ 65535 := by simp [Lit.wf, IntKind.min, IntKind.max, IntKind.signed, IntKind.bits] at w2; omega
  obtain ⟨m, rfl⟩ := Int.eq_ofNat_of_zero_le hb.1
  by_cases h : (pagesL from_ to).length < m
  · exact addrGoes_a from_ to m (by omega) h w
  · exact addrGoes_b from_ to m (by omega) (by omega) w

end Go.Proofs.Ytemmoabhlfbfcaa
