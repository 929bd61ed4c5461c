/-
  Buddy's reference: what it is; Left, Most, New.
-/
import Derived.Test.YtkpnmknkimlnaaaBrB
import Derived.Test.YtkpnmknkimlnaaaBvD
namespace Go.Proofs.Ytkpnmknkimlnaaa
set_option linter.unusedVariables false
set_option linter.unusedSimpArgs false
open Go.RowKit BuT
set_option maxHeartbeats 4000000
set_option maxRecDepth 100000
set_option linter.unusedVariables false
set_option linter.unusedSimpArgs false

/-- The reference's allocator; its lists lie in none of K. -/
structure RV (w : World) (rp : Nat) (K : List Nat) (F n : Nat) (vF vT : Value) (fr tk : List Bk) : Prop where
  head : Blk w rp [.int .i64 F, .int .i64 n, vF, vT] 82
  free : BRow w 0 vF fr
  taken : BRow w 0 vT tk
  fK : ∀ b, vF.ownBlock = some b → b ∉ K
  tK : ∀ b, vT.ownBlock = some b → b ∉ K
def RB (w : World) (rp : Nat) (K : List Nat) (F n : Nat) (fr tk : List Bk) : Prop := ∃ vF vT, RV w rp K F n vF vT fr tk
theorem brow_tag {w : World} {B rp : Nat} {v : Value} {l : List Bk} {cs : List Value} (h : BRow w B v l) (hb : Blk w rp cs 82) : ∀ b, v.ownBlock = some b → b ≠ rp := by
  intro b hv e
  subst e
  obtain ⟨_, ⟨h1, _⟩ | ⟨g, cap, cur, h1, _, hh, _⟩⟩ := h
  · subst h1; cases hv
  · subst h1; cases hv
    unfold Blk at hb
    rw [hb] at hh
    injection hh with hh
    injection hh with _ hh _
    exact absurd hh (by decide)
theorem RV.ext {M K : List Nat} {w w' : World} {rp F n : Nat} {vF vT : Value} {fr tk : List Bk} (h : RV w rp K F n vF vT fr tk) (hx : Ext M w w') (h1 : rp ∉ M) (h2 : ∀ b, b ∈ M → b ∈ K ∨ w.heap.size ≤ b) : RV w' rp K F n vF vT fr tk :=
  ⟨h.head.ext hx h1, ownsRow_ext h.free hx (fun b hb hm => (h2 b hm).elim (h.fK b hb) (fun h3 => by have := (h.free.lt b hb).2; omega)), ownsRow_ext h.taken hx (fun b hb hm => (h2 b hm).elim (h.tK b hb) (fun h3 => by have := (h.taken.lt b hb).2; omega)), h.fK, h.tK⟩
theorem RV.ext0 {K : List Nat} {w w' : World} {rp F n : Nat} {vF vT : Value} {fr tk : List Bk} (h : RV w rp K F n vF vT fr tk) (hx : Ext [] w w') : RV w' rp K F n vF vT fr tk := h.ext hx (by simp) (by simp)
/-- The free list is set. -/
theorem RV.setF {K : List Nat} {w : World} {rp F n B : Nat} {vF vT v : Value} {fr tk l : List Bk} (h : RV w rp K F n vF vT fr tk) (hv : BRow w B v l) (hk : ∀ b, v.ownBlock = some b → b ∉ K) : RV (w.setCell ⟨rp, 2, none⟩ v) rp K F n v vT l tk :=
  ⟨h.head.set 2 v, ownsRow_base (ownsRow_ext hv ((Ext.refl [rp] w).setCell _ _ (.inl (by simp))) (fun b hb => by simpa using brow_tag hv h.head b hb)) (Nat.zero_le _),
   ownsRow_ext h.taken ((Ext.refl [rp] w).setCell _ _ (.inl (by simp))) (fun b hb => by simpa using brow_tag h.taken h.head b hb), hk, h.tK⟩
theorem RV.setT {K : List Nat} {w : World} {rp F n B : Nat} {vF vT v : Value} {fr tk l : List Bk} (h : RV w rp K F n vF vT fr tk) (hv : BRow w B v l) (hk : ∀ b, v.ownBlock = some b → b ∉ K) : RV (w.setCell ⟨rp, 3, none⟩ v) rp K F n vF v fr l :=
  ⟨h.head.set 3 v, ownsRow_ext h.free ((Ext.refl [rp] w).setCell _ _ (.inl (by simp))) (fun b hb => by simpa using brow_tag h.free h.head b hb),
   ownsRow_base (ownsRow_ext hv ((Ext.refl [rp] w).setCell _ _ (.inl (by simp))) (fun b hb => by simpa using brow_tag hv h.head b hb)) (Nat.zero_le _), h.fK, hk⟩

/-- Orders are small. -/
def Ords (l : List Bk) : Prop := ∀ x, x ∈ l → 0 ≤ x.o ∧ x.o ≤ 9
theorem leftB_snoc (A : List Bk) (x : Bk) : leftB (A ++ [x]) = leftB A + 2 ^ x.o.toNat := by unfold leftB; rw [List.foldl_append]; rfl
theorem mostB_snoc (A : List Bk) (x : Bk) : mostB (A ++ [x]) = max (mostB A) x.o := by unfold mostB; rw [List.foldl_append]; rfl
theorem leftB_bd {l : List Bk} (h : Ords l) : ∀ k, 0 ≤ leftB (l.take k) ∧ leftB (l.take k) ≤ 512 * k
  | 0 => by simp [leftB]
  | k + 1 => by
    have ih := leftB_bd h k
    by_cases hk : k < l.length
    · rw [take_snoc1 hk, leftB_snoc]
      have ho := h l[k] (List.getElem_mem hk)
      have h1 : (2 : Nat) ^ l[k].o.toNat ≤ 2 ^ 9 := Nat.pow_le_pow_right (by omega) (by omega)
      have e : (2 : Int) ^ l[k].o.toNat = ((2 ^ l[k].o.toNat : Nat) : Int) := by simp
      rw [e]; generalize (2 : Nat) ^ l[k].o.toNat = q at *; omega
    · rw [List.take_of_length_le (by omega)] at ih ⊢; omega
theorem mostB_bd {l : List Bk} (h : Ords l) : ∀ k, -1 ≤ mostB (l.take k) ∧ mostB (l.take k) ≤ 9
  | 0 => by simp [mostB]
  | k + 1 => by
    have ih := mostB_bd h k
    by_cases hk : k < l.length
    · rw [take_snoc1 hk, mostB_snoc]
      have ho := h l[k] (List.getElem_mem hk)
      omega
    · rw [List.take_of_length_le (by omega)] at ih ⊢; exact ih

theorem rleft_c (w : World) (rp : Nat) (K : List Nat) (F n : Nat) (fr tk : List Bk) (h : RB w rp K F n fr tk) (ho : Ords fr) (hl : fr.length ≤ 4096) :
    Calls Try.prog 57 #[.pointer (some ⟨rp, 0, none⟩)] w fun e w' => e = .returned (.int .i64 (leftB fr)) ∧ w = w' := by
  obtain ⟨vF, vT, hR⟩ := h
  obtain ⟨a, c, rfl, h1, h2, _, h4⟩ := BSl.of hR.free
  have c2 := hR.head.cell 2
  have HB := Lib.hid (leftB_bd ho)
  have HO := Lib.hid ho
  have CS := Lib.hid (fun k hk w => size_c k hk w)
  unfold maxLen at h2
  have H4 := Lib.hid h4
  clear hR ho h4
  go_enter Try.func57, Try.ntmps57
  go_wp2
  go_loop [3, 4] (fun s i => ∃ k : Nat, k ≤ fr.length ∧ i = .int .i64 k ∧ s = .int .i64 (leftB (fr.take k))) (fun _ i => fr.length - (intOf i).toNat)
  case atStart => exact ⟨0, by omega, rfl, rfl⟩
  case round =>
    obtain ⟨k, hk, rfl, rfl⟩ := hrel
    by_cases hlt : k < fr.length
    · obtain ⟨g, rfl, hg, c0, c1⟩ := H4.out k hlt
      have hbd := HB.out k
      have hoo := HO.out fr[k] (List.getElem_mem hlt)
      have hst := leftB_snoc (fr.take k) fr[k]
      rw [← take_snoc1 hlt] at hst
      have HST := Lib.hid hst
      clear hst c0
      generalize fr[k] = x at *
      obtain ⟨xf, xo⟩ := x
      simp only [] at *
      obtain ⟨m, rfl⟩ := Int.eq_ofNat_of_zero_le hoo.1
      have C := Lib.hid (fun w => CS.out m (by omega) w)
      have hq := pow_le9 (show m ≤ 9 by omega)
      have e : (2 : Int) ^ ((m : Int)).toNat = ((2 ^ m : Nat) : Int) := by simp
      rw [e] at HST
      generalize 2 ^ m = q at *
      generalize leftB (fr.take k) = s at *
      have k0 : (0 : Int) ≤ (k : Int) := by omega
      have k1 : (k : Int) < (fr.length : Int) := by omega
      clear e
      go_wp2_with (go_at_call 66; refine (C.out _).mono ?_; rintro e w' ⟨rfl, rfl⟩)
      go_round
      case rel => exact ⟨k + 1, by omega, by go_num, by rw [HST.out]⟩
      case measure => simp [intOf]; omega
    · obtain rfl : k = fr.length := by omega
      rw [List.take_length]
      go_wp2
      go_ret
      exact ⟨rfl, rfl⟩
theorem rmost_c (w : World) (rp : Nat) (K : List Nat) (F n : Nat) (fr tk : List Bk) (h : RB w rp K F n fr tk) (ho : Ords fr) (hl : fr.length ≤ 4096) :
    Calls Try.prog 58 #[.pointer (some ⟨rp, 0, none⟩)] w fun e w' => e = .returned (.int .i64 (mostB fr)) ∧ w = w' := by
  obtain ⟨vF, vT, hR⟩ := h
  obtain ⟨a, c, rfl, h1, h2, _, h4⟩ := BSl.of hR.free
  have c2 := hR.head.cell 2
  have HB := Lib.hid (mostB_bd ho)
  unfold maxLen at h2
  have H4 := Lib.hid h4
  clear hR ho h4
  go_enter Try.func58, Try.ntmps58
  go_wp2
  go_loop [3, 4] (fun s i => ∃ k : Nat, k ≤ fr.length ∧ i = .int .i64 k ∧ s = .int .i64 (mostB (fr.take k))) (fun _ i => fr.length - (intOf i).toNat)
  case atStart => exact ⟨0, by omega, rfl, rfl⟩
  case round =>
    obtain ⟨k, hk, rfl, rfl⟩ := hrel
    by_cases hlt : k < fr.length
    · obtain ⟨g, rfl, hg, c0, c1⟩ := H4.out k hlt
      have hst := mostB_snoc (fr.take k) fr[k]
      rw [← take_snoc1 hlt] at hst
      have HST := Lib.hid hst
      clear hst c0
      generalize fr[k] = x at *
      obtain ⟨xf, xo⟩ := x
      simp only [] at *
      generalize mostB (fr.take k) = s at *
      have k0 : (0 : Int) ≤ (k : Int) := by omega
      have k1 : (k : Int) < (fr.length : Int) := by omega
      by_cases hgt : s < xo
      · go_wp2
        go_round
        case rel => exact ⟨k + 1, by omega, by go_num, by rw [HST.out]; exact int_eq (by omega)⟩
        case measure => simp [intOf]; omega
      · go_wp2
        go_round
        case rel => exact ⟨k + 1, by omega, by go_num, by rw [HST.out]; exact int_eq (by omega)⟩
        case measure => simp [intOf]; omega
    · obtain rfl : k = fr.length := by omega
      rw [List.take_length]
      go_wp2
      go_ret
      exact ⟨rfl, rfl⟩

theorem rnew_bad (F n : Int) (w : World) (h : ¬ okNew F n) : Calls Try.prog 30 #[.int .i64 F, .int .i64 n] w fun e w' => e = .returned (.tuple #[.pointer none, .int .i64 1]) ∧ w = w' := by
  unfold okNew at h
  have h' : F < 0 ∨ (¬ F < 0 ∧ 8192 < F) ∨ (¬ F < 0 ∧ ¬ 8192 < F ∧ n < 1) ∨ (¬ F < 0 ∧ ¬ 8192 < F ∧ ¬ n < 1 ∧ 1024 < n) := by omega
  clear h
  rcases h' with h | ⟨h1, h⟩ | ⟨h1, h2, h⟩ | ⟨h1, h2, h3, h⟩
  all_goals
    go_enter Try.func30, Try.ntmps30
    go_wp2
    go_ret2
    exact ⟨rfl, rfl⟩

def RNewRet (w : World) (F n : Nat) (e : Ending) (w' : World) : Prop :=
  ∃ rp vF vT, e = .returned (.tuple #[.pointer (some ⟨rp, 0, none⟩), .int .i64 0]) ∧ w.heap.size ≤ rp ∧ Ext [] w w' ∧ RV w' rp [] F n vF vT (blks F (newK n) (newO n) 1 n) [] ∧ (∀ b, vF.ownBlock = some b ∨ vT.ownBlock = some b → w.heap.size ≤ b)
/-- The list, as it grows. -/
theorem new_grow (F n s : Nat) (h : (newS n s).1 < n) : blks F (newS n (s + 1)).2.1 (newS n (s + 1)).2.2 1 n = blks F (newS n s).2.1 (newS n s).2.2 1 n ++ [⟨(F : Int) + (newS n s).1, go n (newS n s).1⟩] := by
  have e : newS n (s + 1) = ((newS n s).1 + 2 ^ go n (newS n s).1, upd (newS n s).2.1 (newS n s).1 1, upd (newS n s).2.2 (newS n s).1 (go n (newS n s).1)) := by rw [newS, if_pos h]
  rw [e]
  exact blks_grow h (fun j hj => by rw [(newS_part n s).behind j hj]; omega)
theorem new_zero (F n : Nat) : blks F (newS n 0).2.1 (newS n 0).2.2 1 n = [] := by
  have : ∀ m, blks F (fun _ => 0) (fun _ => 0) 1 m = [] := by
    intro m
    induction m with
    | zero => rfl
    | succ m ih => rw [blks, ih]; rfl
  exact this n
theorem rnew_is (F n : Nat) (w : World) (hF : F ≤ 8192) (h1 : 1 ≤ n) (h2 : n ≤ 1024) : Calls Try.prog 30 #[.int .i64 F, .int .i64 n] w (RNewRet w F n) := by
  have d1 : decide ((F : Int) < 0) = false := by simp
  have d2 : decide ((F : Int) > 8192) = false := by simp; omega
  have d2' : decide (8192 < (F : Int)) = false := by simp; omega
  have d3 : decide ((n : Int) < 1) = false := by simp; omega
  have d4 : decide ((n : Int) > 1024) = false := by simp; omega
  have d4' : decide (1024 < (n : Int)) = false := by simp; omega
  have B0 := Lib.hid (Blk.new w [.int .i64 F, .int .i64 n, .slice none 0 0, .slice none 0 0] 82)
  have CS := Lib.hid (fun k hk w => size_c k hk w)
  go_enter Try.func30, Try.ntmps30
  go_wp2
  have HX0 := Lib.hid (show Ext [] w (w.alloc (.cells #[.int .i64 F, .int .i64 n, .slice none 0 0, .slice none 0 0] 82)) from (Ext.refl _ _).alloc _)
  go_loopw [7] (fun a wr => ∃ (s : Nat) (vF : Value), s ≤ n ∧ a = .int .i64 ((newS n s).1 : Nat) ∧ s ≤ (newS n s).1 ∧ Ext [] w wr ∧ Blk wr w.heap.size [.int .i64 F, .int .i64 n, vF, .slice none 0 0] 82 ∧ BRow wr w.heap.size vF (blks F (newS n s).2.1 (newS n s).2.2 1 n)) (fun a _ => n - (intOf a).toNat)
  case atStart => exact ⟨0, .slice none 0 0, by omega, rfl, by omega, HX0.out, B0.out, by rw [new_zero]; exact World.ownsRow_nil _ _ _ _⟩
  case round =>
    obtain ⟨s, vF, hs, rfl, hsl, hx, hB, hrow⟩ := hrel
    have HX := Lib.hid hx
    have hsz := hx.size
    have HS1 := Lib.hid (show (newS n s).1 < n → (newS n (s + 1)).1 = (newS n s).1 + 2 ^ go n (newS n s).1 from fun h => by rw [newS, if_pos h])
    have HGR := Lib.hid (fun h => new_grow F n s h)
    have HSD := Lib.hid (fun h => newS_done (n := n) hs h)
    have hll := blks_len (F := (F : Int)) (kd := (newS n s).2.1) (od := (newS n s).2.2) (c := 1) n
    have HD := Lib.hid (show n ≤ (newS n s).1 → blks F (newS n s).2.1 (newS n s).2.2 1 n = blks F (newK n) (newO n) 1 n from fun h => by rw [newS_done hs h])
    clear hx
    generalize blks F (newS n s).2.1 (newS n s).2.2 1 n = L at *
    generalize hp : (newS n s).1 = p at *
    have HP := Lib.hid hp
    clear hp
    obtain ⟨va, vc, rfl, hvc, hvm⟩ := ownsRow_form hrow
    by_cases hlt : p < n
    · have hg9 : go n p ≤ 9 := gr_le n p 9
      have hdl' : decide (p < n) = true := by simp; omega
      have hgmax := Lib.hid (fun k (h : p % 2 ^ k = 0 ∧ p + 2 ^ k ≤ n) (hk : k ≤ 9) => (gr_max h 9 hk : k ≤ go n p))
      have hgst := Lib.hid (fun k (hg : go n p ≤ k) hn => go_step hlt hg hn)
      have hgok : p % 2 ^ go n p = 0 ∧ p + 2 ^ go n p ≤ n := gr_ok hlt 9
      have HGOK := Lib.hid hgok
      clear hgok
      go_wp2
      go_loop [8] (fun z => ∃ k : Nat, k ≤ 9 ∧ go n p ≤ k ∧ z = .int .i64 k) (fun z => (intOf z).toNat)
      case atStart => exact ⟨9, by omega, hg9, rfl⟩
      case round =>
        obtain ⟨k, hk9, hgk, rfl⟩ := hrel
        have C := Lib.hid (fun w => CS.out k (by omega) w)
        have hq9 := pow_le9 hk9
        have hpos := Nat.two_pow_pos k
        have hmod : ((p : Nat) : Int) % ((2 ^ k : Nat) : Int) = ((p % 2 ^ k : Nat) : Int) := by simp
        have i0 : (0 : Int) ≤ (p : Int) := by omega
        have i1 : (p : Int) < (n : Int) := by omega
        by_cases hok : p % 2 ^ k = 0 ∧ p + 2 ^ k ≤ n
        · have hkg : k = go n p := Nat.le_antisymm (hgmax.out k hok hk9) hgk
          have hgr := HGR.out hlt
          have hs1 := HS1.out hlt
          rw [← hkg] at hgr hs1
          have HGR1 := Lib.hid (And.intro hgr hs1)
          rw [hok.1] at hmod
          have hle := hok.2
          have c2 := hB.cell 2
          have f2 := hB.frozen 2
          have HB := Lib.hid hB
          clear hok hgr hs1 hkg
          generalize 2 ^ k = q at *
          have z1 : (0 : Int) < (q : Int) := by omega
          have z2 : ¬ ((p : Int) + (q : Int) > (n : Int)) := by omega
          have z2' : decide (n < p + q) = false := by simp; omega
          have z3 : ((q : Int) == 0) = false := beq_eq_false_iff_ne.2 (by omega)
          have hsn : s + 1 ≤ n := by omega
          go_wp2_with (first
            | (go_at_call 66; refine (C.out _).mono ?_; rintro e w' ⟨rfl, rfl⟩)
            | (at_builtin; refine wpList_app T_blk (ownsRow_ext hrow ((Ext.refl [] _).alloc _) (by simp)) (Sl.lit wr 2 1 [.int .i64 ((F : Int) + (p : Int)), .int .i64 (k : Int)] 76 (by decide) rfl) rfl rfl rfl rfl rfl (by simp [Value.oneCell']) (by unfold maxLen; omega) (by omega) (by simp; omega) ?_; intro v1 w1 hown1 hext1 hnew1; obtain ⟨va', vc', rfl, hvc', hvm'⟩ := ownsRow_form hown1; have hb1 := (HB.out.alloc (.cells #[.int .i64 ((F : Int) + (p : Int)), .int .i64 (k : Int)] 76)).ext hext1 (fun hm => brow_tag hrow HB.out _ (of_mem_own hm) rfl); have d2 := hb1.cell 2; have g2 := hb1.frozen 2; have HB1 := Lib.hid hb1; have HO1 := Lib.hid hown1; have HX1 := Lib.hid hext1; clear hb1 hext1))
          go_roundw
          case rel => exact ⟨s + 1, _, hsn, by rw [HGR1.out.2]; go_num, by rw [HGR1.out.2]; omega, ((HX.out.alloc _).step HX1.out (fun i hi => .inr (hrow.lt i (of_mem_own hi)).1)).setCell _ _ (.inr (by simp)), HB1.out.set 2 _, by
            rw [HGR1.out.1]
            refine ownsRow_ext (brow_app HO1.out) ((Ext.refl [w.heap.size] w1).setCell _ _ (.inl (by simp))) (fun b hb hm => ?_)
            exact brow_tag (brow_app HO1.out) HB1.out b hb (by simpa using hm)⟩
          case measure => simp [intOf]; omega
        · have hlt2 := hgst.out k hgk hok
          obtain ⟨m, rfl⟩ : ∃ m, k = m + 1 := ⟨k - 1, by omega⟩
          have z1 : (0 : Int) < ((2 ^ (m + 1) : Nat) : Int) := by omega
          have z3 : (((2 ^ (m + 1) : Nat) : Int) == 0) = false := beq_eq_false_iff_ne.2 (by omega)
          have hm9 : m ≤ 9 := by omega
          have hgm : go n p ≤ m := by omega
          by_cases hmz : p % 2 ^ (m + 1) = 0
          · have hgt : n < p + 2 ^ (m + 1) := Nat.lt_of_not_le fun h => hok ⟨hmz, h⟩
            rw [hmz] at hmod
            clear hok hlt2 hgk hmz
            generalize 2 ^ (m + 1) = q at *
            have z2 : (p : Int) + (q : Int) > (n : Int) := by omega
            have z2' : decide (n < p + q) = true := decide_eq_true hgt
            go_wp2_with (first
              | (go_at_call 66; refine (C.out _).mono ?_; rintro e w' ⟨rfl, rfl⟩))
            go_round
            case rel => exact ⟨m, hm9, hgm, by go_num⟩
            case measure => simp [intOf]
          · have hmne : ((((p % 2 ^ (m + 1) : Nat) : Int)) != 0) = true := by rw [bne_iff_ne]; intro h; exact hmz (Int.ofNat_eq_zero.1 h)
            clear hok hlt2 hgk hmz
            generalize hqq : 2 ^ (m + 1) = q at *
            clear hqq
            generalize p % q = r at *
            go_wp2_with (first
              | (go_at_call 66; refine (C.out _).mono ?_; rintro e w' ⟨rfl, rfl⟩))
            go_round
            case rel => exact ⟨m, hm9, hgm, by go_num⟩
            case measure => simp [intOf]
    · have hLL := HD.out (by omega)
      subst hLL
      have HROW := Lib.hid hrow
      have HBB := Lib.hid hB
      have hdl' : decide (p < n) = false := by simp; omega
      have hdl : decide ((p : Int) < (n : Int)) = false := by simp; omega
      clear hB
      go_wp2
      go_ret2
      refine ⟨_, _, _, rfl, Nat.le_refl _, HX.out, ⟨HBB.out, ownsRow_base HROW.out (Nat.zero_le _), World.ownsRow_nil _ _ _ _, by simp, by simp⟩, ?_⟩
      rintro b (hb | hb)
      · exact (hrow.lt b hb).1
      · cases hb

end Go.Proofs.Ytkpnmknkimlnaaa
