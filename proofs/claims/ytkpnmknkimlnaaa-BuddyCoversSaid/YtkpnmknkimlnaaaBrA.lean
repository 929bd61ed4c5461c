/-
  Buddy's reference: lists of blocks: with, place, without.
-/
import Derived.Test.YtkpnmknkimlnaaaRows
import Derived.Test.YtkpnmknkimlnaaaBuX
import Derived.Test.YtkpnmknkimlnaaaSl
import Derived.Deep.RegionHeld3
namespace Go.Proofs.Ytkpnmknkimlnaaa
set_option linter.unusedVariables false
set_option linter.unusedSimpArgs false
open Go.RowKit BuT
set_option maxHeartbeats 4000000
set_option maxRecDepth 100000
set_option linter.unusedVariables false
set_option linter.unusedSimpArgs false

theorem drN (M : List Nat) (w : World) (n : Nat) : Ext M w (w.drewN n) := (Ext.refl M w).drewN n
theorem take_snoc1 {α : Type} {L : List α} {k : Nat} (h : k < L.length) : L.take (k + 1) = L.take k ++ [L[k]] := List.take_succ_eq_append_getElem h
def encB : List Bk → List Value
  | [] => []
  | x :: l => .int .i64 x.f :: .int .i64 x.o :: encB l
theorem encB_app (a b : List Bk) : encB (a ++ b) = encB a ++ encB b := by
  induction a with
  | nil => rfl
  | cons x a ih => simp [encB, ih]
@[simp] theorem encB_len (l : List Bk) : (encB l).length = l.length * 2 := by
  induction l with
  | nil => rfl
  | cons x l ih => simp [encB, ih]; omega
theorem encB_0 : ∀ {l : List Bk} {k : Nat} (h : k < l.length), (encB l)[k * 2]? = some (.int .i64 l[k].f)
  | x :: l, 0, _ => rfl
  | x :: l, k + 1, h => by
    have := encB_0 (l := l) (k := k) (by simpa using h)
    rw [show (k + 1) * 2 = k * 2 + 1 + 1 by omega]
    simpa [encB] using this
theorem encB_1 : ∀ {l : List Bk} {k : Nat} (h : k < l.length), (encB l)[k * 2 + 1]? = some (.int .i64 l[k].o)
  | x :: l, 0, _ => rfl
  | x :: l, k + 1, h => by
    have := encB_1 (l := l) (k := k) (by simpa using h)
    rw [show (k + 1) * 2 + 1 = k * 2 + 1 + 1 + 1 by omega]
    simpa [encB] using this
theorem encB_one (l : List Bk) : ∀ u ∈ encB l, u.oneCell' = true := by
  induction l with
  | nil => intro u hu; cases hu
  | cons x l ih =>
    intro u hu
    rcases List.mem_cons.1 hu with rfl | hu
    · rfl
    · rcases List.mem_cons.1 hu with rfl | hu
      · rfl
      · exact ih u hu
theorem encB_take : ∀ (l : List Bk) (k : Nat), (encB l).take (k * 2) = encB (l.take k)
  | [], k => by simp [encB]
  | x :: l, 0 => rfl
  | x :: l, k + 1 => by rw [show (k + 1) * 2 = k * 2 + 1 + 1 by omega]; simp [encB, encB_take l k]
theorem encB_drop : ∀ (l : List Bk) (k : Nat), (encB l).drop (k * 2) = encB (l.drop k)
  | [], k => by simp [encB]
  | x :: l, 0 => rfl
  | x :: l, k + 1 => by rw [show (k + 1) * 2 = k * 2 + 1 + 1 by omega]; simp [encB, encB_drop l k]
/-- A list that a call owns. -/
abbrev BRow (w : World) (B : Nat) (v : Value) (l : List Bk) : Prop := w.ownsRow B 76 2 v l.length (encB l)
theorem T_blk : SlT Try.prog 69 76 (.agg #[.int .i64 0, .int .i64 0]) 2 16 := ⟨Try.underlying69, by kernel_rfl, rfl, by decide⟩
/-- What is read of a list. -/
def BSl (w : World) (v : Value) (l : List Bk) : Prop :=
  ∃ a c, v = .slice a l.length c ∧ l.length ≤ c ∧ c ≤ maxLen ∧ (∀ b, v.ownBlock = some b → b < w.heap.size) ∧ ∀ k (h : k < l.length), ∃ g, a = some ⟨g, 0, none⟩ ∧ g < w.heap.size ∧ w.cell? ⟨g, k * 2, none⟩ = some (.int .i64 l[k].f) ∧ w.cell? ⟨g, k * 2 + 1, none⟩ = some (.int .i64 l[k].o)
theorem BSl.ext {M : List Nat} {w w' : World} {v : Value} {l : List Bk} (h : BSl w v l) (hx : Ext M w w') (hm : ∀ b, v.ownBlock = some b → b ∉ M) : BSl w' v l := by
  obtain ⟨a, c, rfl, h1, h2, h3, h4⟩ := h
  refine ⟨a, c, rfl, h1, h2, fun b hb => Nat.lt_of_lt_of_le (h3 b hb) hx.size, fun k hk => ?_⟩
  obtain ⟨g, rfl, hg, c1, c2⟩ := h4 k hk
  exact ⟨g, rfl, Nat.lt_of_lt_of_le hg hx.size, (hx.cell (p := ⟨g, k * 2, none⟩) hg (hm g rfl)).trans c1, (hx.cell (p := ⟨g, k * 2 + 1, none⟩) hg (hm g rfl)).trans c2⟩
theorem BSl.of {w : World} {B : Nat} {v : Value} {l : List Bk} (h : BRow w B v l) : BSl w v l := by
  obtain ⟨hl, ⟨h1, h2⟩ | ⟨g, cap, cur, hv, hg, hb, hn, hc, hs, ht⟩⟩ := h
  · have : l = [] := List.eq_nil_of_length_eq_zero h2
    subst this
    exact ⟨none, 0, h1, Nat.le_refl _, Nat.zero_le _, (fun b hb => by subst h1; cases hb), (fun k hk => by cases hk)⟩
  · refine ⟨some ⟨g, 0, none⟩, cap, hv, hn, hc, fun b hb' => ?_, fun k hk => ⟨g, rfl, heap_lt hb, ?_, ?_⟩⟩
    · subst hv; cases hb'; exact heap_lt hb
    · rw [← encB_0 hk, ← ht]
      simp [World.cell?, hb, List.getElem?_take_of_lt (show k * 2 < l.length * 2 by omega)]
    · rw [← encB_1 hk, ← ht]
      simp [World.cell?, hb, List.getElem?_take_of_lt (show k * 2 + 1 < l.length * 2 by omega)]
theorem BSl.take {w : World} {a : Option Addr} {n c : Nat} {l : List Bk} (h : BSl w (.slice a n c) l) {k : Nat} (hk : k ≤ n) : BSl w (.slice a k c) (l.take k) := by
  obtain ⟨a', c', e, h1, h2, h3, h4⟩ := h
  cases e
  have hl : (l.take k).length = k := by simp; omega
  refine ⟨a, c, by rw [hl], by omega, h2, fun b hb => h3 b (by cases a <;> exact hb), fun j hj => ?_⟩
  obtain ⟨g, rfl, hg, c1, c2⟩ := h4 j (by omega)
  exact ⟨g, rfl, hg, by simpa using c1, by simpa using c2⟩
theorem BSl.sl {w : World} {a : Option Addr} {n c : Nat} {l : List Bk} (h : BSl w (.slice a n c) l) : l.length = n := by
  obtain ⟨a', c', e, _⟩ := h; cases e; rfl
theorem own_slice {a : Option Addr} {n m c d : Nat} : (Value.slice a n c).ownBlock = (Value.slice a m d).ownBlock := by cases a <;> rfl
def RetB (B : Nat) (l : List Bk) (w : World) (e : Ending) (w' : World) : Prop := ∃ v, e = .returned v ∧ BRow w' B v l ∧ Ext [] w w'

theorem size_c (k : Nat) (hk : k ≤ 10) (w : World) : Calls Try.prog 66 #[.int .i64 (k : Int)] w fun e w' => e = .returned (.int .i64 ((2 ^ k : Nat) : Int)) ∧ w = w' := by
  have h1 : 2 ^ k ≤ 2 ^ 10 := Nat.pow_le_pow_right (by omega) hk
  have hw : wrap64 (2 ^ k) = ((2 ^ k : Nat) : Int) := by
    have e : (2 : Int) ^ k = ((2 ^ k : Nat) : Int) := by simp
    rw [e]; generalize 2 ^ k = q at *; exact wrap64_of (by omega) (by omega)
  have h0 : (0 : Int) ≤ (k : Int) := by omega
  have h00 : (k : Int) ≤ 10 := by omega
  generalize 2 ^ k = q at *
  go_enter Try.func66, Try.ntmps66
  go_wp2
  go_ret
  exact ⟨ret_int hw, rfl⟩

theorem place_c (w : World) (v : Value) (l : List Bk) (x : Bk) (hs : BSl w v l) (hl : l.length ≤ 4096) : Calls Try.prog 73 #[v, .agg #[.int .i64 x.f, .int .i64 x.o]] w fun e w' => e = .returned (.int .i64 (placeB l x)) ∧ Ext [] w w' := by
  have HS := Lib.hid hs
  obtain ⟨a, c, rfl, h1, h2, _, _⟩ := hs
  obtain ⟨xf, xo⟩ := x
  unfold maxLen at h2
  have HX0 := Lib.hid (show Ext [] w (w.alloc (.cells #[.int .i64 xf, .int .i64 xo] 76)) from (Ext.refl _ _).alloc _)
  have B0 := Lib.hid (Blk.new w [.int .i64 xf, .int .i64 xo] 76)
  go_enter Try.func73, Try.ntmps73
  go_wp2
  go_loopw [5] (fun i wr => ∃ k : Nat, k ≤ l.length ∧ i = .int .i64 k ∧ (∀ y, y ∈ l.take k → ¬ y = ⟨xf, xo⟩) ∧ Ext [] (w.alloc (.cells #[.int .i64 xf, .int .i64 xo] 76)) wr) (fun i _ => l.length - (intOf i).toNat)
  case atStart => exact ⟨0, by omega, rfl, by simp, Ext.refl _ _⟩
  case round =>
    obtain ⟨k, hk, rfl, hno, hx⟩ := hrel
    have HXr := Lib.hid (HX0.out.trans hx)
    have b0 := (B0.out.ext hx (by simp)).cell 0
    have b1 := (B0.out.ext hx (by simp)).cell 1
    by_cases hlt : k < l.length
    · obtain ⟨a', c', e, _, _, _, h4⟩ := HS.out.ext (HX0.out.trans hx) (by simp)
      cases e
      obtain ⟨g, rfl, hg, c0, c1⟩ := h4 k hlt
      have k0 : (0 : Int) ≤ (k : Int) := by omega
      have k1 : (k : Int) < (l.length : Int) := by omega
      have ht := Lib.hid (take_snoc1 hlt)
      have HNO := Lib.hid hno
      have HP := Lib.hid (fun h => placeB_at hlt hno (x := ⟨xf, xo⟩) h)
      have HX1 := Lib.hid hx
      clear hno h4 hx
      generalize l[k] = y at *
      obtain ⟨yf, yo⟩ := y
      by_cases e : yf = xf ∧ yo = xo
      · obtain ⟨rfl, rfl⟩ := e
        have HPk := Lib.hid (HP.out rfl)
        go_wp2
        go_quiet (fail)
        go_wp2
        go_ret
        exact ⟨(show Ending.returned (.int .i64 (k : Int)) = _ by rw [HPk.out]), HXr.out.drewN nq⟩
      · have HE := Lib.hid e
        have e2 : (yf == xf && yo == xo) = false := by simpa using e
        have e3 : (yf == xf) = false ∨ ((yf == xf) = true ∧ (yo == xo) = false) := by
          by_cases h : yf = xf
          · exact .inr ⟨by simpa using h, by simpa using fun h' => e ⟨h, h'⟩⟩
          · exact .inl (by simpa using h)
        clear e e2
        rcases e3 with e3 | ⟨e3, e4⟩
        all_goals
          go_wp2
          go_quiet (fail)
          go_wp2
          go_roundw
          case rel => exact ⟨k + 1, by omega, by go_num, fun z hz => by
            rw [ht.out] at hz
            rcases List.mem_append.1 hz with hz | hz
            · exact HNO.out z hz
            · obtain rfl : z = ⟨yf, yo⟩ := by simpa using hz
              exact fun h => HE.out (by injection h with h1 h2; exact ⟨h1, h2⟩), HX1.out.drewN nq⟩
          case measure => simp [intOf]; omega
    · have hn := Lib.hid (placeB_no (l := l) (x := ⟨xf, xo⟩) (fun hm => hno _ (by rw [List.take_of_length_le (by omega)]; exact hm) rfl))
      clear hno
      go_wp2
      go_ret
      exact ⟨(show Ending.returned (.int .i64 (-1)) = _ by rw [hn.out]), HXr.out⟩

theorem withB_done {x z : Bk} : ∀ {A : List Bk}, (∃ y, y ∈ A ∧ x.f < y.f) → withB x (A ++ [z]) = withB x A ++ [z]
  | [], h => by obtain ⟨y, hy, _⟩ := h; cases hy
  | a :: A, h => by
    rw [List.cons_append, withB, withB]
    by_cases e : x.f < a.f
    · rw [if_pos e, if_pos e]; rfl
    · rw [if_neg e, if_neg e, withB_done (A := A) (by
        obtain ⟨y, hy, h2⟩ := h
        rcases List.mem_cons.1 hy with rfl | hy
        · exact absurd h2 e
        · exact ⟨y, hy, h2⟩)]; rfl
theorem withB_len (x : Bk) : ∀ l : List Bk, (withB x l).length = l.length + 1
  | [] => rfl
  | y :: l => by unfold withB; split; rfl; simp [withB_len x l]

theorem withB_end {x : Bk} {A : List Bk} (h : ∀ y, y ∈ A → ¬ x.f < y.f) : withB x A = A ++ [x] := by
  have := withB_mid (x := x) (B := []) (by simp) h
  simpa using this

theorem brow_app {w : World} {B : Nat} {v : Value} {A : List Bk} {yf yo : Int} (h : w.ownsRow B 76 2 v (A.length + 1) (encB A ++ [.int .i64 yf, .int .i64 yo])) : BRow w B v (A ++ [⟨yf, yo⟩]) := by
  show w.ownsRow B 76 2 v (A ++ [(⟨yf, yo⟩ : Bk)]).length (encB (A ++ [(⟨yf, yo⟩ : Bk)]))
  rw [encB_app]; simpa [encB] using h

theorem with_c (w : World) (v : Value) (l : List Bk) (x : Bk) (hs : BSl w v l) (hl : l.length ≤ 4096) : Calls Try.prog 72 #[v, .agg #[.int .i64 x.f, .int .i64 x.o]] w (RetB w.heap.size (withB x l) w) := by
  have HS := Lib.hid hs
  obtain ⟨a, c, rfl, h1, h2, _, _⟩ := hs
  obtain ⟨xf, xo⟩ := x
  unfold maxLen at h2
  have HX0 := Lib.hid (show Ext [] w (w.alloc (.cells #[.int .i64 xf, .int .i64 xo] 76)) from (Ext.refl _ _).alloc _)
  have B0 := Lib.hid (Blk.new w [.int .i64 xf, .int .i64 xo] 76)
  go_enter Try.func72, Try.ntmps72
  go_wp2
  go_loopw [5, 6, 7] (fun v d i wr => ∃ (k : Nat), k ≤ l.length ∧ i = .int .i64 k ∧ Ext [] (w.alloc (.cells #[.int .i64 xf, .int .i64 xo] 76)) wr ∧
      ((d = .bool false ∧ (∀ y, y ∈ l.take k → ¬ xf < y.f) ∧ BRow wr (w.heap.size + 1) v (l.take k)) ∨ (d = .bool true ∧ (∃ y, y ∈ l.take k ∧ xf < y.f) ∧ BRow wr (w.heap.size + 1) v (withB ⟨xf, xo⟩ (l.take k))))) (fun _ _ i _ => l.length - (intOf i).toNat)
  case atStart => exact ⟨0, by omega, rfl, Ext.refl _ _, .inl ⟨rfl, by simp, World.ownsRow_nil _ _ _ _⟩⟩
  case round =>
    obtain ⟨k, hk, rfl, hx, hor⟩ := hrel
    have HXr := Lib.hid (HX0.out.trans hx)
    have B1 := Lib.hid (B0.out.ext hx (by simp))
    have b0 := B1.out.cell 0
    have b1 := B1.out.cell 1
    have hsz : w.heap.size + 1 ≤ wr.heap.size := by have := hx.size; simp at this; omega
    have HX1 := Lib.hid hx
    by_cases hlt : k < l.length
    · obtain ⟨a', c', e, _, _, _, h4⟩ := HS.out
      cases e
      obtain ⟨g, rfl, hg0, c0, c1⟩ := h4 k hlt
      replace c0 := ((HX0.out.trans hx).cell (p := ⟨g, k * 2, none⟩) hg0 (by simp)).trans c0
      replace c1 := ((HX0.out.trans hx).cell (p := ⟨g, k * 2 + 1, none⟩) hg0 (by simp)).trans c1
      have hg : g < wr.heap.size := by omega
      have k0 : (0 : Int) ≤ (k : Int) := by omega
      have k1 : (k : Int) < (l.length : Int) := by omega
      have ht := Lib.hid (take_snoc1 hlt)
      have hl1 : (l.take k).length ≤ 4096 := by simp; omega
      clear h4 hx
      rcases hor with ⟨hdd, hno, ho⟩ | ⟨hdd, hd, ho⟩
      · by_cases hc : xf < l[k].f
        · have HW := Lib.hid (show (∃ y, y ∈ l.take (k + 1) ∧ xf < y.f) ∧ withB ⟨xf, xo⟩ (l.take (k + 1)) = (l.take k ++ [⟨xf, xo⟩]) ++ [l[k]] from by
            rw [ht.out]
            refine ⟨⟨l[k], List.mem_append_right _ (List.mem_singleton.2 rfl), hc⟩, ?_⟩
            rw [withB_mid (x := ⟨xf, xo⟩) (B := [l[k]]) (by simpa using hc) hno]; simp)
          have hcd : decide (xf < l[k].f) = true := by simpa using hc
          clear hno hc
          generalize l[k] = y at *
          obtain ⟨yf, yo⟩ := y
          generalize l.take k = A at *
          subst hdd
          go_wp2
          go_quiet (fail)
          go_wp2_with (first
            | (at_builtin; refine wpList_app T_blk (ownsRow_ext ho ((drN [] wr nq).alloc _) (by simp)) (Sl.lit (wr.drewN nq) 2 1 [.int .i64 xf, .int .i64 xo] 76 (by decide) rfl) rfl rfl rfl rfl rfl (by simp [Value.oneCell']) (by unfold maxLen; omega) (by omega) (by simp; omega) ?_; intro v1 w1 hown1 hext1 hnew1; have hx1 : Ext (own u5) wr w1 := ((drN (own u5) wr nq).alloc _).trans hext1; have d0 := (hx1.cell (p := ⟨g, k * 2, none⟩) hg (fun h => by have := (ho.lt g (of_mem_own h)).1; omega)).trans c0; have d1 := (hx1.cell (p := ⟨g, k * 2 + 1, none⟩) hg (fun h => by have := (ho.lt g (of_mem_own h)).1; omega)).trans c1; have HX1b := Lib.hid hx1; have HO1 := Lib.hid hown1; have hs1 := hx1.size; clear hx1 hext1)
            | (at_builtin; refine wpList_app T_blk (ownsRow_ext hown1 ((Ext.refl [] _).alloc _) (by simp)) (Sl.lit w1 2 1 [.int .i64 yf, .int .i64 yo] 76 (by decide) rfl) rfl rfl rfl rfl rfl (by simp [Value.oneCell']) (by unfold maxLen; omega) (by omega) (by simp; omega) ?_; intro v2 w2 hown2 hext2 hnew2; have HX2 := Lib.hid hext2; have HO2 := Lib.hid hown2; clear hext2))
          go_roundw
          case rel => exact ⟨k + 1, by omega, by go_num, ((HX1.out.step HX1b.out (fun i hi => .inr (by have := (ho.lt i (of_mem_own hi)).1; simp; omega))).alloc _).step HX2.out (fun i hi => .inr (by have := (HO1.out.lt i (of_mem_own hi)).1; simp; omega)), .inr ⟨rfl, HW.out.1, by rw [HW.out.2]; exact brow_app (by simpa [encB_app, encB] using HO2.out)⟩⟩
          case measure => simp [intOf]; omega
        · have HW := Lib.hid (show (∀ y, y ∈ l.take (k + 1) → ¬ xf < y.f) from by
            rw [ht.out]; intro y hy
            rcases List.mem_append.1 hy with hy | hy
            · exact hno y hy
            · obtain rfl : y = l[k] := by simpa using hy
              exact hc)
          have hcd : decide (xf < l[k].f) = false := by simpa using hc
          clear hno hc
          generalize l[k] = y at *
          obtain ⟨yf, yo⟩ := y
          generalize l.take k = A at *
          subst hdd
          go_wp2
          go_quiet (fail)
          go_wp2_with (first
            | (at_builtin; refine wpList_app T_blk (ownsRow_ext ho ((drN [] wr nq).alloc _) (by simp)) (Sl.lit (wr.drewN nq) 2 1 [.int .i64 yf, .int .i64 yo] 76 (by decide) rfl) rfl rfl rfl rfl rfl (by simp [Value.oneCell']) (by unfold maxLen; omega) (by omega) (by simp; omega) ?_; intro v2 w2 hown2 hext2 hnew2; have HX2 := Lib.hid hext2; have HO2 := Lib.hid hown2; clear hext2))
          go_roundw
          case rel => exact ⟨k + 1, by omega, by go_num, ((HX1.out.drewN nq).alloc _).step HX2.out (fun i hi => .inr (by have := (ho.lt i (of_mem_own hi)).1; simp; omega)), .inl ⟨rfl, by intro y hy; have := HW.out y hy; omega, by rw [ht.out]; exact brow_app HO2.out⟩⟩
          case measure => simp [intOf]; omega
      · have HW := Lib.hid (show (∃ y, y ∈ l.take (k + 1) ∧ xf < y.f) ∧ withB ⟨xf, xo⟩ (l.take (k + 1)) = withB ⟨xf, xo⟩ (l.take k) ++ [l[k]] from by
          rw [ht.out]
          exact ⟨by obtain ⟨y, h1, h2⟩ := hd; exact ⟨y, List.mem_append_left _ h1, h2⟩, withB_done hd⟩)
        have hl2 : (withB ⟨xf, xo⟩ (l.take k)).length ≤ 4097 := by rw [withB_len]; omega
        clear hd
        generalize l[k] = y at *
        obtain ⟨yf, yo⟩ := y
        generalize withB ⟨xf, xo⟩ (l.take k) = A at *
        subst hdd
        go_wp2
        go_quiet (fail)
        go_wp2_with (first
          | (at_builtin; refine wpList_app T_blk (ownsRow_ext ho ((drN [] wr nq).alloc _) (by simp)) (Sl.lit (wr.drewN nq) 2 1 [.int .i64 yf, .int .i64 yo] 76 (by decide) rfl) rfl rfl rfl rfl rfl (by simp [Value.oneCell']) (by unfold maxLen; omega) (by omega) (by simp; omega) ?_; intro v2 w2 hown2 hext2 hnew2; have HX2 := Lib.hid hext2; have HO2 := Lib.hid hown2; clear hext2))
        go_roundw
        case rel => exact ⟨k + 1, by omega, by go_num, ((HX1.out.drewN nq).alloc _).step HX2.out (fun i hi => .inr (by have := (ho.lt i (of_mem_own hi)).1; simp; omega)), .inr ⟨rfl, HW.out.1, by rw [HW.out.2]; exact brow_app HO2.out⟩⟩
        case measure => simp [intOf]; omega
    · obtain rfl : k = l.length := by omega
      rw [List.take_length] at hor
      clear hx
      rcases hor with ⟨hdd, hno, ho⟩ | ⟨hdd, hd, ho⟩
      · have HE := Lib.hid (withB_end (x := ⟨xf, xo⟩) hno)
        clear hno
        subst hdd
        go_wp2_with (first
          | (at_builtin; refine wpList_app T_blk (ownsRow_ext ho ((Ext.refl [] _).alloc _) (by simp)) (Sl.lit wr 2 1 [.int .i64 xf, .int .i64 xo] 76 (by decide) rfl) rfl rfl rfl rfl rfl (by simp [Value.oneCell']) (by unfold maxLen; omega) (by omega) (by simp; omega) ?_; intro v2 w2 hown2 hext2 hnew2; have HX2 := Lib.hid hext2; have HO2 := Lib.hid hown2; clear hext2))
        go_ret
        exact ⟨_, rfl, by rw [HE.out]; exact ownsRow_base (brow_app HO2.out) (Nat.le_succ _), (HXr.out.alloc _).step HX2.out (fun i hi => .inr (by have := (ho.lt i (of_mem_own hi)).1; omega))⟩
      · have HD := Lib.hid hd
        have HO := Lib.hid ho
        clear hd ho
        subst hdd
        go_wp2
        go_ret
        exact ⟨_, rfl, ownsRow_base HO.out (Nat.le_succ _), HXr.out⟩

end Go.Proofs.Ytkpnmknkimlnaaa
