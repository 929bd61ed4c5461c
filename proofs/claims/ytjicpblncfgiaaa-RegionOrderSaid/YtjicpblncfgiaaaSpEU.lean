/-
  Spans of values (basin/region.use): turn, walked.
-/
import Derived.Test.YtjicpblncfgiaaaSpDU
namespace Go.Proofs.Ytjicpblncfgiaaa.SpU
open Go.RowKit SpT
set_option maxHeartbeats 4000000
set_option maxRecDepth 10000
set_option linter.unusedVariables false
set_option linter.unusedSimpArgs false
set_option linter.unusedSectionVars false

theorem take_snoc {l : List Spn} {k : Nat} (h : k < l.length) : l.take (k + 1) = l.take k ++ [l[k]] := List.take_succ_eq_append_getElem h
theorem cutL_yes {a : Nat} {l : List Spn} {x : Spn} (h : x.f < a) : cutL a (l ++ [x]) = cutL a l ++ [⟨x.f, min x.t a, x.v⟩] := by rw [cutL_snoc, if_pos h]
theorem cutL_no {a : Nat} {l : List Spn} {x : Spn} (h : ¬ x.f < a) : cutL a (l ++ [x]) = cutL a l := by rw [cutL_snoc, if_neg h, List.append_nil]
theorem cutR_yes {a : Nat} {l : List Spn} {x : Spn} (h : a < x.t) : cutR a (l ++ [x]) = cutR a l ++ [⟨max x.f a, x.t, x.v⟩] := by rw [cutR_snoc, if_pos h]
theorem cutR_no {a : Nat} {l : List Spn} {x : Spn} (h : ¬ a < x.t) : cutR a (l ++ [x]) = cutR a l := by rw [cutR_snoc, if_neg h, List.append_nil]
theorem SRow.snoc {w : World} {B : Nat} {v : Value} {l : List Spn} {x : Spn} (h : w.ownsRow B 97 5 v (l.length + 1) (encS l ++ cells x)) : SRow w B v (l ++ [x]) := by
  show World.ownsRow _ _ _ _ _ (l ++ [x]).length (encS (l ++ [x]))
  rw [encS_snoc, List.length_append]; exact h

/-- Two rows that are grown side by side. -/
structure Pair (w : World) (B : Nat) (v1 v2 : Value) (l1 l2 : List Spn) : Prop where
  r1 : SRow w B v1 l1
  r2 : SRow w B v2 l2
  ne : ∀ g, v1.ownBlock = some g → v2.ownBlock ≠ some g
theorem Pair.ext {M : List Nat} {w w' : World} {B : Nat} {v1 v2 : Value} {l1 l2 : List Spn} (h : Pair w B v1 v2 l1 l2) (hx : Ext M w w') (hM : ∀ b, b ∈ M → b < B) : Pair w' B v1 v2 l1 l2 :=
  ⟨ownsRow_ext h.r1 hx (fun b hb hm => by have := (h.r1.lt b hb).1; have := hM b hm; omega), ownsRow_ext h.r2 hx (fun b hb hm => by have := (h.r2.lt b hb).1; have := hM b hm; omega), h.ne⟩
theorem Pair.grow1 {w w' : World} {B : Nat} {v1 v2 v1' : Value} {l1 l1' l2 : List Spn} (h : Pair w B v1 v2 l1 l2) (h1 : SRow w' B v1' l1') (hx : Ext (own v1) w w') (hn : ∀ b, v1'.ownBlock = some b → v1.ownBlock = some b ∨ w.heap.size ≤ b) : Pair w' B v1' v2 l1' l2 :=
  ⟨h1, ownsRow_ext h.r2 hx (fun b hb hm => h.ne b (of_mem_own hm) hb), fun g hg hg2 => by
    rcases hn g hg with h' | h'
    · exact h.ne g h' hg2
    · have := (h.r2.lt g hg2).2; omega⟩
theorem Pair.grow2 {w w' : World} {B : Nat} {v1 v2 v2' : Value} {l1 l2 l2' : List Spn} (h : Pair w B v1 v2 l1 l2) (h2 : SRow w' B v2' l2') (hx : Ext (own v2) w w') (hn : ∀ b, v2'.ownBlock = some b → v2.ownBlock = some b ∨ w.heap.size ≤ b) : Pair w' B v1 v2' l1 l2' :=
  ⟨ownsRow_ext h.r1 hx (fun b hb hm => h.ne b hb (of_mem_own hm)), h2, fun g hg hg2 => by
    rcases hn g hg2 with h' | h'
    · exact h.ne g hg h'
    · have := (h.r1.lt g hg).2; omega⟩

/-- A map turned. -/
def Turned (w : World) (bm : Nat) (l : List Spn) (e : Ending) (w' : World) : Prop := e = .returned (.int .i64 0) ∧ Ext [bm] w w' ∧ MapIs w' bm l

/-- The same, with a new row. -/
def TurnedN (w : World) (bm : Nat) (l : List Spn) (e : Ending) (w' : World) : Prop := e = .returned (.int .i64 0) ∧ Ext [bm] w w' ∧ MapN w' w.heap.size bm l
theorem turn_cn (w : World) (bm : Nat) (l now : List Spn) (hm : MapIs w bm l) (hl : l.length ≤ 4096) (a b : Nat) (hab : a < b) (hb : b ≤ 4096) (an : Option Addr) (cn : Nat) (hnow : Sl w 5 (.slice an now.length cn) (encS now)) (hnl : now.length ≤ 1) :
    Calls Try.prog 74 #[.pointer (some ⟨bm, 0, none⟩), .int .i64 a, .int .i64 b, .slice an now.length cn] w (TurnedN w bm (turn a b l now)) := by
  have hbm := hm.lt
  obtain ⟨v, hB, hR⟩ := hm
  have CI := Lib.hid (is_c w bm v true hB)
  have CM := Lib.hid (show ∀ w, Calls Try.prog 75 #[.int .i64 (a : Int), .int .i64 (b : Int)] w fun e w' => e = .returned (.bool true) ∧ w = w' from fun w => by
    have h := may_c a b w
    rwa [show mayB a b = true by simp [mayB]; omega] at h)
  have HB := Lib.hid hB
  have HN := Lib.hid hnow
  obtain ⟨va, vc, rfl, hvc, hvm⟩ := ownsRow_form hR
  have HR := Lib.hid hR
  have k0 := hB.cell 0
  clear hB hR hnow
  go_enter Try.func74, Try.ntmps74
  go_wp2_with (first
    | (go_at_call 66; refine (CI.out).mono ?_; rintro e w' ⟨rfl, rfl⟩)
    | (go_at_call 75; refine (CM.out _).mono ?_; rintro e w' ⟨rfl, rfl⟩))
  go_loopw [9, 10, 29] (fun vo vb i wr => ∃ k : Nat, k ≤ l.length ∧ i = .int .i64 k ∧ Ext [] w wr ∧ Pair wr w.heap.size vo vb (cutL a (l.take k)) (cutR b (l.take k))) (fun _ _ i _ => l.length - (intOf i).toNat)
  case atStart => exact ⟨0, by omega, rfl, Ext.refl _ _, ⟨World.ownsRow_nil _ _ _ _, World.ownsRow_nil _ _ _ _, by simp [Value.ownBlock]⟩⟩
  case round =>
    obtain ⟨k, hk, rfl, hx, hP⟩ := hrel
    by_cases hlt : k < l.length
    · obtain ⟨n, hn⟩ : ∃ n, l.length = n + 1 := ⟨l.length - 1, by omega⟩
      have hR1 := ownsRow_ext HR.out hx (by simp)
      rw [hn] at hR1
      obtain ⟨g, cap, he⟩ := ownsRow_succ hR1
      cases he
      rw [← hn] at hR1
      have hcell : ∀ j, j < 5 → wr.cell? ⟨g, k * 5 + j, none⟩ = (cells l[k])[j]? := fun j hj => by
        have h1 := hR1.cellAt (k * 5 + j) (by rw [hn]; omega)
        rw [encS_at hlt hj] at h1; exact h1
      have hts := take_snoc hlt
      obtain ⟨x, hxd⟩ : ∃ x, x = l[k] := ⟨_, rfl⟩
      rw [← hxd] at hcell hts
      have hc0 : wr.cell? ⟨g, k * 5, none⟩ = _ := hcell 0 (by omega)
      have hc1 := hcell 1 (by omega)
      have hc2 := hcell 2 (by omega)
      have hc3 := hcell 3 (by omega)
      have hc4 := hcell 4 (by omega)
      have HX := Lib.hid hx
      have HP := Lib.hid hP
      have HT := Lib.hid hts
      have hl1 := cutL_len a (l.take k)
      have hl2 := cutR_len b (l.take k)
      have ht : (l.take k).length ≤ k := List.length_take_le _ _
      have hi0 : (0 : Int) ≤ (k : Int) := by omega
      have hi1 : (k : Int) < (l.length : Int) := by omega
      have hsz := hx.size
      obtain ⟨xf, xt, xv⟩ := x
      unfold cells at hc0 hc1
      unfold cells at hc2
      unfold cells at hc3
      unfold cells at hc4
      have HP2 := Lib.hid (hP.ext (Ext.alloc (Ext.refl [] wr) (.cells #[.int .i64 (xf : Int), .int .i64 (xt : Int), .int .i64 (xv).1, .int .i64 (xv).2.1, .int .i64 (xv).2.2] 97)) (by simp))
      have hmn : mnI (xt : Int) (a : Int) = ((min xt a : Nat) : Int) := by unfold mnI; omega
      have hmx : mxI (xf : Int) (b : Int) = ((max xf b : Nat) : Int) := by unfold mxI; omega
      have E1y := Lib.hid (show xf < a → _ from fun h => cutL_yes (a := a) (l := l.take k) (x := ⟨xf, xt, xv⟩) h)
      have E1n := Lib.hid (show ¬ xf < a → _ from fun h => cutL_no (a := a) (l := l.take k) (x := ⟨xf, xt, xv⟩) h)
      have E2y := Lib.hid (show b < xt → _ from fun h => cutR_yes (a := b) (l := l.take k) (x := ⟨xf, xt, xv⟩) h)
      have E2n := Lib.hid (show ¬ b < xt → _ from fun h => cutR_no (a := b) (l := l.take k) (x := ⟨xf, xt, xv⟩) h)
      obtain ⟨L1, hL1⟩ : ∃ L, L = cutL a (l.take k) := ⟨_, rfl⟩
      obtain ⟨L2, hL2⟩ : ∃ L, L = cutR b (l.take k) := ⟨_, rfl⟩
      rw [← hL1] at hP HP HP2 hl1 E1y E1n
      rw [← hL2] at hP HP HP2 hl2 E2y E2n
      clear hcell hts hxd hP hx hL1 hL2 hR1 hn k0
      generalize min xt a = mn at *
      generalize max xf b = mx at *
      have HBX := Lib.hid (Blk.new wr [.int .i64 (xf : Int), .int .i64 (xt : Int), .int .i64 (xv).1, .int .i64 (xv).2.1, .int .i64 (xv).2.2] 97)
      have HO1 := Lib.hid (fun (b : Nat) (h : u9.ownBlock = some b) => (HP.out.r1.lt b h).2)
      have HO1b := Lib.hid (fun (b : Nat) (h : u9.ownBlock = some b) => (HP.out.r1.lt b h).1)
      have HO2b := Lib.hid (fun (b : Nat) (h : u10.ownBlock = some b) => (HP.out.r2.lt b h).1)
      by_cases h1 : xf < a
      · have HE1 := Lib.hid (E1y.out h1)
        clear E1y E1n
        by_cases h2 : b < xt
        · have HE2 := Lib.hid (E2y.out h2)
          clear E2y E2n
          go_wp2_with (first
            | (at_builtin; refine wpList_app (s := .tmp 37) (x := .tmp 47) T_span (HP2.out.ext (Ext.alloc (Ext.refl [] _) _) (by simp)).r1 (lit_at _ 5 1 [.int .i64 (xf : Int), .int .i64 (mn : Int), .int .i64 (xv).1, .int .i64 (xv).2.1, .int .i64 (xv).2.2] 97 (by decide) rfl (by simp)) rfl rfl rfl rfl rfl (by simp [Value.oneCell']) (by unfold maxLen; omega) (by omega) (by simp; omega) ?_; intro v1 w1 ho1 hx1 hn1; have HP3 := Lib.hid (Pair.grow1 (HP2.out.ext (Ext.alloc (Ext.refl [] _) _) (by simp)) (SRow.snoc (x := ⟨xf, mn, xv⟩) ho1) hx1 hn1); have q := (HBX.out.alloc (.cells #[.int .i64 (xf : Int), .int .i64 (mn : Int), .int .i64 (xv).1, .int .i64 (xv).2.1, .int .i64 (xv).2.2] 97)).ext hx1 (fun h => by have := HO1.out _ (of_mem_own h); omega); have q0 := q.cell 0; have q1 := q.cell 1; have q2 := q.cell 2; have q3 := q.cell 3; have q4 := q.cell 4; have HX3 := Lib.hid ((((HX.out.alloc _).alloc _).step hx1 (fun i hi => .inr (HO1b.out _ (of_mem_own hi))))); clear ho1 hx1 hn1 q)
            | (at_builtin; refine wpList_app (s := .tmp 53) (x := .tmp 63) T_span (HP3.out.ext (Ext.alloc (Ext.refl [] _) _) (by simp)).r2 (lit_at _ 5 1 [.int .i64 (mx : Int), .int .i64 (xt : Int), .int .i64 (xv).1, .int .i64 (xv).2.1, .int .i64 (xv).2.2] 97 (by decide) rfl (by simp)) rfl rfl rfl rfl rfl (by simp [Value.oneCell']) (by unfold maxLen; omega) (by omega) (by have := HX3.out.size; simp at this ⊢; omega) ?_; intro v2 w2 ho2 hx2 hn2; have HP4 := Lib.hid (Pair.grow2 (HP3.out.ext (Ext.alloc (Ext.refl [] _) _) (by simp)) (SRow.snoc (x := ⟨mx, xt, xv⟩) ho2) hx2 hn2); have HX4 := Lib.hid ((HX3.out.alloc _).step hx2 (fun i hi => .inr (HO2b.out _ (of_mem_own hi)))); clear ho2 hx2 hn2))
          go_roundw
          case rel => exact ⟨k + 1, by omega, by go_num, HX4.out, by rw [HT.out, HE1.out, HE2.out]; exact HP4.out⟩
          case measure => simp [intOf]; omega
        · have HE2 := Lib.hid (E2n.out h2)
          clear E2y E2n
          go_wp2_with (at_builtin; refine wpList_app (s := .tmp 37) (x := .tmp 47) T_span (HP2.out.ext (Ext.alloc (Ext.refl [] _) _) (by simp)).r1 (lit_at _ 5 1 [.int .i64 (xf : Int), .int .i64 (mn : Int), .int .i64 (xv).1, .int .i64 (xv).2.1, .int .i64 (xv).2.2] 97 (by decide) rfl (by simp)) rfl rfl rfl rfl rfl (by simp [Value.oneCell']) (by unfold maxLen; omega) (by omega) (by simp; omega) ?_; intro v1 w1 ho1 hx1 hn1; have HP3 := Lib.hid (Pair.grow1 (HP2.out.ext (Ext.alloc (Ext.refl [] _) _) (by simp)) (SRow.snoc (x := ⟨xf, mn, xv⟩) ho1) hx1 hn1); have q := (HBX.out.alloc (.cells #[.int .i64 (xf : Int), .int .i64 (mn : Int), .int .i64 (xv).1, .int .i64 (xv).2.1, .int .i64 (xv).2.2] 97)).ext hx1 (fun h => by have := HO1.out _ (of_mem_own h); omega); have q0 := q.cell 0; have q1 := q.cell 1; have q2 := q.cell 2; have q3 := q.cell 3; have q4 := q.cell 4; have HX3 := Lib.hid ((((HX.out.alloc _).alloc _).step hx1 (fun i hi => .inr (HO1b.out _ (of_mem_own hi))))); clear ho1 hx1 hn1 q)
          go_roundw
          case rel => exact ⟨k + 1, by omega, by go_num, HX3.out, by rw [HT.out, HE1.out, HE2.out]; exact HP3.out⟩
          case measure => simp [intOf]; omega
      · have HE1 := Lib.hid (E1n.out h1)
        clear E1y E1n
        by_cases h2 : b < xt
        · have HE2 := Lib.hid (E2y.out h2)
          clear E2y E2n
          have HXx := Lib.hid (HX.out.alloc (.cells #[.int .i64 (xf : Int), .int .i64 (xt : Int), .int .i64 (xv).1, .int .i64 (xv).2.1, .int .i64 (xv).2.2] 97))
          go_wp2_with (at_builtin; refine wpList_app (s := .tmp 53) (x := .tmp 63) T_span (HP2.out.ext (Ext.alloc (Ext.refl [] _) _) (by simp)).r2 (lit_at _ 5 1 [.int .i64 (mx : Int), .int .i64 (xt : Int), .int .i64 (xv).1, .int .i64 (xv).2.1, .int .i64 (xv).2.2] 97 (by decide) rfl (by simp)) rfl rfl rfl rfl rfl (by simp [Value.oneCell']) (by unfold maxLen; omega) (by omega) (by have := HXx.out.size; simp at this ⊢; omega) ?_; intro v2 w2 ho2 hx2 hn2; have HP4 := Lib.hid (Pair.grow2 (HP2.out.ext (Ext.alloc (Ext.refl [] _) _) (by simp)) (SRow.snoc (x := ⟨mx, xt, xv⟩) ho2) hx2 hn2); have HX4 := Lib.hid ((HXx.out.alloc _).step hx2 (fun i hi => .inr (HO2b.out _ (of_mem_own hi)))); clear ho2 hx2 hn2)
          go_roundw
          case rel => exact ⟨k + 1, by omega, by go_num, HX4.out, by rw [HT.out, HE1.out, HE2.out]; exact HP4.out⟩
          case measure => simp [intOf]; omega
        · have HE2 := Lib.hid (E2n.out h2)
          clear E2y E2n
          go_wp2
          go_roundw
          case rel => exact ⟨k + 1, by omega, by go_num, HX.out.alloc _, by rw [HT.out, HE1.out, HE2.out]; exact HP2.out⟩
          case measure => simp [intOf]; omega
    · obtain rfl : k = l.length := by omega
      rw [List.take_length] at hP
      have HX := Lib.hid hx
      have HP := Lib.hid hP
      obtain ⟨ab, cb, hvb, hcb1, hcb2⟩ := ownsRow_form hP.r2
      subst hvb
      have hl1 := cutL_len a l
      have hl2 := cutR_len b l
      have hsz := hx.size
      have CC := Lib.hid (concat_c (wr.alloc (.cells #[.slice an now.length cn, .slice ab (cutR b l).length cb] 119)) wr.heap.size an ab now.length cn (cutR b l).length cb (encS now) (encS (cutR b l))
        (Blk.new wr [.slice an now.length cn, .slice ab (cutR b l).length cb] 119) (HN.out.ext (hx.alloc _) (by simp)) ((Sl.of_own hP.r2).ext ((Ext.refl [] wr).alloc _) (by simp)) (encS_len _) (encS_len _) (encS_one' _) (encS_one' _) (by omega) (by omega))
      have HXa := Lib.hid (hx.alloc (.cells #[.slice an now.length cn, .slice ab (cutR b l).length cb] 119))
      have HPa := Lib.hid (ownsRow_ext hP.r1 ((Ext.refl [] wr).alloc (.cells #[.slice an now.length cn, .slice ab (cutR b l).length cb] 119)) (by simp))
      have hcs := (encS_append now (cutR b l)).symm
      rw [hcs] at CC
      have HD := Lib.hid (show now.length + (cutR b l).length = (now ++ cutR b l).length by simp)
      rw [HD.out] at CC
      have hcl : (now ++ cutR b l).length ≤ 4097 := by simp; omega
      have HT := Lib.hid (show turn a b l now = (now ++ cutR b l).foldl put (cutL a l) from rfl)
      generalize cutR b l = R at *
      generalize hcs2 : now ++ R = cs at *
      generalize cutL a l = L at *
      clear hP hx hcs hcs2 k0 hk hlt
      go_wp2_with (go_at_call 78; refine (CC.out).mono ?_; rintro e w2 ⟨vc2, rfl, hrow, hx2⟩; obtain ⟨ac, cc, rfl, hcc1, hcc2⟩ := ownsRow_form hrow; have HR2 := Lib.hid hrow; have HX2 := Lib.hid (HXa.out.trans hx2); have HL2 := Lib.hid (ownsRow_ext HPa.out hx2 (by simp)); have hsz2 := hx2.size; clear hrow hx2)
      have hne : ∀ g', u9.ownBlock = some g' → (Value.slice ac cs.length cc).ownBlock ≠ some g' := fun g' h1 h2 => by
        have h3 := (HPa.out.lt g' h1).2
        have h4 := (HR2.out.lt g' h2).1
        omega
      have hP0 : Pair w2 w.heap.size u9 (.slice ac cs.length cc) L cs := ⟨HL2.out, ownsRow_base HR2.out (by simp; omega), hne⟩
      have HBM := Lib.hid (HB.out.ext HX2.out (by simp))
      clear hne
      obtain ⟨wz, hwz⟩ : ∃ wz : World, wz = w2 := ⟨_, rfl⟩
      go_loopw [9, 71] (fun vo i wr2 => ∃ k : Nat, k ≤ cs.length ∧ i = .int .i64 k ∧ Ext [] w wr2 ∧ Pair wr2 w.heap.size vo (.slice ac cs.length cc) ((cs.take k).foldl put L) cs) (fun _ i _ => cs.length - (intOf i).toNat)
      case atStart => exact ⟨0, by omega, rfl, HX2.out, hP0⟩
      case round =>
        obtain ⟨k, hk, rfl, hx, hP⟩ := hrel
        by_cases hlt : k < cs.length
        · obtain ⟨n, hn⟩ : ∃ n, cs.length = n + 1 := ⟨cs.length - 1, by omega⟩
          have hR1 := hP.r2
          have hR1' := hR1
          unfold SRow at hR1'
          rw [hn] at hR1'
          obtain ⟨g, cap, he⟩ := ownsRow_succ hR1'
          injection he with he1 he2 he3
          subst he1 he3
          have hcell : ∀ j, j < 5 → wr.cell? ⟨g, k * 5 + j, none⟩ = (cells cs[k])[j]? := fun j hj => by
            have h1 := hR1.cellAt (k * 5 + j) (by rw [hn]; omega)
            rw [encS_at hlt hj] at h1; exact h1
          have hts := take_snoc hlt
          obtain ⟨x, hxd⟩ : ∃ x, x = cs[k] := ⟨_, rfl⟩
          rw [← hxd] at hcell hts
          have hc0 : wr.cell? ⟨g, k * 5, none⟩ = _ := hcell 0 (by omega)
          have hc1 := hcell 1 (by omega)
          have hc2 := hcell 2 (by omega)
          have hc3 := hcell 3 (by omega)
          have hc4 := hcell 4 (by omega)
          have hi0 : (0 : Int) ≤ (k : Int) := by omega
          have hi1 : (k : Int) < (cs.length : Int) := by omega
          have hpl := puts_len (cs.take k) L
          have htl : (cs.take k).length ≤ k := List.length_take_le _ _
          have HF := Lib.hid (show (cs.take (k + 1)).foldl put L = put ((cs.take k).foldl put L) x by rw [hts, List.foldl_append]; rfl)
          have HX := Lib.hid hx
          have HP := Lib.hid hP
          have hsz := hx.size
          generalize (cs.take k).foldl put L = L' at *
          have CP := Lib.hid (fun (W : World) (hW : Ext [] wr W) => put_c W w.heap.size _ L' x (ownsRow_ext HP.out.r1 hW (by simp)) (by have := hW.size; omega) (by omega))
          obtain ⟨xf, xt, xv⟩ := x
          unfold cells at hc0 hc1 CP
          unfold cells at hc2
          unfold cells at hc3
          unfold cells at hc4
          clear hcell hts hxd hP hx hR1 hR1' hn
          go_wp2_with (go_at_call 79; refine (CP.out _ ((Ext.refl [] wr).alloc _)).mono ?_; rintro e w4 ⟨v4, rfl, hr4, hx4, hn4⟩; have HP4 := Lib.hid (Pair.grow1 (HP.out.ext ((Ext.refl [] wr).alloc (.cells #[.int .i64 (xf : Int), .int .i64 (xt : Int), .int .i64 (xv).1, .int .i64 (xv).2.1, .int .i64 (xv).2.2] 97)) (by simp)) hr4 hx4 hn4); have HX4 := Lib.hid ((HX.out.alloc (.cells #[.int .i64 (xf : Int), .int .i64 (xt : Int), .int .i64 (xv).1, .int .i64 (xv).2.1, .int .i64 (xv).2.2] 97)).step hx4 (fun i hi => .inr (HP.out.r1.lt _ (of_mem_own hi)).1)); clear hr4 hx4 hn4)
          go_roundw
          case rel => exact ⟨k + 1, by omega, by go_num, HX4.out, by rw [HF.out]; exact HP4.out⟩
          case measure => simp [intOf]; omega
        · obtain rfl : k = cs.length := by omega
          rw [List.take_length] at hP
          have HX := Lib.hid hx
          have HP := Lib.hid hP
          obtain ⟨a9, c9, he9, _, _⟩ := ownsRow_form hP.r1
          subst he9
          have hbm2 := HB.out.ext hx (by simp)
          have HB2 := Lib.hid hbm2
          have c0 := hbm2.cell 0
          have f0 := hbm2.frozen 0
          clear hx hP hbm2
          go_wp2
          go_ret
          refine ⟨rfl, (HX.out.mono (by simp)).setCell _ _ (.inl (by simp)), _, HB2.out.set 0 _, ?_⟩
          rw [HT.out]
          exact ownsRow_base (ownsRow_ext HP.out.r1 ((Ext.refl [bm] wr).setCell _ _ (.inl (by simp))) (fun b hb hm => by have := (HP.out.r1.lt b hb).1; simp at hm; omega)) (Nat.le_refl _)

theorem turn_c (w : World) (bm : Nat) (l now : List Spn) (hm : MapIs w bm l) (hl : l.length ≤ 4096) (a b : Nat) (hab : a < b) (hb : b ≤ 4096) (an : Option Addr) (cn : Nat) (hnow : Sl w 5 (.slice an now.length cn) (encS now)) (hnl : now.length ≤ 1) :
    Calls Try.prog 74 #[.pointer (some ⟨bm, 0, none⟩), .int .i64 a, .int .i64 b, .slice an now.length cn] w (Turned w bm (turn a b l now)) :=
  (turn_cn w bm l now hm hl a b hab hb an cn hnow hnl).mono fun e w' ⟨h1, h2, h3⟩ => ⟨h1, h2, h3.is⟩

end Go.Proofs.Ytjicpblncfgiaaa.SpU
