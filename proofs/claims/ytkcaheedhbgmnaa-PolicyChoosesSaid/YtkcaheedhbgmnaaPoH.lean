/-
  Policy: Order, as the program has it.
-/
import Derived.Test.YtkcaheedhbgmnaaPoG
namespace Go.Proofs.Ytkcaheedhbgmnaa
set_option linter.unusedVariables false
set_option linter.unusedSimpArgs false
open Go.RowKit
set_option maxHeartbeats 1000000
set_option maxRecDepth 10000
set_option linter.unusedVariables false
set_option linter.unusedSimpArgs false

def ofN (m : Int) : List Nat := upto (bitB m) 8
def ordL (k m : Int) (x p n : Nat) : List Nat :=
  if k = 0 then arnd (List.range n) x else if k = 1 then arnd (ofN m) x else if k = 2 then [arnd (ofN m) x, lft (ofN m) (List.range n)].flatten
  else [(ofN m).drop (p % (ofN m).length), (ofN m).take (p % (ofN m).length)].flatten
/-- The inputs that Order lets in. -/
structure OkP (k m : Int) (x p n : Nat) : Prop where
  chk : checkS k m n = 0
  x : x < n
  p : p < 4096
theorem OkP.n8 {k m : Int} {x p n : Nat} (h : OkP k m x p n) : 1 ≤ n ∧ n ≤ 8 := by
  have := h.chk; unfold checkS at this; split at this
  · omega
  · omega
theorem OkP.kind {k m : Int} {x p n : Nat} (h : OkP k m x p n) : (k = 0 ∧ m = 0) ∨ ((k = 1 ∨ k = 2 ∨ k = 3) ∧ 1 ≤ m ∧ m < 2 ^ n) := by
  have := h.chk; unfold checkS maskS at this; split at this
  · rename_i h1
    split at this
    · omega
    · split at this
      · rename_i h2; exact .inr ⟨by omega, h2.2.2.1, by simpa using h2.2.2.2⟩
      · omega
  · omega
theorem all_of : ∀ n : Nat, n ≤ 8 → ofN (2 ^ n - 1) = List.range n := by
  intro n hn
  match n, hn with
  | 0, _ => decide +kernel
  | 1, _ => decide +kernel
  | 2, _ => decide +kernel
  | 3, _ => decide +kernel
  | 4, _ => decide +kernel
  | 5, _ => decide +kernel
  | 6, _ => decide +kernel
  | 7, _ => decide +kernel
  | 8, _ => decide +kernel
theorem of_some_fin : ∀ m : Fin 255, ofN ((m.val : Int) + 1) ≠ [] := by decide +kernel
theorem of_some {m : Int} (h1 : 1 ≤ m) (h2 : m < 256) : 0 < (ofN m).length := by
  have := of_some_fin ⟨(m - 1).toNat, by omega⟩
  simp only [show (((m - 1).toNat : Nat) : Int) + 1 = m by omega] at this
  exact List.length_pos_iff.2 this
theorem of_le (m : Int) : (ofN m).length ≤ 8 := upto_le _ _
theorem pow_le8 {n : Nat} (h : n ≤ 8) : (2 : Int) ^ n ≤ 256 := by
  have : (2 : Nat) ^ n ≤ 2 ^ 8 := Nat.pow_le_pow_right (by omega) h
  have h2 : ((2 ^ n : Nat) : Int) ≤ ((2 ^ 8 : Nat) : Int) := by exact_mod_cast this
  simpa using h2

theorem arnd_le (L : List Nat) (x : Nat) : (arnd L x).length ≤ L.length + 1 := by
  unfold arnd
  split
  · omega
  · simp; omega
theorem rows2 {w : World} {g : Nat} {v1 v2 : Value} {L1 L2 : List Nat} (hb : Blk w g [v1, v2] 67) (h1 : Sl w 1 v1 (encN L1)) (h2 : Sl w 1 v2 (encN L2)) (l1 : L1.length ≤ 64) (l2 : L2.length ≤ 64) : Rows3 w g [v1, v2] [L1, L2] := by
  refine ⟨rfl, by simp, hb, fun k hk => ?_, fun p hp => ?_⟩
  · have hk' : k < 2 := by simpa using hk
    match k, hk' with
    | 0, _ => obtain ⟨a, n, c, rfl, hl, _⟩ := h1.form; simp at hl; subst hl; exact ⟨a, c, rfl, h1⟩
    | 1, _ => obtain ⟨a, n, c, rfl, hl, _⟩ := h2.form; simp at hl; subst hl; exact ⟨a, c, rfl, h2⟩
  · simp at hp
    rcases hp with rfl | rfl
    · exact l1
    · exact l2

/-- What Order tells. -/
def RetO (L : List Nat) (w : World) (e : Ending) (w' : World) : Prop := ∃ v, e = .returned (.tuple #[v, .int .i64 0]) ∧ Sl w' 1 v (encN L) ∧ Ext [] w w'

theorem order_c (k m : Int) (x p n : Nat) (h : OkP k m x p n) (w : World) : Calls Try.prog 34 #[polV k m, .int .i64 (x : Int), .int .i64 (p : Int), .int .i64 (n : Int)] w (RetO (ordL k m x p n) w) := by
  have CB := Lib.hid (fun w => base_c (p : Int) w)
  rw [show baseS (p : Int) = .tuple #[.int .i64 ((p : Int) * 64), .int .i64 0] by unfold baseS twoV; rw [if_pos ⟨by omega, by have := h.p; omega⟩]] at CB
  have CK := Lib.hid (fun w => check_c k m n w)
  rw [h.chk] at CK
  have CN := Lib.hid (fun m w => nodes_c m w)
  have CC : Hid (∀ (m : Int) (w1 w : World), Ext [] (w1.alloc (.cells #[.int .i64 m] 3)) w → Calls Try.prog 66 #[.func (.func 84) #[] #[.pointer (some ⟨w1.heap.size, 0, none⟩)]] w (RetN w.heap.size (ofN m) w)) := fun m w1 w h => collect_c m w1 w h
  have x0 : (0 : Int) ≤ (x : Int) := by omega
  have x1 : (x : Int) < (n : Int) := by have := h.x; omega
  have x2 : decide ((x : Int) < 0) = false := by simp
  have x3 : decide (n ≤ x) = false := by have := h.x; simp; omega
  have n8 := h.n8.2
  have n1 := h.n8.1
  obtain ⟨q, hq⟩ : ∃ q : Int, q = 2 ^ n - 1 := ⟨_, rfl⟩
  have hw : wrap64 (wrap64 (2 ^ n) - 1) = q := by
    have := pow_le8 n8
    have h2 : (1 : Int) ≤ 2 ^ n := by have : (0 : Int) < 2 ^ n := Int.pow_pos (by decide); omega
    rw [hq]
    generalize (2 : Int) ^ n = z at *
    rw [wrap64_of (x := z) (by omega) (by omega), wrap64_of (by omega) (by omega)]
  have HQ := Lib.hid hq
  have H := Lib.hid h
  clear h hq
  unfold polV at *
  go_enter Try.func34, Try.ntmps34
  go_wp2_with (first
    | (go_at_call 65; refine (CB.out _).mono ?_; rintro e w' ⟨rfl, rfl⟩)
    | (go_at_call 37; refine (CK.out _).mono ?_; rintro e w1 ⟨rfl, hx1⟩; have HX1 := Lib.hid hx1; have k0 := (Blk.new w [.int .i64 k, .int .i64 m] 77).ext hx1 (by simp) |>.cell 0; have k1 := (Blk.new w [.int .i64 k, .int .i64 m] 77).ext hx1 (by simp) |>.cell 1; clear hx1))
  have hsz1 := HX1.out.size
  have HZ1 := Lib.hid hsz1
  refine (CN.out _ _).mono ?_
  rintro e w' ⟨rfl, rfl⟩
  have E0 : Ext [] w1 (w1.alloc (.cells #[.int .i64 q] 3)) := (Ext.refl _ _).alloc _
  have E0' := Lib.hid E0
  clear E0 hsz1
  go_wp2_with fail
  refine (CC.out _ _ _ (Ext.refl _ _)).mono ?_
  rintro e w2 ⟨va, rfl, hoa, hx2⟩
  have HA := Lib.hid hoa
  have HX2 := Lib.hid (E0'.out.trans hx2)
  have k0' := k0
  have k1' := k1
  rw [← HX2.out.cell (p := ⟨w.heap.size, 0, none⟩) (by have := HX1.out.size; have := HZ1.out; simp at this; show w.heap.size < _; omega) (by simp)] at k0
  rw [← HX2.out.cell (p := ⟨w.heap.size, 1, none⟩) (by have := HX1.out.size; have := HZ1.out; simp at this; show w.heap.size < _; omega) (by simp)] at k1
  clear hoa hx2 k0' k1'
  go_wp2_with fail
  refine (CN.out _ _).mono ?_
  rintro e w' ⟨rfl, rfl⟩
  have E1 : Ext [] w2 (w2.alloc (.cells #[.int .i64 m] 3)) := (Ext.refl _ _).alloc _
  have E1' := Lib.hid E1
  clear E1
  go_wp2_with fail
  refine (CC.out _ _ _ (Ext.refl _ _)).mono ?_
  rintro e w3 ⟨vb, rfl, hob, hx3⟩
  have HX3 := Lib.hid (E1'.out.trans hx3)
  have HB := Lib.hid hob
  rw [← HX3.out.cell (p := ⟨w.heap.size, 0, none⟩) (by have := HX2.out.size; have := HZ1.out; simp at this; show w.heap.size < _; omega) (by simp)] at k0
  rw [← HX3.out.cell (p := ⟨w.heap.size, 1, none⟩) (by have := HX2.out.size; have := HZ1.out; simp at this; show w.heap.size < _; omega) (by simp)] at k1
  have hn3 : w.heap.size < w3.heap.size := by have := HX2.out.size; have := HX3.out.size; have := HZ1.out; simp at this; omega
  have hq2 : ofN q = List.range n := by rw [HQ.out]; exact all_of n n8
  rw [hq2] at HA
  obtain ⟨L, hL⟩ : ∃ L, L = ofN m := ⟨_, rfl⟩
  rw [← hL] at HB
  have HL := Lib.hid hL
  have hL8 : L.length ≤ 8 := by rw [hL]; exact of_le m
  have hrl : (List.range n).length = n := by simp
  obtain ⟨ba, ca, rfl, hca, hca'⟩ := ownsRow_form HA.out
  obtain ⟨bb, cb, rfl, hcb, hcb'⟩ := ownsRow_form HB.out
  rw [hrl] at HA hca
  have E4 : Ext [] w3 (w3.alloc (.cells #[.slice bb L.length cb] 67)) := (Ext.refl _ _).alloc _
  have E4' := Lib.hid E4
  have HAS := Lib.hid (Sl.ext (Sl.of_own HA.out) (HX3.out.trans E4) (by simp))
  have HBS := Lib.hid (Sl.ext (Sl.of_own HB.out) E4 (by simp))
  have EW := Lib.hid ((((Ext.refl [] w).alloc (.cells #[.int .i64 k, .int .i64 m] 77)).trans HX1.out |>.trans HX2.out).trans HX3.out |>.trans E4)
  unfold maxLen at hca' hcb'
  clear hob hx3 E4 hL hq2 hrl
  rcases H.out.kind with ⟨rfl, rfl⟩ | ⟨rfl | rfl | rfl, hm1, hm2⟩
  · go_wp2_with fail
    refine (around_c _ _ _ x HAS.out (by simp; omega)).mono ?_
    rintro e w5 ⟨v, rfl, hs, hx⟩
    have HS := Lib.hid hs
    have HX := Lib.hid hx
    clear hs hx
    go_wp2
    go_ret2
    exact ⟨_, rfl, HS.out, EW.out.trans HX.out⟩
  · go_wp2_with fail
    refine (around_c _ _ _ x HBS.out hL8).mono ?_
    rintro e w5 ⟨v, rfl, hs, hx⟩
    have HS := Lib.hid hs
    have HX := Lib.hid hx
    clear hs hx
    go_wp2
    go_ret2
    exact ⟨_, rfl, by rw [show ordL 1 m x p n = arnd L x by unfold ordL; rw [HL.out]; simp]; exact HS.out, EW.out.trans HX.out⟩
  · go_wp2_with fail
    have hown : (w3.alloc (.cells #[.slice bb L.length cb] 67)).ownsRow (w1.alloc (.cells #[.int .i64 q] 3)).heap.size 3 1 (.slice ba n ca) (List.range n).length (encN (List.range n)) := by
      have := ownsRow_ext HA.out (HX3.out.trans E4'.out) (by simp)
      simpa using this
    have hbo := Blk.new w3 [.slice bb L.length cb] 67
    have hlt : ∀ g, (Value.slice ba n ca).ownBlock = some g → g < w2.heap.size := fun g hg => (HA.out.lt g hg).2
    have hlt2 : ∀ g, (Value.slice bb L.length cb).ownBlock = some g → w2.heap.size < g := fun g hg => by
      have := (HB.out.lt g hg).1; simp at this; omega
    have h23 := HX3.out.size
    refine (deleteFunc_c _ _ _ _ hown _ _ _ hbo HBS.out (fun g hg => ⟨by have := hlt g hg; omega, fun h => by have := hlt g hg; have := hlt2 g h; omega⟩)).mono ?_
    rintro e w5 ⟨v', rfl, hs, hx⟩
    obtain ⟨a5, n5, c5, rfl, _⟩ := hs.form
    have k5 := (hbo.ext hx (fun h => by have := hlt _ (of_mem_own h); omega)).cell 0
    have HS := Lib.hid hs
    have HX := Lib.hid hx
    have HBS5 := Lib.hid (Sl.ext HBS.out hx (fun b hb hm => by have := hlt _ (of_mem_own hm); have := hlt2 _ hb; omega))
    have HEW := Lib.hid (EW.out.step hx (fun i hi => .inr (by have := (HA.out.lt i (of_mem_own hi)).1; have := HZ1.out; simp at *; omega)))
    clear hown hbo hlt hlt2 h23 hs hx
    go_wp2_with fail
    refine (around_c _ _ _ x HBS5.out hL8).mono ?_
    rintro e w6 ⟨v6, rfl, hs, hx⟩
    obtain ⟨a6, n6, c6, rfl, _⟩ := hs.form
    have HR := Lib.hid (rows2 (Blk.new w6 [.slice a6 n6 c6, .slice a5 n5 c5] 67) (Sl.ext hs ((Ext.refl [] _).alloc _) (by simp)) (Sl.ext (Sl.ext HS.out hx (by simp)) ((Ext.refl [] _).alloc _) (by simp)) (by have := arnd_le L x; omega) (by have := lft_le L (List.range n); simp at this; omega))
    have HX6 := Lib.hid (hx.trans ((Ext.refl [] w6).alloc (.cells #[.slice a6 n6 c6, .slice a5 n5 c5] 67)))
    clear hs hx
    go_wp2_with fail
    refine (concatI_c _ _ _ _ HR.out).mono ?_
    rintro e w7 ⟨v7, rfl, hs, hx⟩
    have HS7 := Lib.hid (Sl.of_own hs)
    have HX7 := Lib.hid hx
    clear hs hx
    go_wp2
    go_ret2
    exact ⟨_, rfl, by rw [show ordL 2 m x p n = [arnd L x, lft L (List.range n)].flatten by unfold ordL; rw [HL.out]; simp]; exact HS7.out, (HEW.out.trans HX6.out).trans HX7.out⟩
  · have hLp : 0 < L.length := by rw [HL.out]; exact of_some hm1 (by have := pow_le8 n8; omega)
    have l0 : ((L.length : Int) == 0) = false := beq_eq_false_iff_ne.2 (by omega)
    have l1 : (0 : Int) < (L.length : Int) := by omega
    obtain ⟨r, hr⟩ : ∃ r : Nat, r = p % L.length := ⟨_, rfl⟩
    have hr1 : (p : Int) % (L.length : Int) = (r : Int) := by rw [hr]; simp
    have hr2 : r < L.length := by rw [hr]; exact Nat.mod_lt _ hLp
    have HRr := Lib.hid hr
    have r0 : (0 : Int) ≤ (r : Int) := by omega
    have r1 : (r : Int) ≤ (L.length : Int) := by omega
    have r2 : (r : Int) ≤ (cb : Int) := by omega
    have r3 : (cb = r) = False := eq_false (by omega)
    have r4 : (L.length : Int) ≤ (cb : Int) := by omega
    obtain ⟨bbb, rfl⟩ : ∃ b, bb = some ⟨b, 0, none⟩ := by
      obtain ⟨_, ⟨h1, h2⟩ | ⟨g, cap, cur, hv, _⟩⟩ := HB.out
      · simp at h1; omega
      · simp at hv; exact ⟨g, hv.1⟩
    have hb4 := (Blk.new w3 [.slice (some ⟨bbb, 0, none⟩) L.length cb] 67)
    have k4 := hb4.cell 0
    have hx5 : Ext [] (w3.alloc (.cells #[.slice (some ⟨bbb, 0, none⟩) L.length cb] 67)) (((w3.alloc (.cells #[.slice (some ⟨bbb, 0, none⟩) L.length cb] 67)).alloc (.cells #[.slice (some ⟨bbb, r, none⟩) (L.length - r) (cb - r), .slice (some ⟨bbb, 0, none⟩) r cb] 67)).drew) := ((Ext.refl _ _).alloc _).drew
    have HX5 := Lib.hid hx5
    have HS5 := Sl.ext HBS.out hx5 (by simp)
    have hrow := rows2 (g := w3.heap.size + 1) (by simpa using (Blk.new (w3.alloc (.cells #[.slice (some ⟨bbb, 0, none⟩) L.length cb] 67)) [.slice (some ⟨bbb, r, none⟩) (L.length - r) (cb - r), .slice (some ⟨bbb, 0, none⟩) r cb] 67).ext (Ext.refl [] _).drew (by simp))
      (by simpa [encN] using Sl.drop HS5 (k := r) (by omega) (by omega) : Sl _ 1 _ (encN (L.drop r))) (by simpa [encN_take] using (Sl.take HS5 (k := r) (by omega)).resolve_right (by simp) : Sl _ 1 _ (encN (L.take r))) (by simp; omega) (by simp; omega)
    have HRo := Lib.hid hrow
    have HCat := Lib.hid (fun w g vs h => concatI_c w g vs [L.drop r, L.take r] h)
    have K5 := Lib.hid ((hb4.ext hx5 (by simp)).cell 0)
    have K5l := Lib.hid ((hb4.ext hx5 (by simp)).lt)
    clear hx5 HS5 hrow hb4 hr hLp
    go_wp2_with fail
    go_region_held3 (fun cur => cur.cell? ⟨w3.heap.size, 0, none⟩ = some (.slice (some ⟨bbb, 0, none⟩) L.length cb)) (first | go_keep | exact (HX.out.cell K5l.out (by simp)).trans K5.out) (((go_at_call 72; refine (HCat.out _ _ _ HRo.out).mono ?_; rintro e w' ⟨v', rfl, ho, hx⟩; have HO := Lib.hid ho; have HX := Lib.hid hx; clear ho hx)))
    go_wp2
    go_ret2
    exact ⟨_, rfl, by rw [show ordL 3 m x p n = [L.drop r, L.take r].flatten by unfold ordL; rw [HRr.out, HL.out]; simp]; exact Sl.of_own HO.out, (EW.out.trans HX5.out).trans HX.out⟩

end Go.Proofs.Ytkcaheedhbgmnaa
