/-
  A memory of package phys in whole: what it answers, with the reference's words.
-/
import Derived.Test.YtkpnmknkimlnaaaPhysH
namespace Go.Proofs.Ytkpnmknkimlnaaa
set_option linter.unusedVariables false
set_option linter.unusedSimpArgs false
open Go.RowKit
set_option maxHeartbeats 1000000
set_option maxRecDepth 10000
set_option linter.unusedSectionVars false

def memF (wd kd nd : Nat → Int) : Nat → Value := fun k => if k % 10 < 8 then .int .u64 (wd (k / 10 * 8 + k % 10)) else if k % 10 = 8 then .int .i64 (kd (k / 10)) else .int .i64 (nd (k / 10))
theorem memF_word (wd kd nd : Nat → Int) (k i : Nat) (hi : i < 8) : memF wd kd nd (k * 10 + i) = .int .u64 (wd (k * 8 + i)) := by
  unfold memF
  have e1 : (k * 10 + i) % 10 = i := by omega
  have e2 : (k * 10 + i) / 10 = k := by omega
  rw [e1, e2, if_pos hi]
theorem memF_kind (wd kd nd : Nat → Int) (k : Nat) : memF wd kd nd (k * 10 + 8) = .int .i64 (kd k) := by
  unfold memF
  have e1 : (k * 10 + 8) % 10 = 8 := by omega
  have e2 : (k * 10 + 8) / 10 = k := by omega
  rw [e1, e2, if_neg (by omega), if_pos rfl]
theorem memF_node (wd kd nd : Nat → Int) (k : Nat) : memF wd kd nd (k * 10 + 9) = .int .i64 (nd k) := by
  unfold memF
  have e1 : (k * 10 + 9) % 10 = 9 := by omega
  have e2 : (k * 10 + 9) / 10 = k := by omega
  rw [e1, e2, if_neg (by omega), if_neg (by omega)]

structure MemIs (w : World) (bm bl N E : Nat) (wd kd nd : Nat → Int) : Prop where
  hN : 1 ≤ N ∧ N ≤ 8
  hE : 1 ≤ E ∧ E ≤ 1024
  d1 : bm ≠ bl
  head : Blk w bm [.int .i64 N, .int .i64 E, .slice (some ⟨bl, 0, none⟩) (N * E) (N * E)] 93
  body : Cells w bl (N * E * 10) (memF wd kd nd)

theorem MemIs.ext {w w' : World} {bm bl N E : Nat} {wd kd nd : Nat → Int} {M : List Nat} (h : MemIs w bm bl N E wd kd nd) (e : Ext M w w') (h1 : bm ∉ M) (h2 : bl ∉ M) : MemIs w' bm bl N E wd kd nd :=
  ⟨h.hN, h.hE, h.d1, h.head.ext e h1, h.body.ext e h2⟩

section
variable {bm bl N E : Nat} {wd kd nd : Nat → Int} {w : World} (h : MemIs w bm bl N E wd kd nd)
include h
theorem MemIs.le : N * E ≤ 8192 := by
  have hle : N * E ≤ 8 * 1024 := Nat.mul_le_mul h.hN.2 h.hE.2
  omega
theorem MemIs.noAt {f : Int} (hf : hasF (N * E) f = false) : NoAt (.pointer (some ⟨bm, 0, none⟩)) f w :=
  at_out w bm (N * E) (N * E) _ (h.head.cell 2) f (by simp [hasF] at hf; omega)
theorem MemIs.atIs {k : Nat} (hk : k < N * E) : AtIs (.pointer (some ⟨bm, 0, none⟩)) k bl (k * 10) w :=
  at_in w bm bl (N * E) (h.head.cell 2) k hk h.le

theorem MemIs.word (f i : Int) : Calls Try.prog 17 #[.pointer (some ⟨bm, 0, none⟩), .int .i64 f, .int .i64 i] w fun e w' => e = .returned (getW (N * E) wd f i) ∧ Ext [] w w' := by
  unfold getW okW
  cases h1 : hasF (N * E) f
  · exact (word_no _ f i w (h.noAt h1)).mono fun e w' hh => ⟨hh.1, hh.2 ▸ Ext.refl _ _⟩
  · obtain ⟨k, rfl, hk⟩ := hasF_nat h1
    cases h2 : hasF 8 i
    · exact (word_out _ k i bl (k * 10) w (h.atIs hk) (by simp [hasF] at h2; omega)).mono fun e w' hh => ⟨hh.1, hh.2 ▸ Ext.refl _ _⟩
    · obtain ⟨j, rfl, hj⟩ := hasF_nat h2
      have c := h.body.cell (k := k * 10 + j) (by omega)
      rw [memF_word _ _ _ _ _ hj] at c
      exact (word_is _ k j bl (k * 10) w (h.atIs hk) hj _ c).mono fun e w' hh => ⟨hh.1, hh.2 ▸ Ext.refl _ _⟩

/-- A word written. -/
theorem MemIs.put {k j : Nat} (hk : k < N * E) (hj : j < 8) (v : Int) : MemIs (w.setCell ⟨bl, k * 10 + j, none⟩ (.int .u64 v)) bm bl N E (upd wd (k * 8 + j) v) kd nd := by
  have hx : Ext [bl] w (w.setCell ⟨bl, k * 10 + j, none⟩ (.int .u64 v)) := (Ext.refl _ _).setCell _ _ (.inl (by simp))
  refine ⟨h.hN, h.hE, h.d1, h.head.ext hx (by simp [h.d1]), (h.body.set (j := k * 10 + j) (by omega) (.int .u64 v)).congr ?_⟩
  intro q hq
  unfold upd
  by_cases e1 : q = k * 10 + j
  · subst e1
    rw [if_pos rfl, memF_word _ _ _ _ _ hj, if_pos rfl]
  · rw [if_neg e1]
    unfold memF
    by_cases e2 : q % 10 < 8
    · rw [if_pos e2, if_pos e2]
      show _ = Value.int .u64 (if q / 10 * 8 + q % 10 = k * 8 + j then v else wd (q / 10 * 8 + q % 10))
      rw [if_neg (by omega)]
    · rw [if_neg e2, if_neg e2]

theorem MemIs.setWord (f i v : Int) : Calls Try.prog 39 #[.pointer (some ⟨bm, 0, none⟩), .int .i64 f, .int .i64 i, .int .u64 v] w fun e w' => e = .returned (.int .i64 (errB (okW (N * E) f i))) ∧ Ext [bl] w w' ∧ MemIs w' bm bl N E (setW (N * E) wd f i v) kd nd := by
  unfold errB setW okW
  cases h1 : hasF (N * E) f
  · exact (setWord_no _ f i v w (h.noAt h1)).mono fun e w' hh => by obtain ⟨rfl, rfl⟩ := hh; exact ⟨rfl, Ext.refl _ _, h⟩
  · obtain ⟨k, rfl, hk⟩ := hasF_nat h1
    cases h2 : hasF 8 i
    · exact (setWord_out _ k i v bl (k * 10) w (h.atIs hk) (by simp [hasF] at h2; omega)).mono fun e w' hh => by obtain ⟨rfl, rfl⟩ := hh; exact ⟨rfl, Ext.refl _ _, h⟩
    · obtain ⟨j, rfl, hj⟩ := hasF_nat h2
      have t : ixW (k : Int) (j : Int) = k * 8 + j := by simp [ixW]
      rw [t]
      exact (setWord_is _ k v j bl (k * 10) w (h.atIs hk) hj _ (h.body.cell (by omega)) (h.body.fr (by omega))).mono fun e w' hh => by
        obtain ⟨rfl, rfl⟩ := hh; exact ⟨rfl, (Ext.refl _ _).setCell _ _ (.inl (by simp)), h.put hk hj v⟩

theorem MemIs.byte (f i : Int) : Calls Try.prog 15 #[.pointer (some ⟨bm, 0, none⟩), .int .i64 f, .int .i64 i] w fun e w' => e = .returned (getB (N * E) wd f i) ∧ Ext [] w w' := by
  unfold getB
  rcases okB_cases (N * E) f i with ⟨e1, e2⟩ | ⟨e1, e2, e3⟩ | ⟨e1, k, q, r, rfl, hk, rfl, hq, hr⟩
  · rw [e1]
    exact (byte_no _ f i w (h.noAt e2)).mono fun e w' hh => ⟨hh.1, hh.2 ▸ Ext.refl _ _⟩
  · rw [e1]
    obtain ⟨k, rfl, hk⟩ := hasF_nat e2
    exact (byte_out _ k i bl (k * 10) w (h.atIs hk) e3).mono fun e w' hh => ⟨hh.1, hh.2 ▸ Ext.refl _ _⟩
  · have t1 : (((q * 8 + r : Nat) : Int)).toNat / 8 = q := by omega
    have t2 : (((q * 8 + r : Nat) : Int)).toNat % 8 = r := by omega
    have t4 : (k : Int).toNat = k := by omega
    rw [e1, if_pos rfl, t1, t2, t4]
    have c := h.body.cell (k := k * 10 + q) (by omega)
    rw [memF_word _ _ _ _ _ hq] at c
    exact (byte_is _ k q r bl (k * 10) w (h.atIs hk) hq hr _ c).mono fun e w' hh => ⟨hh.1, hh.2 ▸ Ext.refl _ _⟩

theorem MemIs.drew : MemIs w.drew bm bl N E wd kd nd := h.ext (Ext.refl [] w).drew (by simp) (by simp)

theorem MemIs.setByte (f i v : Int) (hv : 0 ≤ v ∧ v < 256) : Calls Try.prog 40 #[.pointer (some ⟨bm, 0, none⟩), .int .i64 f, .int .i64 i, .int .u8 v] w fun e w' => e = .returned (.int .i64 (errB (okB (N * E) f i))) ∧ Ext [bl] w w' ∧ MemIs w' bm bl N E (setB (N * E) wd f i v) kd nd := by
  unfold errB setB
  rcases okB_cases (N * E) f i with ⟨e1, e2⟩ | ⟨e1, e2, e3⟩ | ⟨e1, k, q, r, rfl, hk, rfl, hq, hr⟩
  · rw [e1]
    exact (setByte_no _ f i v w (h.noAt e2)).mono fun e w' hh => by obtain ⟨rfl, rfl⟩ := hh; exact ⟨rfl, Ext.refl _ _, h⟩
  · rw [e1]
    obtain ⟨k, rfl, hk⟩ := hasF_nat e2
    exact (setByte_out _ k i v bl (k * 10) w (h.atIs hk) e3).mono fun e w' hh => by obtain ⟨rfl, rfl⟩ := hh; exact ⟨rfl, Ext.refl _ _, h⟩
  · have t1 : (((q * 8 + r : Nat) : Int)).toNat / 8 = q := by omega
    have t2 : (((q * 8 + r : Nat) : Int)).toNat % 8 = r := by omega
    have t4 : (k : Int).toNat = k := by omega
    rw [e1, if_pos rfl, if_pos rfl, t1, t2, t4]
    have c := h.body.cell (k := k * 10 + q) (by omega)
    rw [memF_word _ _ _ _ _ hq] at c
    exact (setByte_is _ k v q r bl (k * 10) w (h.atIs hk) hq hr hv _ c (h.body.fr (by omega))).mono fun e w' hh => by
      obtain ⟨rfl, rfl⟩ := hh; exact ⟨rfl, (Ext.refl _ _).drew.setCell _ _ (.inl (by simp)), h.drew.put hk hq _⟩

theorem MemIs.copy (f t i : Int) : Calls Try.prog 42 #[.pointer (some ⟨bm, 0, none⟩), .int .i64 f, .int .i64 t, .int .i64 i] w fun e w' => e = .returned (.int .i64 (errB (copyOk (N * E) f t i))) ∧ Ext [bl] w w' ∧ MemIs w' bm bl N E (copyW (N * E) wd f t i) kd nd := by
  unfold errB copyOk copyW setW okW
  cases h1 : hasF (N * E) f
  · refine (copy_c0 _ f t i w (h.noAt h1) ?_).mono fun e w' hh => by obtain ⟨rfl, rfl⟩ := hh; exact ⟨rfl, Ext.refl _ _, h⟩
    cases h2 : hasF (N * E) t
    · exact .inl (h.noAt h2)
    · obtain ⟨k, rfl, hk⟩ := hasF_nat h2
      exact .inr ⟨_, _, h.atIs hk⟩
  · obtain ⟨k, rfl, hk⟩ := hasF_nat h1
    cases h2 : hasF (N * E) t
    · refine (copy_c1 _ k t i bl (k * 10) w (h.atIs hk) (h.noAt h2)).mono fun e w' hh => ?_
      obtain ⟨rfl, rfl⟩ := hh
      refine ⟨by simp, Ext.refl _ _, ?_⟩
      simpa using h
    · obtain ⟨k2, rfl, hk2⟩ := hasF_nat h2
      cases h3 : hasF 8 i
      · exact (copy_out _ k k2 i bl (k * 10) (k2 * 10) w (h.atIs hk) (h.atIs hk2) (by simp [hasF] at h3; omega)).mono fun e w' hh => by
          obtain ⟨rfl, rfl⟩ := hh; exact ⟨rfl, Ext.refl _ _, h⟩
      · obtain ⟨j, rfl, hj⟩ := hasF_nat h3
        have c := h.body.cell (k := k * 10 + j) (by omega)
        rw [memF_word _ _ _ _ _ hj] at c
        have t1 : ixW (k : Int) (j : Int) = k * 8 + j := by simp [ixW]
        have t2 : ixW (k2 : Int) (j : Int) = k2 * 8 + j := by simp [ixW]
        rw [t1, t2]
        exact (copy_is _ k k2 j bl (k * 10) (k2 * 10) w (h.atIs hk) (h.atIs hk2) hj _ _ c (h.body.cell (by omega)) (h.body.fr (by omega))).mono fun e w' hh => by
          obtain ⟨rfl, rfl⟩ := hh; exact ⟨rfl, (Ext.refl _ _).drew.setCell _ _ (.inl (by simp)), h.drew.put hk2 hj _⟩

theorem MemIs.zero (f : Int) : Calls Try.prog 41 #[.pointer (some ⟨bm, 0, none⟩), .int .i64 f] w fun e w' => e = .returned (.int .i64 (errB (hasF (N * E) f))) ∧ Ext [bl] w w' ∧ MemIs w' bm bl N E (zeroW (N * E) wd f) kd nd := by
  unfold errB zeroW
  cases h1 : hasF (N * E) f
  · exact (zero_no _ f w (h.noAt h1)).mono fun e w' hh => by obtain ⟨rfl, rfl⟩ := hh; exact ⟨rfl, Ext.refl _ _, h⟩
  · obtain ⟨k, rfl, hk⟩ := hasF_nat h1
    have t4 : (k : Int).toNat = k := by omega
    rw [t4]
    refine (zero_is _ k bl (k * 10) (N * E * 10) w (h.atIs hk) _ h.body (by omega) (fun j => wd (k * 8 + j)) (fun j hj => memF_word _ _ _ _ _ hj)).mono fun e w' hh => ?_
    obtain ⟨rfl, hx, hc⟩ := hh
    refine ⟨rfl, hx, ⟨h.hN, h.hE, h.d1, h.head.ext hx (by simp [h.d1]), hc.congr ?_⟩⟩
    intro q hq
    simp only [if_true]
    unfold memF
    by_cases e1 : k * 10 ≤ q ∧ q < k * 10 + 8
    · rw [if_pos e1, if_pos (by omega)]
      show _ = Value.int .u64 (if k * 8 ≤ q / 10 * 8 + q % 10 ∧ q / 10 * 8 + q % 10 < k * 8 + 8 then 0 else wd (q / 10 * 8 + q % 10))
      rw [if_pos (by omega)]
    · rw [if_neg e1]
      by_cases e2 : q % 10 < 8
      · rw [if_pos e2, if_pos e2]
        show _ = Value.int .u64 (if k * 8 ≤ q / 10 * 8 + q % 10 ∧ q / 10 * 8 + q % 10 < k * 8 + 8 then 0 else wd (q / 10 * 8 + q % 10))
        rw [if_neg (by omega)]
      · rw [if_neg e2, if_neg e2]

theorem MemIs.owner (f : Int) : Calls Try.prog 38 #[.pointer (some ⟨bm, 0, none⟩), .int .i64 f] w fun e w' => e = .returned (getO (N * E) kd nd f) ∧ Ext [] w w' := by
  have hz := h.ext ((Ext.refl [] w).alloc (.cells #[.int .i64 0, .int .i64 0] 35)) (by simp) (by simp)
  unfold getO
  cases h1 : hasF (N * E) f
  · exact owner_no _ f w (hz.noAt h1)
  · obtain ⟨k, rfl, hk⟩ := hasF_nat h1
    have t4 : (k : Int).toNat = k := by omega
    rw [t4]
    have c0 := h.body.cell (k := k * 10 + 8) (by omega)
    have c1 := h.body.cell (k := k * 10 + 9) (by omega)
    rw [memF_kind] at c0
    rw [memF_node] at c1
    exact owner_is _ k bl (k * 10) _ _ w (hz.atIs hk) h.body.lt c0 c1

theorem MemIs.own2 {k : Nat} (hk : k < N * E) (x y : Int) : MemIs ((w.setCell ⟨bl, k * 10 + 8, none⟩ (.int .i64 x)).setCell ⟨bl, k * 10 + 9, none⟩ (.int .i64 y)) bm bl N E wd (upd kd k x) (upd nd k y) := by
  have hx : Ext [bl] w ((w.setCell ⟨bl, k * 10 + 8, none⟩ (.int .i64 x)).setCell ⟨bl, k * 10 + 9, none⟩ (.int .i64 y)) := ((Ext.refl _ _).setCell _ _ (.inl (by simp))).setCell _ _ (.inl (by simp))
  refine ⟨h.hN, h.hE, h.d1, h.head.ext hx (by simp [h.d1]), ((h.body.set (j := k * 10 + 8) (by omega) (.int .i64 x)).set (j := k * 10 + 9) (by omega) (.int .i64 y)).congr ?_⟩
  intro q hq
  by_cases e1 : q = k * 10 + 9
  · subst e1
    rw [upd_at, memF_node, upd_at]
  · rw [upd_ne _ _ e1]
    by_cases e2 : q = k * 10 + 8
    · subst e2
      rw [upd_at, memF_kind, upd_at]
    · rw [upd_ne _ _ e2]
      unfold memF
      by_cases e3 : q % 10 < 8
      · rw [if_pos e3, if_pos e3]
      · rw [if_neg e3, if_neg e3]
        by_cases e4 : q % 10 = 8
        · rw [if_pos e4, if_pos e4, upd_ne _ _ (by omega)]
        · rw [if_neg e4, if_neg e4, upd_ne _ _ (by omega)]

theorem MemIs.setOwner (f k x : Int) : Calls Try.prog 43 #[.pointer (some ⟨bm, 0, none⟩), .int .i64 f, .agg #[.int .i64 k, .int .i64 x]] w fun e w' =>
    e = .returned (.int .i64 (errB (okO (N * E) N f k x))) ∧ Ext [bl] w w' ∧ MemIs w' bm bl N E wd (setO (N * E) N f k x kd k) (setO (N * E) N f k x nd x) := by
  have hz := h.ext ((Ext.refl [] w).alloc (.cells #[.int .i64 k, .int .i64 x] 35)) (by simp) (by simp)
  unfold errB setO okO
  cases h1 : hasF (N * E) f
  · exact (setOwner_no _ f k x w (hz.noAt h1)).mono fun e w' hh => by obtain ⟨rfl, hx⟩ := hh; exact ⟨rfl, hx.mono (by simp), h.ext hx (by simp) (by simp)⟩
  · obtain ⟨j, rfl, hj⟩ := hasF_nat h1
    have t4 : (j : Int).toNat = j := by omega
    rw [t4]
    cases h2 : mayOwn N k x
    · exact (setOwner_bad bm j k x N bl (j * 10) w (hz.atIs hj) h.body.lt h.head.lt (h.head.cell 0) h2).mono fun e w' hh => by
        obtain ⟨rfl, hx⟩ := hh; exact ⟨rfl, hx.mono (by simp), h.ext hx (by simp) (by simp)⟩
    · exact (setOwner_is bm j k x N bl (j * 10) w (hz.atIs hj) h.body.lt h.head.lt (h.head.cell 0) h2 _ _ (h.body.cell (by omega)) (h.body.cell (by omega)) (h.body.fr (by omega)) (h.body.fr (by omega))).mono fun e w' hh => by
        obtain ⟨rfl, w2, hx, rfl⟩ := hh
        exact ⟨rfl, ((hx.mono (by simp)).setCell _ _ (.inl (by simp))).setCell _ _ (.inl (by simp)), (h.ext hx (by simp) (by simp)).own2 hj k x⟩

def getN (n : Nat) (E : Nat) (f : Int) : Value := if hasF n f then .tuple #[.int .i64 (wrap64 (f / (E : Int))), .int .i64 0] else .tuple #[.int .i64 0, .int .i64 1]
theorem MemIs.node (f : Int) : Calls Try.prog 37 #[.pointer (some ⟨bm, 0, none⟩), .int .i64 f] w fun e w' => e = .returned (if hasF (N * E) f then .tuple #[.int .i64 (wrap64 (f / (E : Int))), .int .i64 0] else .tuple #[.int .i64 0, .int .i64 1]) ∧ Ext [] w w' := by
  cases h1 : hasF (N * E) f
  · exact (node_no _ f w (h.noAt h1)).mono fun e w' hh => ⟨hh.1, hh.2 ▸ Ext.refl _ _⟩
  · obtain ⟨j, rfl, hj⟩ := hasF_nat h1
    exact (node_is bm j E bl (j * 10) w h.hE.1 (h.atIs hj) (h.head.cell 1)).mono fun e w' hh => ⟨hh.1, hh.2 ▸ Ext.refl _ _⟩

theorem MemIs.size : Calls Try.prog 36 #[.pointer (some ⟨bm, 0, none⟩)] w fun e w' => e = .returned (.tuple #[.int .i64 N, .int .i64 E]) ∧ Ext [] w w' :=
  size_c w bm N E (h.head.cell 0) (h.head.cell 1)

def cntM (kd : Nat → Int) (N E : Nat) (x kind : Int) : Nat := if 0 ≤ x ∧ x < N then kinds kd kind (x.toNat * E) E else 0
theorem MemIs.count (x kind : Int) : Calls Try.prog 18 #[.pointer (some ⟨bm, 0, none⟩), .int .i64 x, .int .i64 kind] w fun e w' => e = .returned (.int .i64 (if 0 ≤ x ∧ x < N then (kinds kd kind (x.toNat * E) E : Int) else 0)) ∧ Ext [] w w' := by
  by_cases hx : 0 ≤ x ∧ x < N
  · rw [if_pos hx]
    obtain ⟨j, rfl⟩ := Int.eq_ofNat_of_zero_le hx.1
    have t4 : (j : Int).toNat = j := by omega
    rw [t4]
    exact count_is bm bl (N * E) N E j kind w (h.head.cell 0) (h.head.cell 1) (h.head.cell 2) rfl h.hE h.hN (by omega) _ h.body wd kd nd (fun k hk => ⟨fun i hi => memF_word _ _ _ _ _ hi, memF_kind _ _ _ _, memF_node _ _ _ _⟩)
  · rw [if_neg hx]
    exact (count_out bm N x kind w (h.head.cell 0) (by omega)).mono fun e w' hh => ⟨hh.1, hh.2 ▸ Ext.refl _ _⟩

end

section
variable {br bw bo N E : Nat} {wd kd nd : Nat → Int} {w : World} (h : RefIs w br bw bo N E wd kd nd)
include h
theorem RefIs.node (f : Int) : Calls Try.prog 55 #[.pointer (some ⟨br, 0, none⟩), .int .i64 f] w fun e w' => e = .returned (if hasF (N * E) f then .tuple #[.int .i64 (wrap64 (f / (E : Int))), .int .i64 0] else .tuple #[.int .i64 0, .int .i64 1]) ∧ Ext [] w w' := by
  obtain ⟨hm, hw, hn⟩ := h.mul
  cases h1 : hasF (N * E) f
  · exact (rnode_no br N E (N * E) f w (h.head.cell 0) (h.head.cell 1) hm hw h1).mono fun e w' hh => ⟨hh.1, hh.2 ▸ (Ext.refl _ _).drew⟩
  · obtain ⟨j, rfl, hj⟩ := hasF_nat h1
    exact (rnode_is br N E (N * E) j w (h.head.cell 0) (h.head.cell 1) hm hw hj hn h.hE.1).mono fun e w' hh => ⟨hh.1, hh.2 ▸ (Ext.refl _ _).drew⟩
end
end Go.Proofs.Ytkpnmknkimlnaaa
