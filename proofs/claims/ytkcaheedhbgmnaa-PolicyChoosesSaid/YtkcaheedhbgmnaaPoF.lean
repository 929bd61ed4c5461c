/-
  Policy: the library's slices.DeleteFunc, by the closure of Order.
-/
import Derived.Test.YtkcaheedhbgmnaaPoE
import Derived.Test.YtkcaheedhbgmnaaMem
import Derived.Lib.SliceRun
namespace Go.Proofs.Ytkcaheedhbgmnaa
set_option linter.unusedVariables false
set_option linter.unusedSimpArgs false
open Go.RowKit
set_option maxHeartbeats 1000000
set_option maxRecDepth 10000
set_option linter.unusedVariables false
set_option linter.unusedSimpArgs false

/-- What is left. -/
def lft (L A : List Nat) : List Nat := A.filter fun y => !inL L y
def memF (F A : List Nat) (q : Nat) : Value := .int .i64 ((if q < F.length then F.getD q 0 else A.getD q 0 : Nat) : Int)
theorem lft_snoc (L A : List Nat) (z : Nat) : lft L (A ++ [z]) = if inL L z = true then lft L A else lft L A ++ [z] := by
  unfold lft
  rw [List.filter_append]
  cases h : inL L z <;> simp [h]
theorem lft_le (L A : List Nat) : (lft L A).length ≤ A.length := List.length_filter_le _ _
theorem lft_none {L A : List Nat} (h : ∀ y, y ∈ A → inL L y = false) : lft L A = A := by
  unfold lft
  rw [List.filter_eq_self]
  intro y hy; rw [h y hy]; rfl
/-- What the first index says. -/
theorem fx_yes {A L : List Nat} (h : fxOf A L ≠ -1) : ∃ k, ∃ hk : k < A.length, fxOf A L = (k : Int) ∧ inL L A[k] = true ∧ ∀ y, y ∈ A.take k → inL L y = false := by
  unfold fxOf at h ⊢
  cases hf : A.findIdx? (inL L) with
  | none => rw [hf] at h; exact absurd rfl h
  | some k =>
    obtain ⟨hk, h1, h2⟩ := List.findIdx?_eq_some_iff_getElem.1 hf
    refine ⟨k, hk, rfl, h1, fun y hy => ?_⟩
    obtain ⟨j, hj, rfl⟩ := List.mem_take_iff_getElem.1 hy
    have := h2 j (by omega)
    simpa using this
theorem fx_no {A L : List Nat} (h : fxOf A L = -1) : ∀ y, y ∈ A → inL L y = false := by
  unfold fxOf at h
  cases hf : A.findIdx? (inL L) with
  | none => exact fun y hy => List.findIdx?_eq_none_iff.1 hf y hy
  | some k => rw [hf] at h; simp only [] at h; omega

theorem deleteFunc_c (w : World) (B : Nat) (v : Value) (A : List Nat) (hA : w.ownsRow B 3 1 v A.length (encN A)) (bo : Nat) (u : Value) (L : List Nat) (hb : Blk w bo [u] 67) (hu : Sl w 1 u (encN L))
    (hd : ∀ g, v.ownBlock = some g → bo ≠ g ∧ u.ownBlock ≠ some g) :
    Calls Try.prog 69 #[v, .func (.func 70) #[] #[.pointer (some ⟨bo, 0, none⟩)]] w fun e w' => ∃ v', e = .returned v' ∧ Sl w' 1 v' (encN (lft L A)) ∧ Ext (own v) w w' := by
  have CI := Lib.hid (indexFunc_c w v A (Sl.of_own hA) bo u L hb hu)
  by_cases hfx : fxOf A L = -1
  · have hl := lft_none (fx_no hfx)
    rw [hl]
    rw [hfx] at CI
    have HS := Lib.hid (Sl.of_own hA)
    clear hA hb hu hd hfx hl
    go_enter Try.func69, Try.ntmps69
    go_wp2_with (go_at_call 86; refine (CI.out).mono ?_; rintro e w' ⟨rfl, rfl⟩)
    go_ret
    exact ⟨_, rfl, HS.out, Ext.refl _ _⟩
  · obtain ⟨i0, hi0, hfe, hdel, hbef⟩ := fx_yes hfx
    rw [hfe] at CI
    obtain ⟨m, hm⟩ : ∃ m, A.length = m + 1 := ⟨A.length - 1, by omega⟩
    have hA2 := hA
    rw [hm] at hA2
    obtain ⟨g, cap, rfl⟩ := ownsRow_succ hA2
    rw [← hm] at *
    have hgl := (hA.lt g rfl).2
    obtain ⟨a', c', hcap, hcc, hcm⟩ := ownsRow_form hA
    injection hcap with hc1 hc2 hc3
    subst hc3
    unfold maxLen at hcm
    have hC0 : Cells w g A.length (fun q => .int .i64 (A.getD q 0 : Nat)) := ⟨hgl, fun k hk => ⟨by
      have h := hA.cellAt k (by omega)
      rw [h, encN_get, List.getElem?_eq_getElem hk]
      simp [List.getD_eq_getElem?_getD, List.getElem?_eq_getElem hk], hA.frozenAt k⟩⟩
    have hF0 : lft L (A.take (i0 + 1)) = A.take i0 := by
      rw [List.take_succ_eq_append_getElem hi0, lft_snoc, if_pos hdel, lft_none hbef]
    have hC1 : Cells w g A.length (memF (lft L (A.take (i0 + 1))) A) := hC0.congr fun k hk => by
      rw [hF0]
      unfold memF
      by_cases h : k < (A.take i0).length
      · rw [if_pos h]
        have h2 : k < i0 := by simp at h; omega
        simp [List.getD_eq_getElem?_getD, List.getElem?_take_of_lt h2]
      · rw [if_neg h]
    have hl0 : (lft L (A.take (i0 + 1))).length = i0 := by rw [hF0]; simp; omega
    have HC1 := Lib.hid hC1
    have HL0 := Lib.hid hl0
    have HB := Lib.hid hb
    have HU := Lib.hid hu
    have HD := Lib.hid (hd g rfl)
    have i0' : (0 : Int) ≤ (i0 : Int) := by omega
    have i1' : (i0 : Int) < (A.length : Int) := by omega
    have HCC := Lib.hid (And.intro hcc (And.intro hcm hgl))
    have HI0 := Lib.hid hi0
    have hn63 : A.length ≤ 9223372036854775807 := by omega
    have hne1 : ((i0 : Int) == -1) = false := beq_eq_false_iff_ne.2 (by omega)
    clear hA hA2 hm hC0 hF0 hC1 hl0 hb hu hd hdel hbef hfx hfe hcc hcm hgl hc1 hc2 hi0
    go_enter Try.func69, Try.ntmps69
    go_wp2_with (go_at_call 86; refine (CI.out).mono ?_; rintro e w' ⟨rfl, rfl⟩)
    go_loopw [5, 6] (fun i j wr => ∃ k : Nat, i0 < k ∧ k ≤ A.length ∧ j = .int .i64 k ∧ i = .int .i64 ((lft L (A.take k)).length : Nat) ∧ (lft L (A.take k)).length < k ∧ Ext [g] w wr ∧ Cells wr g A.length (memF (lft L (A.take k)) A)) (fun _ j _ => A.length - (intOf j).toNat)
    case atStart => exact ⟨i0 + 1, by omega, by omega, by go_num, by rw [HL0.out], by rw [HL0.out]; omega, Ext.refl _ _, HC1.out⟩
    case round =>
      obtain ⟨k, hk0, hk, rfl, rfl, hml, hE, hC⟩ := hrel
      by_cases hlt : k < A.length
      · have hck := (hC.cell hlt).trans (show some (memF (lft L (A.take k)) A k) = some (.int .i64 ((A[k] : Nat) : Int)) by
          unfold memF
          rw [if_neg (by omega)]
          simp [List.getD_eq_getElem?_getD, List.getElem?_eq_getElem hlt])
        have htA : A.take (k + 1) = A.take k ++ [A[k]] := List.take_succ_eq_append_getElem hlt
        have hls := lft_snoc L (A.take k) A[k]
        rw [← htA] at hls
        have hAk : A.getD k 0 = A[k] := by simp [List.getD_eq_getElem?_getD, List.getElem?_eq_getElem hlt]
        have HO := Lib.hid (order1_c wr bo u L (A[k] : Int) (HB.out.ext hE (by simpa using HD.out.1)) (HU.out.ext hE (fun b hb hm => HD.out.2 (by obtain rfl : b = g := (by simpa using hm); exact hb))))
        have hfr := hC.fr (show (lft L (A.take k)).length < A.length by omega)
        have hcw := hC.cell (show (lft L (A.take k)).length < A.length by omega)
        have HLS := Lib.hid hls
        have HC := Lib.hid hC
        have HE := Lib.hid hE
        have hin : decide (0 ≤ ixOf L (A[k] : Int)) = inL L A[k] := rfl
        rw [hin] at HO
        generalize A[k] = z at *
        generalize lft L (A.take k) = F at *
        have k0 : (0 : Int) ≤ (k : Int) := by omega
        have k1 : (k : Int) < (A.length : Int) := by omega
        have m0 : (0 : Int) ≤ (F.length : Int) := by omega
        have m1 : (F.length : Int) < (A.length : Int) := by omega
        clear hC hE hls htA hin
        cases hz : inL L z
        · rw [hz] at HO HLS
          clear hz
          go_wp2_with (go_at_call 70; refine (HO.out).mono ?_; rintro e w' ⟨rfl, rfl⟩)
          have hls2 := HLS.out
          rw [if_neg (by simp)] at hls2
          go_roundw
          case rel =>
            refine ⟨k + 1, by omega, by omega, by go_num, by rw [hls2]; exact int_eq (by simp), by rw [hls2]; simp; omega, HE.out.setCell _ _ (.inl (by simp)), ?_⟩
            rw [hls2]
            refine (HC.out.set (show F.length < A.length from Nat.lt_trans hml hlt) (.int .i64 (z : Int))).congr fun q _ => ?_
            unfold upd memF
            by_cases hq : q = F.length
            · subst hq
              rw [if_pos rfl, if_pos (by simp)]
              simp [List.getD_eq_getElem?_getD]
            · rw [if_neg hq]
              by_cases hq2 : q < F.length
              · rw [if_pos hq2, if_pos (by simp; omega)]
                simp [List.getD_eq_getElem?_getD, List.getElem?_append_left hq2]
              · rw [if_neg hq2, if_neg (by simp; omega)]
          case measure => simp [intOf]; omega
        · rw [hz] at HO HLS
          clear hz
          go_wp2_with (go_at_call 70; refine (HO.out).mono ?_; rintro e w' ⟨rfl, rfl⟩)
          have hls2 := HLS.out
          simp only [if_true] at hls2
          go_roundw
          case rel => exact ⟨k + 1, by omega, by omega, by go_num, by rw [hls2], by rw [hls2]; omega, HE.out, by rw [hls2]; exact HC.out⟩
          case measure => simp [intOf]; omega
      · obtain rfl : k = A.length := by omega
        rw [List.take_length] at hC hml ⊢
        have hz0 : ∀ w, (zeroValue 3).run Try.prog w = .ok (.int .i64 0) w := fun w => by kernel_rfl
        have hcl : ∀ ty, (Builtin.clear_ #[67] ty #[.slice (some ⟨g, 0 + (lft L A).length, none⟩) (A.length - (lft L A).length) (cap - (lft L A).length)]).run Try.prog wr = .ok (.tuple #[]) (wr.setCells g (0 + (lft L A).length) (List.replicate (A.length - (lft L A).length) (.int .i64 0))) :=
          fun ty => Lib.run_clear_slice wr _ _ ty _ T_int.und hz0 rfl rfl g (0 + (lft L A).length) _ _ (by omega) (fun j hj => by rw [Nat.zero_add, hC.cell (by omega)]; rfl) (fun j hj => by rw [Nat.zero_add]; exact hC.fr (by omega))
        rw [Nat.zero_add] at hcl
        have HC := Lib.hid hC
        have HE := Lib.hid hE
        have hcm := HCC.out.1
        have hcm2 := HCC.out.2.1
        have hgl := HCC.out.2.2
        clear hC hE
        generalize hF : lft L A = F at *
        have HF := Lib.hid hF
        clear hF
        have m0 : (0 : Int) ≤ (F.length : Int) := by omega
        have m1 : (F.length : Int) < (A.length : Int) := by omega
        have m2 : (F.length : Int) ≤ (A.length : Int) := by omega
        have m3 : (A.length : Int) ≤ (cap : Int) := by omega
        have m4 : (F.length : Int) ≤ (cap : Int) := by omega
        go_wp2
        go_ret
        rw [HF.out]
        refine ⟨_, rfl, .inr ⟨g, 0, F.length, cap, rfl, by omega, by unfold maxLen; omega, ?_, by simp, fun j hj => ?_⟩, ?_⟩
        · rw [size_setCells]; have := HE.out.size; omega
        · have hc := (HC.out.setCells F.length (List.replicate (A.length - F.length) (.int .i64 0)) (by simp; omega)).cell (k := j) (by omega)
          rw [Nat.zero_add, hc, if_neg (by omega)]
          unfold memF
          have hj' : j < F.length := by omega
          rw [if_pos hj', encN_get]
          simp [List.getD_eq_getElem?_getD, List.getElem?_eq_getElem hj']
        · exact Ext.setCells (w := wr) g _ _ HE.out (.inl (by simp [own, Value.ownBlock]))

end Go.Proofs.Ytkcaheedhbgmnaa
