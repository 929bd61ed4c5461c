/-
  Policy: the reference's Order.
-/
import Derived.Test.YtkcaheedhbgmnaaPoJ
namespace Go.Proofs.Ytkcaheedhbgmnaa
set_option linter.unusedVariables false
set_option linter.unusedSimpArgs false
open Go.RowKit
set_option maxHeartbeats 1000000
set_option maxRecDepth 100000
set_option linter.unusedVariables false
set_option linter.unusedSimpArgs false

theorem wrap_pow {n : Nat} (n8 : n ≤ 8) : wrap64 (wrap64 (2 ^ n) - 1) = 2 ^ n - 1 := by
  have := pow_le8 n8
  have h2 : (1 : Int) ≤ 2 ^ n := by have : (0 : Int) < 2 ^ n := Int.pow_pos (by decide); omega
  generalize (2 : Int) ^ n = z at *
  rw [wrap64_of (x := z) (by omega) (by omega), wrap64_of (by omega) (by omega)]
/-- Which are not in L, as the reference asks. -/
theorem inL_iff (L : List Nat) (y : Nat) : inL L y = decide (y ∈ L) := by
  unfold inL
  by_cases h : y ∈ L
  · obtain ⟨s, t, rfl⟩ := List.append_of_mem h
    rcases ixOf_form (s ++ y :: t) (y : Int) with e | ⟨k, _, e⟩
    · exfalso
      unfold ixOf at e
      split at e
      · omega
      · rename_i hf
        have := List.findIdx?_eq_none_iff.1 hf y h
        simp at this
    · rw [e]; simp
  · rw [ixOf_none h]; simp [h]
theorem mem_of {m : Int} {y : Nat} (hy : y < 8) : y ∈ ofN m ↔ bitB m y = true := by
  unfold ofN upto; simp [hy]
theorem rot_get (L : List Nat) (p i : Nat) (hi : i < L.length) : ([L.drop (p % L.length), L.take (p % L.length)].flatten)[i]? = some (L[(p + i) % L.length]'(Nat.mod_lt _ (by omega))) := by
  have hr : p % L.length < L.length := Nat.mod_lt _ (by omega)
  have hm : (p + i) % L.length = (p % L.length + i) % L.length := by rw [Nat.add_mod, Nat.mod_eq_of_lt hi]
  simp only [List.flatten_cons, List.flatten_nil, List.append_nil, hm]
  generalize p % L.length = r at *
  by_cases h : r + i < L.length
  · rw [List.getElem?_append_left (by simp; omega), List.getElem?_drop]
    simp only [Nat.mod_eq_of_lt h]
    rw [List.getElem?_eq_getElem h]
  · rw [List.getElem?_append_right (by simp; omega)]
    have e : (r + i) % L.length = r + i - L.length := by rw [Nat.mod_eq_sub_mod (by omega), Nat.mod_eq_of_lt (by omega)]
    simp only [e, List.length_drop]
    rw [List.getElem?_take_of_lt (by omega), List.getElem?_eq_getElem (by omega)]
    congr 1
    congr 1
    omega
theorem rot_len (L : List Nat) (r : Nat) (h : r ≤ L.length) : ([L.drop r, L.take r].flatten).length = L.length := by simp; omega
theorem rot_take (L : List Nat) (p i : Nat) (hi : i < L.length) : ([L.drop (p % L.length), L.take (p % L.length)].flatten).take (i + 1) = ([L.drop (p % L.length), L.take (p % L.length)].flatten).take i ++ [L[(p + i) % L.length]'(Nat.mod_lt _ (by omega))] := by
  have hr : p % L.length < L.length := Nat.mod_lt _ (by omega)
  have hlen := rot_len L (p % L.length) (by omega)
  rw [List.take_succ_eq_append_getElem (by omega)]
  congr 1
  have := rot_get L p i hi
  rw [List.getElem?_eq_getElem (by omega)] at this
  simpa using this

theorem rorder_c (k m : Int) (x p n : Nat) (h : OkP k m x p n) (w : World) : Calls Try.prog 35 #[polV k m, .int .i64 (x : Int), .int .i64 (p : Int), .int .i64 (n : Int)] w (RetO (ordL k m x p n) w) := by
  have CB := Lib.hid (fun w => isPage_c (p : Int) w)
  rw [show isPageB (p : Int) = true by unfold isPageB; have := h.p; simp; omega] at CB
  have CK := Lib.hid (fun w => rcheck_c k m n w)
  rw [h.chk] at CK
  have CN : Hid (∀ (m : Int) (w : World), Calls Try.prog 43 #[.int .i64 m] w (RetN w.heap.size (ofN m) w)) := fun m w => rnodes_c m w
  have x0 : (0 : Int) ≤ (x : Int) := by omega
  have x1 : (x : Int) < (n : Int) := by have := h.x; omega
  have x2 : decide ((x : Int) < 0) = false := by simp
  have x3 : decide (n ≤ x) = false := by have := h.x; simp; omega
  have hp := h.p
  have n8 := h.n8.2
  have n1 := h.n8.1
  have n0 : (0 : Int) ≤ (n : Int) := by omega
  have n9 : (n : Int) ≤ 8 := by omega
  obtain ⟨q, hq⟩ : ∃ q : Int, q = 2 ^ n - 1 := ⟨_, rfl⟩
  have hw : wrap64 (wrap64 (2 ^ n) - 1) = q := by rw [hq]; exact wrap_pow n8
  have HQ := Lib.hid hq
  have H := Lib.hid h
  clear h hq
  unfold polV at *
  go_enter Try.func35, Try.ntmps35
  go_wp2_with (first
    | (go_at_call 42; refine (CB.out _).mono ?_; rintro e w' ⟨rfl, rfl⟩)
    | (go_at_call 38; refine (CK.out _).mono ?_; rintro e w1 ⟨rfl, hx1⟩; have HX1 := Lib.hid hx1; have k0 := (Blk.new w [.int .i64 k, .int .i64 m] 77).ext hx1 (by simp) |>.cell 0; have k1 := (Blk.new w [.int .i64 k, .int .i64 m] 77).ext hx1 (by simp) |>.cell 1; clear hx1))
  have HZ1 := Lib.hid HX1.out.size
  refine (CN.out _ _).mono ?_
  rintro e w2 ⟨va, rfl, hoa, hx2⟩
  have HA := Lib.hid hoa
  have HX2 := Lib.hid hx2
  rw [← HX2.out.cell (p := ⟨w.heap.size, 0, none⟩) (by have := HZ1.out; simp at this; show w.heap.size < _; omega) (by simp)] at k0
  rw [← HX2.out.cell (p := ⟨w.heap.size, 1, none⟩) (by have := HZ1.out; simp at this; show w.heap.size < _; omega) (by simp)] at k1
  clear hoa hx2
  go_wp2_with fail
  refine (CN.out _ _).mono ?_
  rintro e w3 ⟨vb, rfl, hob, hx3⟩
  have HB := Lib.hid hob
  have HX3 := Lib.hid hx3
  rw [← HX3.out.cell (p := ⟨w.heap.size, 0, none⟩) (by have := HX2.out.size; have := HZ1.out; simp at this; show w.heap.size < _; omega) (by simp)] at k0
  rw [← HX3.out.cell (p := ⟨w.heap.size, 1, none⟩) (by have := HX2.out.size; have := HZ1.out; simp at this; show w.heap.size < _; omega) (by simp)] at k1
  have hn3 : w.heap.size < w3.heap.size := by have := HX2.out.size; have := HX3.out.size; have := HZ1.out; simp at this; omega
  have hq2 : ofN q = List.range n := by rw [HQ.out]; exact all_of n n8
  rw [hq2] at HA
  obtain ⟨L, hL⟩ : ∃ L, L = ofN m := ⟨_, rfl⟩
  rw [← hL] at HB
  have HL := Lib.hid hL
  have hL8 : L.length ≤ 8 := by rw [hL]; exact of_le m
  have HN : Hid (L.Nodup) := by rw [hL]; exact upto_nodup _ _
  have hrl : (List.range n).length = n := by simp
  obtain ⟨ba, ca, rfl, hca, hca'⟩ := ownsRow_form HA.out
  obtain ⟨bb, cb, rfl, hcb, hcb'⟩ := ownsRow_form HB.out
  rw [hrl] at HA hca
  have HAS := Lib.hid (Sl.ext (Sl.of_own HA.out) HX3.out (by simp))
  have HBS := Lib.hid (Sl.of_own HB.out)
  have EW := Lib.hid ((((Ext.refl [] w).alloc (.cells #[.int .i64 k, .int .i64 m] 77)).trans HX1.out |>.trans HX2.out).trans HX3.out)
  unfold maxLen at hca' hcb'
  rw [hrl]
  clear hob hx3 hL hq2 hrl
  rcases H.out.kind with ⟨rfl, rfl⟩ | ⟨rfl | rfl | rfl, hm1, hm2⟩
  · go_wp2_with fail
    refine (raround_c _ _ _ x HAS.out (by simp; omega)).mono ?_
    rintro e w5 ⟨v, rfl, hs, hx⟩
    have HS := Lib.hid hs
    have HX := Lib.hid hx
    clear hs hx
    go_wp2
    go_ret2
    exact ⟨_, rfl, by rw [show ordL 0 0 x p n = eqs x (List.range n) ++ nes x (List.range n) by unfold ordL; rw [← arnd_ref List.nodup_range]; simp]; exact Sl.of_own HS.out, EW.out.trans HX.out⟩
  · go_wp2_with fail
    refine (raround_c _ _ _ x HBS.out hL8).mono ?_
    rintro e w5 ⟨v, rfl, hs, hx⟩
    have HS := Lib.hid hs
    have HX := Lib.hid hx
    clear hs hx
    go_wp2
    go_ret2
    exact ⟨_, rfl, by rw [show ordL 1 m x p n = eqs x L ++ nes x L by unfold ordL; rw [← arnd_ref HN.out, HL.out]; simp]; exact Sl.of_own HS.out, EW.out.trans HX.out⟩
  · go_wp2_with fail
    refine (raround_c _ _ _ x HBS.out hL8).mono ?_
    rintro e w5 ⟨v, rfl, hs, hx⟩
    obtain ⟨L5, hL5⟩ : ∃ L5, L5 = eqs x L ++ nes x L := ⟨_, rfl⟩
    rw [← hL5] at hs
    have hl5 : L5.length ≤ 16 := by rw [hL5]; have := eqs_le x L; have := nes_le x L; simp; omega
    have H5 := Lib.hid (show L5 = arnd L x by rw [hL5, arnd_ref HN.out])
    have HS := Lib.hid hs
    have HX := Lib.hid hx
    have HK1 := Lib.hid k1
    have hn5 : w.heap.size < w5.heap.size := by have := hx.size; omega
    have hs5 : w3.heap.size ≤ w5.heap.size := hx.size
    clear hs hx hL5 k0 k1
    go_wp2
    go_loopw [12, 14] (fun v i wr => ∃ j : Nat, j ≤ n ∧ i = .int .i64 j ∧ wr.ownsRow w3.heap.size 3 1 v (L5 ++ lft L (List.range j)).length (encN (L5 ++ lft L (List.range j))) ∧ Ext [] w3 wr) (fun _ i _ => n - (intOf i).toNat)
    case atStart => exact ⟨0, by omega, rfl, by simpa [lft] using HS.out, HX.out⟩
    case round =>
      obtain ⟨j, hj, rfl, ho, hx⟩ := hrel
      have hsz := hx.size
      by_cases hlt : j < n
      · obtain ⟨b, o, hkL, rfl, hb, hc⟩ := (HAS.out.ext hx (by simp)).at hlt
        rw [show (List.range n)[j] = j by simp] at hc
        have hle3 : (L5 ++ lft L (List.range j)).length ≤ 24 := by have := lft_le L (List.range j); simp at this ⊢; omega
        have hsn := lft_snoc L (List.range j) j
        rw [← List.range_succ] at hsn
        have hin : inL L j = bitB m j := by rw [inL_iff, HL.out, Bool.eq_iff_iff]; simp only [decide_eq_true_eq]; exact mem_of (by omega)
        have k1 := (hx.cell (p := ⟨w.heap.size, 1, none⟩) hn3 (by simp)).trans HK1.out
        have C := Lib.hid (fun w => has_c m j w (by omega))
        have j0 : (0 : Int) ≤ (j : Int) := by omega
        have j1 : (j : Int) < (n : Int) := by omega
        have hx' := Lib.hid hx
        rw [hin] at hsn
        clear hin hkL
        cases hz : bitB m j
        · rw [hz] at C hsn
          have HSN := Lib.hid (show L5 ++ lft L (List.range (j + 1)) = (L5 ++ lft L (List.range j)) ++ [j] by rw [hsn]; simp)
          clear hz hsn hx
          generalize L5 ++ lft L (List.range j) = G at *
          go_wp2
          go_quiet ((go_at_call 40; exact Calls.quiet_of_same ((C.out _).mono fun _ _ h => ⟨h.1, h.2.symm⟩)))
          have ho' := ownsRow_ext ho (drewN_ext [] wr nq) (by simp)
          go_wp2_with (first
            | (at_builtin; refine wpList_app T_int (ownsRow_ext ho' ((Ext.refl [] _).alloc _) (by simp)) (Sl.lit (wr.drewN nq) 1 1 [.int .i64 (j : Int)] 3 (by decide) rfl) rfl rfl rfl rfl rfl (by simp [Value.oneCell']) (by unfold maxLen; omega) (by omega) (by simp; omega) ?_; intro v' w' hown' hext' hnew'))
          go_roundw
          case rel => exact ⟨j + 1, by omega, by go_num, by rw [HSN.out]; simpa [encN] using hown', ((hx'.out.drewN nq).alloc _).step hext' (fun i hi => .inr (ho.lt i (of_mem_own hi)).1)⟩
          case measure => simp [intOf]; omega
        · rw [hz] at C hsn
          have HSN := Lib.hid (show L5 ++ lft L (List.range (j + 1)) = (L5 ++ lft L (List.range j)) by rw [hsn]; simp)
          clear hz hsn hx
          generalize L5 ++ lft L (List.range j) = G at *
          go_wp2
          go_quiet ((go_at_call 40; exact Calls.quiet_of_same ((C.out _).mono fun _ _ h => ⟨h.1, h.2.symm⟩)))
          go_wp2
          go_roundw
          case rel => exact ⟨j + 1, by omega, by go_num, by rw [HSN.out]; exact ownsRow_ext ho (drewN_ext [] wr nq) (by simp), hx'.out.drewN nq⟩
          case measure => simp [intOf]; omega
      · obtain rfl : j = n := by omega
        have HS9 := Lib.hid (Sl.of_own ho)
        have HX9 := Lib.hid hx
        have HO := Lib.hid (show ordL 2 m x p j = L5 ++ lft L (List.range j) by unfold ordL; rw [H5.out, HL.out]; simp)
        clear ho hx
        go_wp2
        go_ret2
        exact ⟨_, rfl, by rw [HO.out]; exact HS9.out, EW.out.trans HX9.out⟩
  · have hLp : 0 < L.length := by rw [HL.out]; exact of_some hm1 (by have := pow_le8 n8; omega)
    have l0 : ((L.length : Int) == 0) = false := beq_eq_false_iff_ne.2 (by omega)
    have l1 : (0 : Int) < (L.length : Int) := by omega
    have HRT := Lib.hid (fun i hi => rot_take L p i hi)
    have HRL := Lib.hid (rot_len L (p % L.length) (by have := Nat.mod_lt p hLp; omega))
    have HO := Lib.hid (show ordL 3 m x p n = [L.drop (p % L.length), L.take (p % L.length)].flatten by unfold ordL; rw [HL.out]; simp)
    obtain ⟨G, hG⟩ : ∃ G, G = [L.drop (p % L.length), L.take (p % L.length)].flatten := ⟨_, rfl⟩
    rw [← hG] at HRT HRL HO
    have p1 : (p : Int) < 4096 := by omega
    clear hG
    go_wp2
    go_loopw [12, 13] (fun v i wr => ∃ j : Nat, j ≤ L.length ∧ i = .int .i64 j ∧ wr.ownsRow w3.heap.size 3 1 v (G.take j).length (encN (G.take j)) ∧ Ext [] w3 wr) (fun _ i _ => L.length - (intOf i).toNat)
    case atStart => exact ⟨0, by omega, rfl, World.ownsRow_nil _ _ _ _, Ext.refl _ _⟩
    case round =>
      obtain ⟨j, hj, rfl, ho, hx⟩ := hrel
      have hsz := hx.size
      by_cases hlt : j < L.length
      · obtain ⟨s, hs⟩ : ∃ s, s = (p + j) % L.length := ⟨_, rfl⟩
        have hsl : s < L.length := by rw [hs]; exact Nat.mod_lt _ hLp
        have hs2 : ((p : Int) + (j : Int)) % (L.length : Int) = (s : Int) := by rw [hs]; simp
        have hrt : G.take (j + 1) = G.take j ++ [L[s]'hsl] := by rw [HRT.out j hlt]; simp only [← hs]
        obtain ⟨b, o, hkL, rfl, hb, hc⟩ := (HBS.out.ext hx (by simp)).at hsl
        have s0 : (0 : Int) ≤ (s : Int) := by omega
        have s1 : (s : Int) < (L.length : Int) := by omega
        have hx' := Lib.hid hx
        have HS2 := Lib.hid hrt
        have hgl : (G.take j).length ≤ 8 := by simp; omega
        clear hx hs hrt
        generalize L[s] = z at *
        generalize G.take j = F at *
        go_wp2_with (first
          | (at_builtin; refine wpList_app T_int (ownsRow_ext ho ((Ext.refl [] _).alloc _) (by simp)) (Sl.lit wr 1 1 [.int .i64 (z : Int)] 3 (by decide) rfl) rfl rfl rfl rfl rfl (by simp [Value.oneCell']) (by unfold maxLen; omega) (by omega) (by simp; omega) ?_; intro v' w' hown' hext' hnew'))
        go_roundw
        case rel => exact ⟨j + 1, by omega, by go_num, by rw [HS2.out]; simpa [encN] using hown', (hx'.out.alloc _).step hext' (fun i hi => .inr (ho.lt i (of_mem_own hi)).1)⟩
        case measure => simp [intOf]; omega
      · obtain rfl : j = L.length := by omega
        rw [List.take_of_length_le (by rw [HRL.out]; omega)] at ho
        have HS9 := Lib.hid (Sl.of_own ho)
        have HX9 := Lib.hid hx
        clear ho hx
        go_wp2
        go_ret2
        exact ⟨_, rfl, by rw [HO.out]; exact HS9.out, EW.out.trans HX9.out⟩

end Go.Proofs.Ytkcaheedhbgmnaa
