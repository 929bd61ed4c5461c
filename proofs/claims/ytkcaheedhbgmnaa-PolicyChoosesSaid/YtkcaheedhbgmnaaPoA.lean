/-
  Policy: nodes, masks, bases (lines of the walks of Addr).
-/
import Derived.Test.YtkcaheedhbgmnaaRows
import Derived.Test.YtkcaheedhbgmnaaBase
import Derived.Test.YtkcaheedhbgmnaaSl
namespace Go.Proofs.Ytkcaheedhbgmnaa
set_option linter.unusedVariables false
set_option linter.unusedSimpArgs false
open Go.RowKit
set_option maxHeartbeats 400000
set_option maxRecDepth 10000

/-- Has a mask this bit, as the walk writes it. -/
def bitB (mask : Int) (k : Nat) : Bool := bits BinOp.and IntKind.i64 (mask / 2 ^ k) 1 == 1
def ints (l : List Nat) : List (Array Value) := l.map fun x => #[.int .i64 ((x : Nat) : Int)]
theorem nodes1 (B : Nat) (mask : Int) (w0 : World) (hB : Blk w0 B [.int .i64 mask] 3)  :
    Iter Try.prog 84 #[.pointer (some ⟨B, 0, none⟩)] [B] (ints (upto (bitB mask) 8)) w0 := by
  intro n l M J Jx W hn hs hK hM fJ fJx hY h0
  refine callsIn_of_wp Try.func84 rfl trivial ?_ rfl
  simp only [Try.ntmps84, List.size_toArray, List.length_cons, List.length_nil, Nat.reduceAdd, Nat.reduceSub, Array.replicate_succ, Array.replicate_zero, List.push_toArray, List.append_toArray, List.nil_append, List.cons_append]
  gi_wp2
  gi_loopw [4] (fun v wr => ∃ (k : Nat) (X : List Nat), k ≤ 8 ∧ v = .int .i64 k ∧ J (upto (bitB mask) k).length X wr ∧ Ext M W wr ∧ (∀ b, b ∈ X → W.heap.size ≤ b ∧ b < wr.heap.size)) (fun v _ => 8 - (intOf v).toNat)
  case atStart => exact ⟨0, [], by omega, rfl, by simpa [upto] using h0, Ext.refl _ _, by simp⟩
  case round =>
    obtain ⟨k, X, hk, rfl, hJ, hx, hX⟩ := hrel
    have hKB := hK B (by simp)
    have hMB : B ∉ M := fun h => (hM B h).1 (by simp)
    have hc : wr.cell? ⟨B, 0, none⟩ = some (.int .i64 mask) := by
      rw [hx.cell (p := ⟨B, 0, none⟩) (by have := hKB.1; show B < _; omega) hMB, World.cell?_of_block (w := w0) hKB.2]; exact hB.cell 0
    by_cases hlt : k < 8
    · by_cases hp : bitB mask k = true
      · obtain ⟨fn, tmps, assign, body, hy, hR⟩ := yield_at (a := #[.int .i64 k]) (by unfold ints; rw [List.getElem?_map, upto_at _ hp hlt]; rfl) (fun h => hY (upto (bitB mask) k).length h X wr hJ hx hX)
        have hpb : (bits BinOp.and IntKind.i64 (mask / 2 ^ k) 1 == 1) = true := hp
        clear hK hM fJ fJx hJ hY
        gi_wp2
        refine hR.mono ?_
        clear hR hy
        have hu := upto_succ (bitB mask) k
        rw [if_pos hp] at hu
        have Hu := Lib.hid hu
        have Hp := Lib.hid hp
        clear hu hp hpb
        rintro e W' ⟨hx', X', hX', (⟨rfl, hJ'⟩ | ⟨rfl, hJ'⟩)⟩
        · gi_wp2
          go_roundw
          case rel => exact ⟨k + 1, X', by omega, by go_num, by rw [Hu.out]; simpa using hJ', hx.step hx' (fun b hb => by rcases List.mem_append.1 hb with h | h; exact .inl h; exact .inr (hX b h).1),
            fun b hb => ⟨by rcases (hX' b hb).1 with h | h; exact (hX b h).1; have := hx.size; omega, (hX' b hb).2⟩⟩
          case measure => simp [intOf]; omega
        · gi_wp2
          refine bodyPost_ret (results_none rfl _ _ _) rfl ?_
          exact ⟨⟨_, rfl⟩, hx.step hx' (fun b hb => by rcases List.mem_append.1 hb with h | h; exact .inl h; exact .inr (hX b h).1), X',
            fun b hb => ⟨by rcases (hX' b hb).1 with h | h; exact (hX b h).1; have := hx.size; omega, (hX' b hb).2⟩, .inr ⟨_, by have := upto_len (bitB mask) (j := k + 1) (k := 8) (by omega); rw [Hu.out] at this; simpa [ints] using this, hJ'⟩⟩
      · have hpb : (bits BinOp.and IntKind.i64 (mask / 2 ^ k) 1 == 1) = false := by simpa [bitB] using hp
        have hu := upto_succ (bitB mask) k
        rw [if_neg hp] at hu
        have Hu := Lib.hid hu
        clear hp hu hK hM fJ fJx hY
        gi_wp2
        go_roundw
        case rel => exact ⟨k + 1, X, by omega, by go_num, by rw [Hu.out]; exact hJ, hx, hX⟩
        case measure => simp [intOf]; omega
    · have hk8 : k = 8 := by omega
      subst hk8
      clear hK hM fJ fJx hY
      gi_wp2
      go_end0
      exact ⟨⟨_, rfl⟩, hx, X, hX, .inl (by simpa [ints] using hJ)⟩
theorem nodes_c (mask : Int) (w : World) :
    Calls Try.prog 67 #[.int .i64 mask] w fun e w' => e = .returned (.func (.func 84) #[] #[.pointer (some ⟨w.heap.size, 0, none⟩)]) ∧ w' = w.alloc (.cells #[.int .i64 mask] 3) := by
  go_enter Try.func67, Try.ntmps67
  go_wp2
  go_ret
  exact ⟨rfl, rfl⟩
theorem nodes_it (mask : Int) (w : World) : Iter Try.prog 84 #[.pointer (some ⟨w.heap.size, 0, none⟩)] [w.heap.size] (ints (upto (bitB mask) 8)) (w.alloc (.cells #[.int .i64 mask] 3)) :=
  nodes1 w.heap.size mask _ (Blk.new w [.int .i64 mask] 3)
theorem upto_le (p : Nat → Bool) (k : Nat) : (upto p k).length ≤ k := by
  have := List.length_filter_le p (List.range k); simpa [upto] using this
def twoV (x e : Int) : Value := .tuple #[.int .i64 x, .int .i64 e]
def baseS (a : Int) : Value := if 0 ≤ a ∧ a < 4096 then twoV (a * 64) 0 else twoV 0 1
theorem base_c (a : Int) (w : World) : Calls Try.prog 65 #[.int .i64 a] w fun e w' => e = .returned (baseS a) ∧ w = w' := by
  unfold baseS twoV
  by_cases h0 : 0 ≤ a
  · by_cases h1 : a < 4096
    · rw [if_pos ⟨h0, h1⟩]
      go_enter Try.func65, Try.ntmps65
      go_wp2
      go_ret2; exact ⟨rfl, rfl⟩
    · rw [if_neg (by omega)]
      go_enter Try.func65, Try.ntmps65
      go_wp2
      go_ret2; exact ⟨rfl, rfl⟩
  · rw [if_neg (by omega)]
    go_enter Try.func65, Try.ntmps65
    go_wp2
    go_ret2; exact ⟨rfl, rfl⟩
def maskS (mask nodes : Int) : Int := if 1 ≤ nodes ∧ nodes ≤ 8 ∧ 1 ≤ mask ∧ mask < 2 ^ nodes.toNat then 0 else 1
theorem maskS_yes {mask : Int} {n : Nat} (h1 : 1 ≤ n) (h2 : n ≤ 8) (h3 : 1 ≤ mask) (h4 : mask < 2 ^ n) : maskS mask n = 0 := by unfold maskS; rw [if_pos ⟨by omega, by omega, h3, by simpa using h4⟩]
theorem maskS_no {mask : Int} {n : Nat} (h4 : ¬ mask < 2 ^ n) : maskS mask n = 1 := by unfold maskS; rw [if_neg (fun h => h4 (by simpa using h.2.2.2))]
theorem mask_c (mask nodes : Int) (w : World) : Calls Try.prog 74 #[.int .i64 mask, .int .i64 nodes] w fun e w' => e = .returned (.int .i64 (maskS mask nodes)) ∧ w = w' := by
  by_cases h1 : 1 ≤ nodes
  · obtain ⟨n, rfl⟩ := Int.eq_ofNat_of_zero_le (a := nodes) (by omega)
    by_cases h2 : (n : Int) ≤ 8
    · by_cases h3 : 1 ≤ mask
      · by_cases h4 : mask < 2 ^ n
        · rw [maskS_yes (by omega) (by omega) h3 h4]
          have hq : (mask / 2 ^ n != 0) = false := by rw [Int.ediv_eq_zero_of_lt (by omega) h4]; rfl
          clear h4
          go_enter Try.func74, Try.ntmps74
          go_wp2
          go_ret; exact ⟨rfl, rfl⟩
        · rw [maskS_no h4]
          have hq : (mask / 2 ^ n != 0) = true := by
            rw [bne_iff_ne]; intro h
            have hp : (0 : Int) < 2 ^ n := Int.pow_pos (by decide)
            have h5 := Int.lt_ediv_add_one_mul_self mask hp
            rw [h] at h5; omega
          clear h4
          go_enter Try.func74, Try.ntmps74
          go_wp2
          go_ret; exact ⟨rfl, rfl⟩
      · rw [show maskS mask n = 1 by unfold maskS; rw [if_neg (by omega)]]
        go_enter Try.func74, Try.ntmps74
        go_wp2
        go_ret; exact ⟨rfl, rfl⟩
    · rw [show maskS mask n = 1 by unfold maskS; rw [if_neg (by omega)]]
      go_enter Try.func74, Try.ntmps74
      go_wp2
      go_ret; exact ⟨rfl, rfl⟩
  · rw [show maskS mask nodes = 1 by unfold maskS; rw [if_neg (by omega)]]
    go_enter Try.func74, Try.ntmps74
    go_wp2
    go_ret; exact ⟨rfl, rfl⟩
theorem rmask_c (mask nodes : Int) (w : World) : Calls Try.prog 41 #[.int .i64 mask, .int .i64 nodes] w fun e w' => e = .returned (.int .i64 (maskS mask nodes)) ∧ w = w' := by
  by_cases h1 : 1 ≤ nodes
  · by_cases h2 : nodes ≤ 8
    · by_cases h3 : 1 ≤ mask
      · obtain ⟨n, rfl⟩ := Int.eq_ofNat_of_zero_le (a := nodes) (by omega)
        have hn : n = 1 ∨ n = 2 ∨ n = 3 ∨ n = 4 ∨ n = 5 ∨ n = 6 ∨ n = 7 ∨ n = 8 := by omega
        by_cases h4 : mask < 2 ^ n
        · rw [maskS_yes (by omega) (by omega) h3 h4]
          clear h1 h2
          rcases hn with rfl | rfl | rfl | rfl | rfl | rfl | rfl | rfl <;>
          · simp at h4
            go_enter Try.func41, Try.ntmps41
            go_wp2
            go_ret; exact ⟨rfl, rfl⟩
        · rw [maskS_no h4]
          clear h1 h2
          rcases hn with rfl | rfl | rfl | rfl | rfl | rfl | rfl | rfl <;>
          · simp at h4
            go_enter Try.func41, Try.ntmps41
            go_wp2
            go_ret; exact ⟨rfl, rfl⟩
      · rw [show maskS mask nodes = 1 by unfold maskS; rw [if_neg (by omega)]]
        go_enter Try.func41, Try.ntmps41
        go_wp2
        go_ret; exact ⟨rfl, rfl⟩
    · rw [show maskS mask nodes = 1 by unfold maskS; rw [if_neg (by omega)]]
      go_enter Try.func41, Try.ntmps41
      go_wp2
      go_ret; exact ⟨rfl, rfl⟩
  · rw [show maskS mask nodes = 1 by unfold maskS; rw [if_neg (by omega)]]
    go_enter Try.func41, Try.ntmps41
    go_wp2
    go_ret; exact ⟨rfl, rfl⟩
theorem T_int : SlT Try.prog 67 3 (.int .i64 0) 1 8 := ⟨Try.underlying67, by kernel_rfl, rfl, by decide⟩
/-- A new slice of these numbers. -/
def RetN (B : Nat) (L : List Nat) (w : World) (e : Ending) (w' : World) : Prop :=
  ∃ v, e = .returned v ∧ w'.ownsRow B 3 1 v L.length (encN L) ∧ Ext [] w w'
theorem upto_snoc {p : Nat → Bool} {k : Nat} (h : p k = true) : encN (upto p (k + 1)) = encN (upto p k) ++ [.int .i64 (k : Int)] ∧ (upto p (k + 1)).length = (upto p k).length + 1 := by
  rw [upto_succ, if_pos h]; exact ⟨(encN_snoc _ _).symm, by simp⟩
theorem has_c (mask : Int) (k : Nat) (w : World) (hk : k < 8) : Calls Try.prog 40 #[.int .i64 mask, .int .i64 k] w fun e w' => e = .returned (.bool (bitB mask k)) ∧ w = w' := by
  have h0 : (0 : Int) ≤ k := by omega
  have h1 : (k : Int) < 8 := by omega
  go_enter Try.func40, Try.ntmps40
  go_wp2
  go_ret
  exact ⟨rfl, rfl⟩
theorem rnodes_c (mask : Int) (w : World) : Calls Try.prog 43 #[.int .i64 mask] w (RetN w.heap.size (upto (bitB mask) 8) w) := by
  go_enter Try.func43, Try.ntmps43
  go_wp2
  go_loopw [3, 4] (fun v p wr => ∃ k : Nat, k ≤ 8 ∧ p = .int .i64 k ∧ wr.ownsRow w.heap.size 3 1 v (upto (bitB mask) k).length (encN (upto (bitB mask) k)) ∧ Ext [] w wr) (fun _ p _ => 8 - (intOf p).toNat)
  case atStart => exact ⟨0, by omega, rfl, World.ownsRow_nil _ _ _ _, Ext.refl _ _⟩
  case round =>
    obtain ⟨k, hk, rfl, ho, hx⟩ := hrel
    have hsz := hx.size
    by_cases hlt : k < 8
    · have hl := upto_le (bitB mask) k
      by_cases hq : bitB mask k = true
      · obtain ⟨e1, e2⟩ := upto_snoc hq
        have E1 := Lib.hid e1
        have E2 := Lib.hid e2
        have C := Lib.hid (fun w => has_c mask k w hlt)
        rw [hq] at C
        clear e1 e2 hq
        generalize (upto (bitB mask) k).length = n at *
        go_wp2_with (first
          | (go_at_call 40; refine (C.out _).mono ?_; rintro e w' ⟨rfl, rfl⟩)
          | (at_builtin; refine wpList_app T_int (ownsRow_ext ho ((Ext.refl [] _).alloc _) (by simp)) (Sl.lit wr 1 1 [.int .i64 (k : Int)] 3 (by decide) rfl) rfl rfl rfl rfl rfl (by simp [Value.oneCell']) (by unfold maxLen; omega) (by omega) (by simp; omega) ?_; intro v' w' hown' hext' hnew'))
        go_roundw
        case rel => exact ⟨k + 1, by omega, by go_num, by rw [E1.out, E2.out]; exact hown', (hx.alloc _).step hext' (fun i hi => .inr (ho.lt i (of_mem_own hi)).1)⟩
        case measure => simp [intOf]; omega
      · have Hq := Lib.hid (show upto (bitB mask) (k + 1) = upto (bitB mask) k by rw [upto_succ, if_neg hq])
        have C := Lib.hid (fun w => has_c mask k w hlt)
        rw [Bool.eq_false_iff.2 hq] at C
        clear hq
        go_wp2_with (go_at_call 40; refine (C.out _).mono ?_; rintro e w' ⟨rfl, rfl⟩)
        go_roundw
        case rel => exact ⟨k + 1, by omega, by go_num, by rw [Hq.out]; exact ho, hx⟩
        case measure => simp [intOf]; omega
    · obtain rfl : k = 8 := by omega
      go_wp2
      go_ret
      exact ⟨_, rfl, ho, hx⟩
theorem drewN_ext (M : List Nat) (w : World) (n : Nat) : Ext M w (w.drewN n) := (Ext.refl M w).drewN n
theorem ints_c (va vb : Value) (A B : List Int) (w : World) (ha : Sl w 1 va (encI A)) (hb : Sl w 1 vb (encI B)) :
    Calls Try.prog 36 #[va, vb] w fun e w' => e = .returned (.bool (decide (A = B))) ∧ Ext [] w w' := by
  obtain ⟨aa, na, ca, rfl, hla, _, hma, hca⟩ := ha.form
  obtain ⟨ab, nb, cb, rfl, hlb, _, hmb, hcb⟩ := hb.form
  simp at hla hlb
  unfold maxLen at hma hmb
  have Hla := Lib.hid hla
  have Hlb := Lib.hid hlb
  clear hla hlb ha hb
  by_cases hn : na = nb
  · subst hn
    go_enter Try.func36, Try.ntmps36
    go_wp2
    go_loopw [5] (fun i wr => ∃ k d : Nat, k ≤ na ∧ i = .int .i64 k ∧ A.take k = B.take k ∧ wr = w.drewN d) (fun i _ => na - (intOf i).toNat)
    case atStart => exact ⟨0, 0, by omega, rfl, by simp, rfl⟩
    case round =>
      obtain ⟨k, d, hk, rfl, ht, rfl⟩ := hrel
      have Ht := Lib.hid ht
      clear ht
      by_cases hlt : k < na
      · obtain ⟨ba, oa, rfl, hba, hca⟩ := hca (by omega)
        obtain ⟨bb, ob, rfl, hbb, hcb⟩ := hcb (by omega)
        have ca1 := hca k (by omega)
        have cb1 := hcb k (by omega)
        have kA : k < A.length := by have := Hla.out; omega
        have kB : k < B.length := by have := Hlb.out; omega
        rw [encI_get, List.getElem?_eq_getElem kA] at ca1
        rw [encI_get, List.getElem?_eq_getElem kB] at cb1
        simp only [Option.map_some] at ca1 cb1
        have htA : A.take (k + 1) = A.take k ++ [A[k]] := List.take_succ_eq_append_getElem kA
        have htB : B.take (k + 1) = B.take k ++ [B[k]] := List.take_succ_eq_append_getElem kB
        have HtA := Lib.hid htA
        have HtB := Lib.hid htB
        have hne : A[k] ≠ B[k] → A ≠ B := fun h e => h (by subst e; rfl)
        generalize A[k] = x at *
        generalize B[k] = y at *
        have Hne := Lib.hid hne
        clear hca hcb htA htB hne
        have hk0 : (0 : Int) ≤ k := by omega
        have hk1 : (k : Int) < na := by omega
        go_wp2
        go_quiet (fail)
        by_cases hxy : x = y
        · subst hxy
          go_wp2
          go_roundw
          case rel => exact ⟨k + 1, d + nq, by omega, by go_num, by rw [HtA.out, HtB.out, Ht.out], by simp [World.drewN_drewN]⟩
          case measure => simp [intOf]; omega
        · have hb : (x != y) = true := by simpa using hxy
          go_wp2
          go_ret
          exact ⟨ret_bool (by simpa using Hne.out hxy), by rw [World.drewN_drewN]; exact drewN_ext _ _ _⟩
      · have hkn : A = B := by
          have := Ht.out
          rwa [List.take_of_length_le (by have := Hla.out; omega), List.take_of_length_le (by have := Hlb.out; omega)] at this
        have Hkn := Lib.hid hkn
        clear hkn
        go_wp2
        go_ret
        exact ⟨ret_bool (by simpa using Hkn.out), drewN_ext _ _ _⟩
  · have hne : A ≠ B := fun e => hn (by have := Hla.out; have := Hlb.out; subst e; omega)
    have hb : ((na : Int) != (nb : Int)) = true := by simp; omega
    have Hne := Lib.hid hne
    clear hne
    go_enter Try.func36, Try.ntmps36
    go_wp2
    go_ret
    exact ⟨ret_bool (by simpa using Hne.out), Ext.refl _ _⟩
theorem ints_true (va vb : Value) (L : List Nat) (w : World) (ha : Sl w 1 va (encN L)) (hb : Sl w 1 vb (encN L)) :
    Calls Try.prog 36 #[va, vb] w fun e w' => e = .returned (.bool true) ∧ Ext [] w w' := by
  rw [encN_eq] at ha hb
  have := ints_c va vb _ _ w ha hb
  simpa using this

end Go.Proofs.Ytkcaheedhbgmnaa
