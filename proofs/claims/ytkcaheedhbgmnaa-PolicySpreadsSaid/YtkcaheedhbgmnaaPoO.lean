/-
  Policy's law: PolicySpreads, walked.
-/
import Derived.Test.YtkcaheedhbgmnaaPoN
namespace Go.Proofs.Ytkcaheedhbgmnaa
set_option linter.unusedVariables false
set_option linter.unusedSimpArgs false
open Go.RowKit
set_option maxHeartbeats 1000000
set_option maxRecDepth 100000
set_option linter.unusedVariables false
set_option linter.unusedSimpArgs false

theorem policySpreads_c (m pg : Int) (w : World) : Calls Try.prog 9 #[.int .i64 m, .int .i64 pg] w fun e w' => e = .returned (.bool true) ∧ Ext [] w w' := by
  have CW := Lib.hid (fun w => awake10_c w)
  have CM := Lib.hid (fun w => rmask_c m 8 w)
  have CP := Lib.hid (fun w => isPage_c pg w)
  by_cases h1 : maskS m 8 = 0
  · rw [h1] at CM
    by_cases h2 : 0 ≤ pg ∧ pg < 4096
    · rw [show isPageB pg = true by unfold isPageB; simp; omega] at CP
      obtain ⟨p, rfl⟩ := Int.eq_ofNat_of_zero_le h2.1
      have hp : p < 4096 := by omega
      have hmm : 1 ≤ m ∧ m < 256 := by
        unfold maskS at h1; split at h1
        · rename_i h; exact ⟨h.2.2.1, by simpa using h.2.2.2⟩
        · omega
      obtain ⟨L, hL⟩ : ∃ L, L = ofN m := ⟨_, rfl⟩
      have CN : Hid (∀ (w : World), Calls Try.prog 43 #[.int .i64 m] w (RetN w.heap.size L w)) := fun w => by rw [hL]; exact rnodes_c m w
      have hLp : 0 < L.length := by rw [hL]; exact of_some hmm.1 hmm.2
      have hL8 : L.length ≤ 8 := by rw [hL]; exact of_le m
      have hLn : L.Nodup := by rw [hL]; exact upto_nodup _ _
      have hLt : ∀ y, y ∈ L → y < 8 := fun y hy => by rw [hL] at hy; unfold ofN upto at hy; simp at hy; exact hy.1
      have hok : ∀ q : Nat, q < 4096 → OkP 3 m 0 q 8 := fun q hq => ⟨by unfold checkS; rw [if_pos (by omega), if_neg (by omega)]; exact h1, by omega, hq⟩
      have CO : Hid (∀ (q : Nat) (w : World), q < 4096 → Calls Try.prog 34 #[.agg #[.int .i64 3, .int .i64 m], .int .i64 0, .int .i64 (q : Int), .int .i64 8] w (RetO ([L.drop (q % L.length), L.take (q % L.length)].flatten) w)) := fun q w hq => by
        have := order_c 3 m 0 q 8 (hok q hq) w
        have e : ordL 3 m 0 q 8 = [L.drop (q % L.length), L.take (q % L.length)].flatten := by unfold ordL; rw [hL]; simp
        rw [e] at this
        exact this
      have HRT := Lib.hid (fun i hi => rot_take L p i hi)
      have HG0 : Hid (∀ q, ([L.drop (q % L.length), L.take (q % L.length)].flatten)[0]? = some (L[q % L.length]'(Nat.mod_lt _ hLp))) := fun q => by have := rot_get L q 0 hLp; simpa using this
      have HGL : Hid (∀ q, ([L.drop (q % L.length), L.take (q % L.length)].flatten).length = L.length) := fun q => rot_len L _ (by have := Nat.mod_lt q hLp; omega)
      obtain ⟨G, hG⟩ : ∃ G, G = [L.drop (p % L.length), L.take (p % L.length)].flatten := ⟨_, rfl⟩
      have HGn : Hid G.Nodup := by
        show G.Nodup
        rw [hG]; simp
        exact (List.Perm.nodup_iff (List.perm_append_comm.trans (by rw [List.take_append_drop]))).2 hLn
      have HGl : Hid (G.length = L.length) := by show G.length = _; rw [hG]; exact HGL.out p
      rw [← hG] at HRT
      have HLt := Lib.hid hLt
      clear hok hG hLn hL hmm h1 h2 hLt
      go_enter Try.func9, Try.ntmps9
      go_wp2_with (first
        | (go_at_call 41; refine (CM.out _).mono ?_; rintro e w' ⟨rfl, rfl⟩)
        | (go_at_call 42; refine (CP.out _).mono ?_; rintro e w' ⟨rfl, rfl⟩)
        | (go_at_call 43; refine (CN.out _).mono ?_; rintro e w1 ⟨v1, rfl, hs, hx⟩; obtain ⟨va, vc, rfl, _, _⟩ := ownsRow_form hs; have HX1 := Lib.hid hx; clear hs hx))
      go_loopw [6, 7] (fun mk i wr => ∃ (j : Nat) (M : Int), j ≤ L.length ∧ i = .int .i64 j ∧ mk = .int .i64 M ∧ MaskOf M (G.take j) ∧ Ext [] w1 wr) (fun _ i _ => L.length - (intOf i).toNat)
      case atStart => exact ⟨0, 0, by omega, rfl, rfl, by simpa using MaskOf.nil, Ext.refl _ _⟩
      case round =>
        obtain ⟨j, M, hj, rfl, rfl, hM, hx⟩ := hrel
        have hx' := Lib.hid hx
        by_cases hlt : j < L.length
        · by_cases hq : p + j < 4096
          · have hsl : (p + j) % L.length < L.length := Nat.mod_lt _ hLp
            have ht := HRT.out j hlt
            have h0 := HG0.out (p + j)
            have hln := HGL.out (p + j)
            have COj := CO.out (p + j) wr hq
            have hz8 := HLt.out L[(p + j) % L.length] (List.getElem_mem hsl)
            have hnew : bitB M L[(p + j) % L.length] = false := by
              rw [hM.bit _ hz8, decide_eq_false_iff_not]
              intro hm
              have hnd : (G.take (j + 1)).Nodup := (List.take_sublist _ _).nodup HGn.out
              rw [ht, List.nodup_append] at hnd
              exact hnd.2.2 _ hm _ (by simp) rfl
            have C := Lib.hid (fun w => has_c M L[(p + j) % L.length] w hz8)
            rw [hnew] at C
            have HS := Lib.hid (hM.snoc hz8)
            rw [← ht] at HS
            have hw := pow_wrap (show L[(p + j) % L.length] ≤ 8 by omega)
            have hpj : ((p + j : Nat) : Int) = (p : Int) + (j : Int) := by omega
            rw [hpj] at COj
            generalize [L.drop ((p + j) % L.length), L.take ((p + j) % L.length)].flatten = F at *
            have HF := Lib.hid (And.intro h0 hln)
            have HCO := Lib.hid COj
            have p1 : (p : Int) + (j : Int) < 4096 := by omega
            have p2 : (0 : Int) ≤ (p : Int) + (j : Int) := by omega
            have j1 : decide (j < L.length) = true := by simpa using hlt
            have q1 : (L.length != L.length) = false := by simp
            have q2 : ((L.length : Int) != (L.length : Int)) = false := by simp
            have hz9 : (0 : Int) ≤ (L[(p + j) % L.length] : Int) := by omega
            clear ht h0 hln COj hnew hM hx hpj
            generalize L[(p + j) % L.length] = z at *
            go_wp2_with (first
              | (go_at_call 34; refine (HCO.out).mono ?_; rintro e w2 ⟨v2, rfl, hs, hx⟩; obtain ⟨vb, vn, vd, rfl, _⟩ := hs.form; have hl := hs.len; obtain rfl : vn = L.length := (by have := HF.out.2; omega); obtain ⟨b, o, hkL, rfl, hb, hc⟩ := hs.at (k := 0) hLp; have hc0 : w2.cell? ⟨b, o, none⟩ = some (.int .i64 (z : Int)) := (by have := HF.out.1; rw [List.getElem?_eq_getElem (by omega)] at this; have e : F[0] = z := (by simpa using this); rw [e] at hc; exact hc); have HX2 := Lib.hid hx; clear hs hx hc hl)
              | (go_at_call 40; refine (C.out _).mono ?_; rintro e w' ⟨rfl, rfl⟩))
            go_roundw
            case rel => exact ⟨j + 1, _, by omega, by go_num, rfl, HS.out, hx'.out.trans HX2.out⟩
            case measure => simp [intOf]; omega
          · have p1 : ¬ ((p : Int) + (j : Int) < 4096) := by omega
            have j1 : decide (j < L.length) = true := by simpa using hlt
            clear hM hx
            go_wp2_with (go_at_call 39; refine (CW.out _).mono ?_; rintro e w3 ⟨rfl, hx⟩; have HX3 := Lib.hid hx; clear hx)
            go_ret
            exact ⟨rfl, (HX1.out.trans hx'.out).trans HX3.out⟩
        · have j1 : decide (j < L.length) = false := by simpa using hlt
          clear hM hx
          go_wp2_with (go_at_call 39; refine (CW.out _).mono ?_; rintro e w3 ⟨rfl, hx⟩; have HX3 := Lib.hid hx; clear hx)
          go_ret
          exact ⟨rfl, (HX1.out.trans hx'.out).trans HX3.out⟩
    · rw [show isPageB pg = false by unfold isPageB; simp only [Bool.and_eq_false_iff, decide_eq_false_iff_not]; omega] at CP
      clear h1 h2
      go_enter Try.func9, Try.ntmps9
      go_wp2_with (first
        | (go_at_call 41; refine (CM.out _).mono ?_; rintro e w' ⟨rfl, rfl⟩)
        | (go_at_call 42; refine (CP.out _).mono ?_; rintro e w' ⟨rfl, rfl⟩)
        | (go_at_call 39; refine (CW.out _).mono ?_; rintro e w3 ⟨rfl, hx⟩; have HX3 := Lib.hid hx; clear hx))
      go_ret
      exact ⟨rfl, HX3.out⟩
  · have hb : (maskS m 8 != 0) = true := by simpa using h1
    generalize maskS m 8 = c at *
    clear h1
    go_enter Try.func9, Try.ntmps9
    go_wp2_with (first
      | (go_at_call 41; refine (CM.out _).mono ?_; rintro e w' ⟨rfl, rfl⟩)
      | (go_at_call 39; refine (CW.out _).mono ?_; rintro e w3 ⟨rfl, hx⟩; have HX3 := Lib.hid hx; clear hx))
    go_ret
    exact ⟨rfl, HX3.out⟩

end Go.Proofs.Ytkcaheedhbgmnaa
