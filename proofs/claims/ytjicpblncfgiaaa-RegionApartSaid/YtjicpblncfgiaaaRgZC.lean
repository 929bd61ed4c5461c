/-
  Region's laws: RegionApart, walked.
-/
import Derived.Test.YtjicpblncfgiaaaRgX
namespace Go.Proofs.Ytjicpblncfgiaaa
set_option linter.unusedVariables false
set_option linter.unusedSimpArgs false
open Go.RowKit RgT SpT
set_option maxHeartbeats 4000000
set_option maxRecDepth 100000
set_option linter.unusedVariables false
set_option linter.unusedSimpArgs false

theorem RJ.away {w w' : World} {sp mp rp tp : Nat} {nodes n2 : Int} {L : List (Sp U)} {f g : Nat → Option U} (h : RJ w sp mp rp nodes L f) (ht : TS w tp n2 g) (hne : tp ≠ sp) (hx : Ext [tp] w w') : RJ w' sp mp rp nodes L f := by
  obtain ⟨tm, t1, _, _⟩ := ht
  have hmp : mp ≠ tp := by
    rintro rfl
    obtain ⟨v, k1, _⟩ := h.h.s.map
    have k2 := t1.head
    unfold Blk at k1 k2
    rw [k1] at k2; injection k2 with k2; injection k2 with _ k2; exact absurd k2 (by decide)
  exact ⟨⟨⟨h.h.s.head.ext hx (by simpa using hne.symm), h.h.s.map.ext hx (by simpa using hmp) (fun q hq => by rw [List.mem_singleton.1 hq]; exact NoRow.space t1.head), h.h.s.len⟩, h.h.r.beside t1.head (by simp) hx⟩, h.tie, h.n, h.l64, h.ok⟩

theorem regionApart_c (nodes : Int) (v v2 : Value) (l more : List Cl) (w : World) (hl : RCalls w v l) (hm : RCalls w v2 more) : Calls Try.prog 7 #[.int .i64 nodes, v, v2] w fun e w' => e = .returned (.bool true) ∧ Ext [] w w' := by
  have CW := Lib.hid (fun w => awake_c w)
  rcases nodes_cases nodes with hn | ⟨h1, h8⟩
  · have CM := Lib.hid (made_bad nodes v l w hl hn)
    clear hn hl hm
    go_enter Try.func7, Try.ntmps7
    go_wp2_with (first
      | (go_at_call 14; refine (CM.out).mono ?_; rintro e w1 ⟨rfl, hx⟩; have HX1 := Lib.hid hx; clear hx)
      | (go_at_call 19; refine (CW.out _).mono ?_; rintro e w2 ⟨rfl, hx⟩; have HX2 := Lib.hid hx; clear hx))
    go_ret
    exact ⟨rfl, HX1.out.trans HX2.out⟩
  · have CM := Lib.hid (made_ok nodes v l w hl h1 h8)
    obtain ⟨a2, cap2, rfl, hlen, hA⟩ := hm.form
    have HA := Lib.hid hA
    replace hlen : more.length ≤ 9223372036854775807 := by unfold maxLen at hlen; omega
    clear hl h1 h8 hm hA
    go_enter Try.func7, Try.ntmps7
    go_wp2_with (first
      | (go_at_call 14; refine (CM.out).mono ?_; rintro e w1 ⟨sp, mp, rp, L, f, rfl, hx, hJ, n1, n2⟩; have HX1 := Lib.hid hx; have HJ1 := Lib.hid hJ; have HN := Lib.hid n1; clear hx hJ n1 n2)
      | (go_at_call 23; refine (TS.copy HJ1.out.ts).mono ?_; rintro e w2 ⟨tp, rfl, hx, ht, hle⟩; have HX2 := Lib.hid (HX1.out.trans hx); have hlt := HJ1.out.ts.lt; have HNE := Lib.hid (show tp ≠ sp by omega); have HT2 := Lib.hid ht; have HJ2 := Lib.hid (HJ1.out.ext0 hx); have HTN := Lib.hid (Nat.le_trans HX1.out.size hle); clear hx ht hle hlt))
    go_loopw [12] (fun i wr => ∃ k : Nat, k ≤ more.length ∧ i = .int .i64 k ∧ Ext [tp] w2 wr ∧ TS wr tp nodes (applyAll nodes (more.take k) f)) (fun i _ => more.length - (intOf i).toNat)
    case atStart => exact ⟨0, by omega, rfl, Ext.refl _ _, HT2.out⟩
    case round =>
      obtain ⟨k, hk, rfl, hx, ht⟩ := hrel
      have HXr := Lib.hid hx
      have HTr := Lib.hid ht
      by_cases hlt : k < more.length
      · obtain ⟨b, o, rfl, hb, hac⟩ := (HA.out.ext_new (HX2.out.mono (N := [tp]) (by simp) |>.trans hx) (by have := HTN.out; simpa using this)).at_ hlt
        have hsn : more.take (k + 1) = more.take k ++ [more[k]] := List.take_succ_eq_append_getElem hlt
        generalize more[k] = p at *
        have HSN : Hid (applyAll nodes (more.take (k + 1)) f = (applyF nodes p (applyAll nodes (more.take k) f)).2) := by show _ = _; rw [hsn, applyAll_snoc]
        have i0 : (0 : Int) ≤ (k : Int) := by omega
        have i1 : (k : Int) < (more.length : Int) := by omega
        obtain ⟨c0, c1, c2, c3, c4, c5, c6, c7⟩ := hac
        clear hx ht hsn hb
        go_wp2_with (go_at_call 20; refine (TS.apply HTr.out p).mono ?_; rintro e w4 ⟨rfl, hx, hs⟩; have HX4 := Lib.hid hx; have HT4 := Lib.hid hs; clear hx hs)
        go_roundw
        case rel => exact ⟨k + 1, by omega, by go_num, HXr.out.trans HX4.out, by rw [HSN.out]; exact HT4.out⟩
        case measure => simp [intOf]; omega
      · have hke : k = more.length := by omega
        rw [hke, List.take_length] at ht
        have hxw := HX2.out.step hx (by have := HTN.out; simpa using this)
        have HX3 := Lib.hid hxw
        have HJ3 := Lib.hid (HJ2.out.away HT2.out HNE.out hx)
        have HT3 := Lib.hid ht
        have HLEN := Lib.hid HJ3.out.l64
        have hge : ¬ (k : Int) < (more.length : Int) := by omega
        clear hx ht hxw hke
        go_wp2_with (first
          | (go_at_call 16; refine (regions_c _ sp mp nodes L HJ3.out.h.s).mono ?_; rintro e w4 ⟨v4, rfl, hr, hx⟩; obtain ⟨a4, d4, rfl, _, _⟩ := ownsRow_form hr; have HR4 := Lib.hid hr; have HX4 := Lib.hid (HX3.out.trans hx); have HJ4 := Lib.hid (HJ3.out.ext0 hx); have HT4 := Lib.hid (HT3.out.ext0 hx); clear hx hr)
          | (go_at_call 17; refine (RH.all_tie HJ4.out).mono ?_; rintro e w5 ⟨v5, rfl, hr, hx⟩; obtain ⟨a5, d5, rfl, _, _⟩ := ownsRow_form hr; have HR5 := Lib.hid hr; have HR4b := Lib.hid (ownsRow_ext HR4.out hx (by simp)); have HX5 := Lib.hid (HX4.out.trans hx); have HJ5 := Lib.hid (HJ4.out.ext0 hx); have HT5 := Lib.hid (HT4.out.ext0 hx); clear hx hr)
          | (go_at_call 15; have cs := rsame_c _ _ _ _ _ L L HR4b.out HR5.out (by have := HLEN.out; omega) (by have := HLEN.out; omega); rw [sameB_yes rfl] at cs; refine cs.mono ?_; clear cs; rintro e w6 ⟨rfl, hx⟩; have HX6 := Lib.hid (HX5.out.trans hx); have HS6 := Lib.hid ((HJ5.out.ext0 hx).ts); have HT6 := Lib.hid (HT5.out.ext0 hx); clear hx))
        obtain ⟨wz, hwz⟩ : ∃ wz : World, wz = w6 := ⟨_, rfl⟩
        go_loopw [13] (fun i wr2 => ∃ k : Nat, k ≤ more.length ∧ i = .int .i64 k ∧ Ext [sp] w6 wr2 ∧ TS wr2 sp nodes (applyAll nodes (more.take k) f)) (fun i _ => more.length - (intOf i).toNat)
        case atStart => exact ⟨0, by omega, rfl, Ext.refl _ _, HS6.out⟩
        case round =>
          obtain ⟨k, hk, rfl, hx, ht⟩ := hrel
          have HXr := Lib.hid hx
          have HTr := Lib.hid ht
          by_cases hlt : k < more.length
          · obtain ⟨b, o, rfl, hb, hac⟩ := (HA.out.ext_new (HX6.out.mono (N := [sp]) (by simp) |>.trans hx) (by have := HN.out; simpa using this)).at_ hlt
            have hsn : more.take (k + 1) = more.take k ++ [more[k]] := List.take_succ_eq_append_getElem hlt
            generalize more[k] = p at *
            have HSN : Hid (applyAll nodes (more.take (k + 1)) f = (applyF nodes p (applyAll nodes (more.take k) f)).2) := by show _ = _; rw [hsn, applyAll_snoc]
            have i0 : (0 : Int) ≤ (k : Int) := by omega
            have i1 : (k : Int) < (more.length : Int) := by omega
            obtain ⟨c0, c1, c2, c3, c4, c5, c6, c7⟩ := hac
            clear hx ht hsn hb
            go_wp2_with (go_at_call 20; refine (TS.apply HTr.out p).mono ?_; rintro e w7 ⟨rfl, hx, hs⟩; have HX7 := Lib.hid hx; have HT7 := Lib.hid hs; clear hx hs)
            go_roundw
            case rel => exact ⟨k + 1, by omega, by go_num, HXr.out.trans HX7.out, by rw [HSN.out]; exact HT7.out⟩
            case measure => simp [intOf]; omega
          · have hke : k = more.length := by omega
            rw [hke, List.take_length] at ht
            have hge : ¬ (k : Int) < (more.length : Int) := by omega
            have HX8 := Lib.hid (HX6.out.step hx (by have := HN.out; simpa using this))
            have HT8 := Lib.hid (HT6.out.beside HS6.out HNE.out hx)
            have HS8 := Lib.hid ht
            have HL8 := Lib.hid (show (allK (applyAll nodes more f) 4096).length ≤ 64 by obtain ⟨_, _, _, h⟩ := ht; exact h)
            clear hx ht hke
            go_wp2_with (first
              | (go_at_call 16; (with_reducible refine (TS.regions HS8.out).mono ?_); rintro e w9 ⟨v9, rfl, hr, hx⟩; obtain ⟨a9, d9, rfl, _, _⟩ := ownsRow_form hr; have HR9 := Lib.hid hr; have HX9 := Lib.hid (HX8.out.trans hx); have HT9 := Lib.hid (HT8.out.ext0 hx); clear hx hr)
              | (go_at_call 16; (with_reducible refine (TS.regions HT9.out).mono ?_); rintro e w10 ⟨v10, rfl, hr, hx⟩; obtain ⟨a10, d10, rfl, _, _⟩ := ownsRow_form hr; have HR10 := Lib.hid hr; have HR9b := Lib.hid (ownsRow_ext HR9.out hx (by simp)); have HX10 := Lib.hid (HX9.out.trans hx); clear hx hr)
              | (go_at_call 15; have cs := rsame_c _ _ _ _ _ _ _ HR9b.out HR10.out (by have := HL8.out; omega) (by have := HL8.out; omega); rw [sameB_yes rfl] at cs; refine cs.mono ?_; clear cs; rintro e w11 ⟨rfl, hx⟩; have HX11 := Lib.hid (HX10.out.trans hx); clear hx)
              | (go_at_call 19; refine (CW.out _).mono ?_; rintro e w12 ⟨rfl, hx⟩; have HX12 := Lib.hid hx; clear hx))
            go_ret
            exact ⟨rfl, HX11.out.trans HX12.out⟩

end Go.Proofs.Ytjicpblncfgiaaa
