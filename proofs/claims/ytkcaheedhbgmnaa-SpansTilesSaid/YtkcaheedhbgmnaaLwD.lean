/-
  Spans' laws: SpansPlays, walked.
-/
import Derived.Test.YtkcaheedhbgmnaaLwC
namespace Go.Proofs.Ytkcaheedhbgmnaa
set_option linter.unusedVariables false
set_option linter.unusedSimpArgs false
open Go.RowKit SpT
set_option maxHeartbeats 4000000
set_option maxRecDepth 100000
set_option linter.unusedSectionVars false

/-- All values are small. -/
def Small (L : List (Sp Int)) : Prop := ∀ x, x ∈ L → -128 ≤ x.v ∧ x.v ≤ 127
theorem from_small {f : Nat → Int} (h : ∀ p, f p = NoV ∨ (-128 ≤ f p ∧ f p ≤ 127)) : ∀ (l : List SAct), (∀ x, x ∈ l → x.ok) → ∀ p, l.foldl actF f p = NoV ∨ (-128 ≤ l.foldl actF f p ∧ l.foldl actF f p ≤ 127)
  | [], _ => h
  | x :: l, hl => from_small (fun p => by
      unfold actF setF
      split
      · cases x.cl
        · exact .inr (hl x (by simp))
        · exact .inl rfl
      · exact h p) l (fun y hy => hl y (by simp [hy]))
theorem Both.small {L : List (Sp Int)} {f : Nat → Int} (h : SpT.Both L f) (hf : ∀ p, f p = NoV ∨ (-128 ≤ f p ∧ f p ≤ 127)) : Small L := fun x hx => by
  have h1 := (h.1.1 x hx).1
  have h2 := (h.2 x.f x.v).1 ⟨x, hx, Nat.le_refl _, h1, rfl⟩
  rcases hf x.f with h3 | h3
  · exact absurd (h2.2.1.symm.trans h3) h2.2.2
  · rw [h2.2.1] at h3; exact h3
theorem made_small (l : List SAct) (h : ∀ x, x ∈ l → x.ok) : Small (madeL l) := Both.small (made_both l h) (from_small (fun _ => .inl rfl) l h)

/-- goes, over all of a map. -/
theorem goes_all (W0 : World) (bm : Nat) (L : List (Sp Int)) (hm : SpI.MapIs W0 bm L) (hL : L.length ≤ 4096) (hv : Small L) (m : Int) (hmost : 0 ≤ m ∧ m ≤ 100000) (v : Value) (B0 : Nat) (hrow : SpR.SRow W0 B0 v L) :
    Calls Try.prog 15 #[.func (.func 55) #[] #[.pointer (some ⟨W0.heap.size, 0, none⟩)], v, .int .i64 m] (W0.alloc (.cells #[.pointer (some ⟨bm, 0, none⟩)] 23)) fun e w' => e = .returned (.bool true) ∧ Ext [] (W0.alloc (.cells #[.pointer (some ⟨bm, 0, none⟩)] 23)) w' := by
  obtain ⟨most, rfl⟩ := Int.eq_ofNat_of_zero_le hmost.1
  obtain ⟨Kq, hA⟩ := hm.all hL
  have hx : Ext [] W0 (W0.alloc (.cells #[.pointer (some ⟨bm, 0, none⟩)] 23)) := (Ext.refl _ _).alloc _
  have hit := (hA.ext hx (by simp)).it _ W0.heap.size (fun _ _ => rfl) (Blk.new W0 [.pointer (some ⟨bm, 0, none⟩)] _)
  exact goes_c 55 _ _ L _ hit (Go.Proofs.enters_of Try.func55 (by kernel_rfl) rfl) hL hv most (by omega) _ (Nat.le_refl _)
    (fun b hb => by
      rcases List.mem_cons.1 hb with rfl | hb
      · exact ⟨by simp, rfl⟩
      · have := hA.lt b hb; exact ⟨by simp; omega, rfl⟩) B0 v (ownsRow_ext hrow hx (by simp))

theorem spansPlays_c (v : Value) (l : List SAct) (w : World) (hl : SActs w v l) :
    Calls Try.prog 3 #[v] w fun e w' => e = .returned (.bool true) ∧ Ext [] w w' := by
  obtain ⟨a, cap, rfl, hlen, hA⟩ := hl.form
  have CM := Lib.hid (made8_c w _ l hl)
  have hb := made_both l hl.2
  have HV := Lib.hid (made_small l hl.2)
  have HL := Lib.hid hb.1.len
  have HE := Lib.hid hb.all
  have CW := Lib.hid (fun w => awake08_c w)
  unfold Made8 at CM
  generalize madeL l = L at *
  generalize madeF l = f at *
  clear hA hl hb
  go_enter Try.func3, Try.ntmps3
  go_wp2_with (first
    | (go_at_call 13; refine (CM.out).mono ?_; rintro e w1 ⟨bm, br, bv, rfl, h1, h2, h3, hM, hx1⟩; have HM := Lib.hid hM; have X1 := Lib.hid hx1; clear hM hx1)
    | (go_at_call 14; refine (rwithin_c _ br bv f HM.out.ref 0 4096).mono ?_; rintro e w2 ⟨v2, rfl, hr2, hx2⟩; rw [← HE.out] at hr2; obtain ⟨a2, c2, rfl, _, _⟩ := ownsRow_form hr2; have R2 := Lib.hid hr2; have X2 := Lib.hid (X1.out.trans hx2); have M2 := Lib.hid (HM.out.map.ext0 hx2); have C1 := Lib.hid (goes_all w2 bm L M2.out HL.out HV.out 9999 (by omega) _ _ R2.out); clear hr2 hx2)
    | (go_at_call 16; refine (SpI.all_c _ _).mono ?_; rintro e w' ⟨rfl, rfl⟩)
    | (go_at_call 15; with_reducible refine (C1.out).mono ?_; rintro e w3 ⟨rfl, hx3⟩; have X3 := Lib.hid ((X2.out.alloc _).trans hx3); have hx3' := ((Ext.refl [] w2).alloc (.cells #[.pointer (some ⟨bm, 0, none⟩)] 23)).trans hx3; have M3 := Lib.hid (M2.out.ext0 hx3'); have C2 := Lib.hid (goes_all w3 bm L M3.out HL.out HV.out 1 (by omega) _ _ (ownsRow_ext R2.out hx3' (by simp))); clear hx3 hx3')
    | (go_at_call 15; with_reducible refine (C2.out).mono ?_; rintro e w4 ⟨rfl, hx4⟩; have X4 := Lib.hid ((X3.out.alloc _).trans hx4); have hx4' := ((Ext.refl [] w3).alloc (.cells #[.pointer (some ⟨bm, 0, none⟩)] 23)).trans hx4; have M4 := Lib.hid (M3.out.ext0 hx4'); have C3 := Lib.hid M4.out.len; clear hx4 hx4')
    | (go_at_call 17; refine (C3.out).mono ?_; rintro e w' ⟨rfl, rfl⟩)
    | (go_at_call 18; refine (CW.out _).mono ?_; rintro e w5 ⟨rfl, hx5⟩; have X5 := Lib.hid (X4.out.trans hx5); clear hx5))
  go_ret
  exact ⟨rfl, X5.out⟩

end Go.Proofs.Ytkcaheedhbgmnaa
