/-
  Spans' laws: awake, made.
-/
import Derived.Test.YtkcaheedhbgmnaaLwA
import Derived.Test.YtkcaheedhbgmnaaFlat
namespace Go.Proofs.Ytkcaheedhbgmnaa
set_option linter.unusedVariables false
set_option linter.unusedSimpArgs false
open Go.RowKit SpT
set_option maxHeartbeats 4000000
set_option maxRecDepth 100000
set_option linter.unusedSectionVars false

theorem awake08_c (w : World) : Calls Try.prog 18 #[] w fun e w' => e = .returned (.bool true) ∧ Ext [] w w' := by
  have e1 : SpI.setL [] 2 5 1 = [⟨2, 5, 1⟩] := by kernel_rfl
  have e2 : SpI.setL [⟨2, 5, 1⟩] 5 7 1 = [⟨2, 7, 1⟩] := by kernel_rfl
  have c1 : SpI.code (SpI.mayB 2 5) = 0 := by kernel_rfl
  have c2 : SpI.code (SpI.mayB 5 7) = 0 := by kernel_rfl
  have C1 := Lib.hid (fun (W : World) bm (hm : SpI.MapIs W bm []) => set_d 0 2 5 c1 1 W bm [] hm (by simp))
  rw [e1] at C1
  have C2 := Lib.hid (fun (W : World) bm (hm : SpI.MapIs W bm [⟨2, 5, 1⟩]) => set_d 0 5 7 c2 1 W bm [⟨2, 5, 1⟩] hm (by simp))
  rw [e2] at C2
  have hf : ([⟨2, 7, 1⟩] : List (Sp Int)).find? (SpI.findIn 4) = some ⟨2, 7, 1⟩ := by kernel_rfl
  have C3 := Lib.hid (fun (W : World) bm (hm : SpI.MapIs W bm [⟨2, 7, 1⟩]) => (show Calls Try.prog 47 #[.pointer (some ⟨bm, 0, none⟩), .int .i64 4] W fun e w' => e = .returned (.tuple #[.agg #[.int .i64 2, .int .i64 7, .int .i8 1], .bool true]) ∧ Ext [] W w' from by
    obtain ⟨Kq, hA⟩ := hm.all (by simp)
    have h := SpI.find_c W _ Kq _ hA 4
    rw [hf] at h; exact h))
  have C4 := Lib.hid (fun (W : World) bm (hm : SpI.MapIs W bm [⟨2, 7, 1⟩]) => hm.len)
  clear e1 e2 c1 c2 hf
  go_enter Try.func18, Try.ntmps18
  have m0 := SpI.MapIs.new w
  have hx0 : Ext [] w (w.alloc (.cells #[.slice none 0 0, .bool true] 97)) := (Ext.refl _ _).alloc _
  have M0 := Lib.hid m0
  clear m0
  go_wp2_with (first
    | (go_at_call 53; refine (SpI.new_c _).mono ?_; rintro e w1 ⟨rfl, rfl⟩)
    | (go_at_call 51; with_reducible refine (C1.out _ _ M0.out).mono ?_; rintro e w2 ⟨rfl, hx2, hm2⟩; have M2 := Lib.hid hm2; have X2 := Lib.hid hx2; clear hm2 hx2 M0)
    | (go_at_call 51; with_reducible refine (C2.out _ _ M2.out).mono ?_; rintro e w3 ⟨rfl, hx3, hm3⟩; have M3 := Lib.hid hm3; have X3 := Lib.hid hx3; clear hm3 hx3)
    | (go_at_call 47; refine (C3.out _ _ M3.out).mono ?_; rintro e w4 ⟨rfl, hx4⟩; have M4 := Lib.hid ((M3.out.ext0 hx4).ext0 ((Ext.refl [] w4).alloc (.cells #[.int .i64 2, .int .i64 7, .int .i8 1] 70))); have X4 := Lib.hid hx4; clear hx4)
    | (go_at_call 17; refine (C4.out _ _ M4.out).mono ?_; rintro e w5 ⟨rfl, rfl⟩))
  go_ret
  exact ⟨rfl, (((hx0.step X2.out (by simp)).step X3.out (by simp)).trans X4.out).alloc _⟩

/-- The acts lie in a slice. -/
def SActs (w : World) (v : Value) (l : List SAct) : Prop := SlC w 4 v (l.map SAct.cells) ∧ ∀ x, x ∈ l → x.ok
theorem SActs.ext_new {M : List Nat} {w w' : World} {v : Value} {l : List SAct} (h : SActs w v l) (hx : Ext M w w') (hm : ∀ b, b ∈ M → w.heap.size ≤ b) : SActs w' v l := ⟨SlC.ext_new h.1 hx hm, h.2⟩
theorem SActs.form {w : World} {v : Value} {l : List SAct} (h : SActs w v l) : ∃ a cap, v = .slice a l.length cap ∧ l.length ≤ maxLen ∧ SActs w (.slice a l.length cap) l := by
  have h' := h
  obtain ⟨⟨a, cap, h1, h2, h3, h4, h5⟩, ho⟩ := h
  simp only [List.length_map] at h1 h2
  subst h1
  exact ⟨a, cap, rfl, by omega, h'⟩
structure SActAt (w : World) (b o : Nat) (i : Nat) (p : SAct) : Prop where
  c0 : w.cell? ⟨b, o + i * 4, none⟩ = some (.bool p.cl)
  c1 : w.cell? ⟨b, o + i * 4 + 1, none⟩ = some (.int .i64 p.a)
  c2 : w.cell? ⟨b, o + i * 4 + 2, none⟩ = some (.int .i64 p.b)
  c3 : w.cell? ⟨b, o + i * 4 + 3, none⟩ = some (.int .i8 p.v)
theorem SActs.at_ {w : World} {a : Option Addr} {n cap : Nat} {l : List SAct} (h : SActs w (.slice a n cap) l) {i : Nat} (hi : i < l.length) : ∃ b o, a = some ⟨b, o, none⟩ ∧ b < w.heap.size ∧ SActAt w b o i l[i] := by
  obtain ⟨⟨a', cap', h1, h2, h3, h4, h5⟩, ho⟩ := h
  cases h1
  obtain ⟨b, o, ha, hb, hc⟩ := h5 (by simp; omega)
  have hr : (l.map SAct.cells)[i]? = some l[i].cells := by simp [hi]
  have g := fun j u => hc i _ hr j u
  exact ⟨b, o, ha, hb, ⟨g 0 _ rfl, g 1 _ rfl, g 2 _ rfl, g 3 _ rfl⟩⟩

def madeL (l : List SAct) : List (Sp Int) := l.foldl actL []
def madeF (l : List SAct) : Nat → Int := l.foldl actF (fun _ => NoV)
theorem both_from {L : List (Sp Int)} {f : Nat → Int} (h : Both L f) : ∀ (l : List SAct), (∀ x, x ∈ l → x.ok) → Both (l.foldl actL L) (l.foldl actF f)
  | [], _ => h
  | x :: l, hl => both_from (act_both h x (hl x (by simp))) l (fun y hy => hl y (by simp [hy]))
theorem made_both (l : List SAct) (h : ∀ x, x ∈ l → x.ok) : Both (madeL l) (madeF l) := both_from (Both.nil (fun _ _ => rfl)) l h
theorem take_ok {l : List SAct} (h : ∀ x, x ∈ l → x.ok) (k : Nat) : ∀ x, x ∈ l.take k → x.ok := fun x hx => h x (List.mem_of_mem_take hx)
theorem foldl_take {α β : Type} (g : β → α → β) (b : β) {l : List α} {k : Nat} (h : k < l.length) : (l.take (k + 1)).foldl g b = g ((l.take k).foldl g b) l[k] := by
  rw [List.take_succ_eq_append_getElem h, List.foldl_append]; rfl

/-- Both, behind acts. -/
def Made8 (w : World) (l : List SAct) (e : Ending) (w' : World) : Prop :=
  ∃ bm br bv, e = .returned (.tuple #[.pointer (some ⟨bm, 0, none⟩), .pointer (some ⟨br, 0, none⟩), .bool true]) ∧ w.heap.size ≤ bm ∧ w.heap.size ≤ br ∧ w.heap.size ≤ bv ∧ Maps w' bm br bv (madeL l) (madeF l) ∧ Ext [] w w'

theorem made8_c (w : World) (v : Value) (l : List SAct) (hl : SActs w v l) : Calls Try.prog 13 #[v] w (Made8 w l) := by
  obtain ⟨a, cap, rfl, hlen, hA⟩ := hl.form
  have HA := Lib.hid hA
  have HO := Lib.hid hl.2
  clear hA hl
  unfold maxLen at hlen
  have m0 := SpI.MapIs.new w
  have hx0 : Ext [] w (w.alloc (.cells #[.slice none 0 0, .bool true] 97)) := (Ext.refl _ _).alloc _
  have CN := Lib.hid (rnew_c (w.alloc (.cells #[.slice none 0 0, .bool true] 97)))
  have hsz0 : (w.alloc (.cells #[.slice none 0 0, .bool true] 97)).heap.size = w.heap.size + 1 := by simp
  have M0 := Lib.hid m0
  have X0 := Lib.hid hx0
  have HZ := Lib.hid hsz0
  clear m0 hx0 hsz0
  go_enter Try.func13, Try.ntmps13
  go_wp2_with (first
    | (go_at_call 53; refine (SpI.new_c _).mono ?_; rintro e w1 ⟨rfl, rfl⟩)
    | (go_at_call 21; refine (CN.out).mono ?_; rintro e w2 ⟨br, bv, rfl, h1, h2, hr, hx2⟩; have HR := Lib.hid hr; have HX2 := Lib.hid (X0.out.trans hx2); have HM2 := Lib.hid (M0.out.ext0 hx2); have H12 := Lib.hid (And.intro h1 h2); clear hr hx2 h1 h2))
  have hb1 : w.heap.size ≠ br ∧ w.heap.size ≠ bv := by have h1 := H12.out; have h2 := HZ.out; omega
  have hm0 : Maps w2 w.heap.size br bv [] (fun _ => NoV) := ⟨HM2.out, HR.out, hb1.2⟩
  have HM0 := Lib.hid hm0
  clear hm0
  go_loopw [7, 8] (fun f i wr => ∃ k : Nat, k ≤ l.length ∧ i = .int .i64 k ∧ f = .bool true ∧ Ext [] w wr ∧ Maps wr w.heap.size br bv (madeL (l.take k)) (madeF (l.take k))) (fun _ i _ => l.length - (intOf i).toNat)
  case atStart => exact ⟨0, by omega, rfl, rfl, HX2.out, HM0.out⟩
  case round =>
    obtain ⟨k, hk, rfl, rfl, hx, hM⟩ := hrel
    by_cases hlt : k < l.length
    · obtain ⟨b, o, rfl, hb, hac⟩ := (HA.out.ext_new hx (by simp)).at_ hlt
      obtain ⟨g0, g1, g2, g3⟩ := hac
      have hL : (madeL (l.take k)).length ≤ 4096 := (made_both _ (take_ok HO.out k)).1.len
      have CP := Lib.hid (play8_c wr w.heap.size br bv _ _ hM hL l[k] (HO.out _ (List.getElem_mem hlt)))
      have HL := Lib.hid (show madeL (l.take (k + 1)) = actL (madeL (l.take k)) l[k] from foldl_take _ _ hlt)
      have HF := Lib.hid (show madeF (l.take (k + 1)) = actF (madeF (l.take k)) l[k] from foldl_take _ _ hlt)
      generalize hp : l[k] = p at *
      obtain ⟨cl, a, b2, v⟩ := p
      unfold SAct.cells at CP
      have i0 : (0 : Int) ≤ (k : Int) := by omega
      have i1 : (k : Int) < (l.length : Int) := by omega
      have HX := Lib.hid hx
      clear hx hM hb hp hL
      go_wp2_with (go_at_call 30; refine (CP.out).mono ?_; rintro e w4 ⟨rfl, hx4, hM4⟩; have HX4 := Lib.hid hx4; have HM4 := Lib.hid hM4; clear hx4 hM4)
      go_roundw
      case rel =>
        refine ⟨k + 1, by omega, by go_num, rfl, HX.out.step HX4.out (fun i hi => .inr ?_), by rw [HL.out, HF.out]; exact HM4.out⟩
        have h1 := H12.out
        have h2 := HZ.out
        simp at hi; omega
      case measure => simp [intOf]; omega
    · obtain rfl : k = l.length := by omega
      rw [List.take_length] at hM
      have HX := Lib.hid hx
      have HM := Lib.hid hM
      clear hx hM
      go_wp2
      go_ret3
      exact ⟨_, _, _, rfl, Nat.le_refl _, by have h1 := H12.out; have h2 := HZ.out; omega, by have h1 := H12.out; have h2 := HZ.out; omega, HM.out, HX.out⟩

end Go.Proofs.Ytkcaheedhbgmnaa
