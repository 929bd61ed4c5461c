/-
  Region: Apply, of the program.
-/
import Derived.Test.YtjicpblncfgiaaaRgK
import Derived.Test.YtjicpblncfgiaaaRgU
import Derived.Test.YtjicpblncfgiaaaRgB
namespace Go.Proofs.Ytjicpblncfgiaaa
set_option linter.unusedVariables false
set_option linter.unusedSimpArgs false
open Go.RowKit RgT SpT
set_option maxHeartbeats 4000000
set_option maxRecDepth 100000
set_option linter.unusedVariables false
set_option linter.unusedSimpArgs false

section
variable {w : World} {sp mp : Nat} {nodes : Int} {L : List (Sp U)} {f : Nat → Option U}
theorem turned_some (h : SpIs w sp mp nodes L) (hT : Tie L f) (c : Cl) (hc : c.chk nodes = 0) {L' : List (Sp U)} (e : turnL c L = some L') :
    Calls Try.prog 42 #[.pointer (some ⟨sp, 0, none⟩), .agg #[.int .i64 c.k, .int .i64 c.pg, .int .i64 c.n, .int .i64 c.pm, .int .i64 c.pk, .int .i64 c.pn, .int .i64 c.ad, .int .i64 c.by_]] w (TurnedOk w L') := by
  obtain ⟨k, pg, n, pm, pk, pn, ad, by_⟩ := c
  obtain ⟨hk, hr⟩ := chk_yes hc
  simp only [] at hk hr
  unfold turnL at e
  simp only [] at e
  rcases (show k = 1 ∨ k = 2 ∨ k = 3 ∨ k = 4 by omega) with rfl | rfl | rfl | rfl
  · rw [if_pos rfl] at e
    split at e
    · rename_i hm
      injection e with e
      subst e
      exact turned1_ok w sp mp nodes L h pg n pm pk pn ad by_ hr hm
    · cases e
  · rw [if_neg (by decide), if_pos rfl] at e
    injection e with e
    subst e
    exact turned2_ok w sp mp nodes L h pg n pm pk pn ad by_ hr
  · rw [if_neg (by decide), if_neg (by decide)] at e
    split at e
    · rename_i hm
      injection e with e
      subst e
      exact turned3_ok w sp mp nodes L h pg n pm pk pn ad by_ hr hm f hT
    · cases e
  · rw [if_neg (by decide), if_neg (by decide)] at e
    split at e
    · rename_i hm
      injection e with e
      subst e
      exact turned4_ok w sp mp nodes L h pg n pm pk pn ad by_ hr hm f hT
    · cases e
theorem turned_none (h : SpIs w sp mp nodes L) (c : Cl) (hc : c.chk nodes = 0) (e : turnL c L = none) :
    Calls Try.prog 42 #[.pointer (some ⟨sp, 0, none⟩), .agg #[.int .i64 c.k, .int .i64 c.pg, .int .i64 c.n, .int .i64 c.pm, .int .i64 c.pk, .int .i64 c.pn, .int .i64 c.ad, .int .i64 c.by_]] w (TurnedNo w (failC c.k)) := by
  obtain ⟨k, pg, n, pm, pk, pn, ad, by_⟩ := c
  obtain ⟨hk, hr⟩ := chk_yes hc
  simp only [] at hk hr
  unfold turnL at e
  simp only [] at e
  rcases (show k = 1 ∨ k = 2 ∨ k = 3 ∨ k = 4 by omega) with rfl | rfl | rfl | rfl
  · rw [if_pos rfl] at e
    split at e
    · cases e
    · rename_i hm
      exact turned1_busy w sp mp nodes L h pg n pm pk pn ad by_ hr (by simpa using hm)
  · rw [if_neg (by decide), if_pos rfl] at e
    cases e
  · rw [if_neg (by decide), if_neg (by decide)] at e
    split at e
    · cases e
    · rename_i hm
      exact turned3_fault w sp mp nodes L h pg n pm pk pn ad by_ hr (by simpa using hm)
  · rw [if_neg (by decide), if_neg (by decide)] at e
    split at e
    · cases e
    · rename_i hm
      exact turned4_fault w sp mp nodes L h pg n pm pk pn ad by_ hr (by simpa using hm)
end
theorem NoRow.result {w : World} {b : Nat} {cs : List Value} (h : Blk w b cs 42) : SpU.NoRow w b := fun cur e => by
  unfold Blk at h; rw [h] at e; injection e with e; injection e with _ e; exact absurd e (by decide)
theorem SpIs.off {w w' : World} {sp mp b : Nat} {nodes : Int} {L : List (Sp U)} (h : SpIs w sp mp nodes L) {x y : Value} (hb : Blk w b [x, y] 42) (_ : True) (hx : Ext [b] w w') (hne : sp ≠ b) : SpIs w' sp mp nodes L := by
  have hmp : mp ≠ b := by
    obtain ⟨v, h1, _⟩ := h.map
    rintro rfl
    unfold Blk at h1 hb
    rw [h1] at hb
    injection hb with hb
    injection hb with _ hb
    exact absurd hb (by decide)
  exact ⟨h.head.ext hx (by simpa using hne), h.map.ext hx (by simpa using hmp) (fun q hq => by rw [List.mem_singleton.1 hq]; exact NoRow.result hb), h.len⟩
def SApp (w : World) (sp : Nat) (nodes : Int) (r : Int × List (Sp U)) (e : Ending) (w' : World) : Prop :=
  e = .returned (.agg #[.int .i64 r.1, .int .i64 0]) ∧ Ext [sp] w w' ∧ ∃ mp, SpIs w' sp mp nodes r.2
theorem failC_ne (k : Int) : (failC k != 0) = true := by unfold failC; split <;> rfl

theorem sapply_c (w : World) (sp mp : Nat) (nodes : Int) (L : List (Sp U)) (f : Nat → Option U) (h : SpIs w sp mp nodes L) (hT : Tie L f) (c : Cl) :
    Calls Try.prog 20 #[.pointer (some ⟨sp, 0, none⟩), .agg #[.int .i64 c.k, .int .i64 c.pg, .int .i64 c.n, .int .i64 c.pm, .int .i64 c.pk, .int .i64 c.pn, .int .i64 c.ad, .int .i64 c.by_]] w (SApp w sp nodes (applyL nodes c L)) := by
  have hxA : Ext [] w ((w.alloc (.cells #[.int .i64 c.k, .int .i64 c.pg, .int .i64 c.n, .int .i64 c.pm, .int .i64 c.pk, .int .i64 c.pn, .int .i64 c.ad, .int .i64 c.by_] 39)).alloc (.cells #[.int .i64 0, .int .i64 0] 42)) := ((Ext.refl _ _).alloc _).alloc _
  have hsA : ((w.alloc (.cells #[.int .i64 c.k, .int .i64 c.pg, .int .i64 c.n, .int .i64 c.pm, .int .i64 c.pk, .int .i64 c.pn, .int .i64 c.ad, .int .i64 c.by_] 39)).alloc (.cells #[.int .i64 0, .int .i64 0] 42)).heap.size = w.heap.size + 1 + 1 := by simp
  have BC := (Blk.new w [.int .i64 c.k, .int .i64 c.pg, .int .i64 c.n, .int .i64 c.pm, .int .i64 c.pk, .int .i64 c.pn, .int .i64 c.ad, .int .i64 c.by_] 39).alloc (.cells #[.int .i64 0, .int .i64 0] 42)
  have BR := Blk.new (w.alloc (.cells #[.int .i64 c.k, .int .i64 c.pg, .int .i64 c.n, .int .i64 c.pm, .int .i64 c.pk, .int .i64 c.pn, .int .i64 c.ad, .int .i64 c.by_] 39)) [.int .i64 0, .int .i64 0] 42
  rw [World.size_alloc] at BR
  have hA := h.ext0 hxA
  have lt0 := h.head.lt
  have c0 := BC.cell 0
  have c1 := BC.cell 1
  have c2 := BC.cell 2
  have c3 := BC.cell 3
  have c4 := BC.cell 4
  have c5 := BC.cell 5
  have c6 := BC.cell 6
  have c7 := BC.cell 7
  have cc := check_c _ sp mp nodes c.k c.pg c.n c.pm c.pk c.pn c.ad c.by_ hA.head
  rw [show chkS nodes c.k c.pg c.n c.pm c.pk c.pn = c.chk nodes from rfl] at cc
  have HBC := Lib.hid BC
  have HBR := Lib.hid BR
  have HXA := Lib.hid hxA
  have HS := Lib.hid hA
  have HT := Lib.hid hT
  have HSA := Lib.hid hsA
  clear h hxA BC BR hA hT hsA
  rcases chk_two nodes c with hk | hk
  rotate_left
  · have hap : applyL nodes c L = (1, L) := by unfold applyL; rw [if_pos (by omega)]
    have HAP := Lib.hid hap
    rw [hk] at cc
    have CC := Lib.hid cc
    clear cc hk hap
    go_enter Try.func20, Try.ntmps20
    go_wp2_with (go_at_call 24; refine (CC.out).mono ?_; rintro e w1 ⟨rfl, hx⟩; have HX1 := Lib.hid hx; have HBR1 := Lib.hid (HBR.out.ext hx (by simp)); have HS1 := Lib.hid (HS.out.ext0 hx); clear hx c0 c1 c2 c3 c4 c5 c6 c7; have r0 := HBR1.out.cell 0; have r1 := HBR1.out.cell 1; have f0 := HBR1.out.frozen 0; have f1 := HBR1.out.frozen 1)
    have F := (HBR1.out.set 0 (.int .i64 1)).set 1 (.int .i64 0)
    have t0 := F.cell 0
    have t1 := F.cell 1
    simp only [List.set_cons_zero, List.set_cons_succ, List.getElem?_cons_zero, List.getElem?_cons_succ] at t0 t1
    (try simp only [Exit.inBlock, Exit.then])
    refine bodyPost_ret (?_ : (results _ _).run _ _ = .ok (.agg #[.int .i64 1, .int .i64 0]) _) rfl ?_
    · rw [results_cell1 rfl]
      simp [go_sem, t0, t1]
    rw [HAP.out]
    exact ⟨rfl, (((HXA.out.trans HX1.out).mono (by simp)).setCell _ _ (.inr (by simp))).setCell _ _ (.inr (by simp)), mp, (HS1.out.off HBR1.out (by decide) (((Ext.refl [w.heap.size + 1] _).setCell ⟨w.heap.size + 1, 0, none⟩ _ (.inl (by simp))).setCell ⟨w.heap.size + 1, 1, none⟩ _ (.inl (by simp))) (by omega))⟩
  · rw [hk] at cc
    have CC := Lib.hid cc
    have HK := Lib.hid hk
    cases ht : turnL c L with
    | none =>
      have hap : applyL nodes c L = (failC c.k, L) := by unfold applyL; rw [if_neg (by omega), ht]
      have HAP := Lib.hid hap
      have CT := Lib.hid (fun w (h : SpIs w sp mp nodes L) => turned_none h c hk ht)
      have hfc := failC_ne c.k
      generalize failC c.k = fc at *
      clear cc hk hap ht
      go_enter Try.func20, Try.ntmps20
      go_wp2_with (first
        | (go_at_call 24; refine (CC.out).mono ?_; rintro e w1 ⟨rfl, hx⟩; have HX1 := Lib.hid hx; have HBC1 := Lib.hid (HBC.out.ext hx (by simp)); have HBR1 := Lib.hid (HBR.out.ext hx (by simp)); have HS1 := Lib.hid (HS.out.ext0 hx); clear hx c0 c1 c2 c3 c4 c5 c6 c7; have c0 := HBC1.out.cell 0; have c1 := HBC1.out.cell 1; have c2 := HBC1.out.cell 2; have c3 := HBC1.out.cell 3; have c4 := HBC1.out.cell 4; have c5 := HBC1.out.cell 5; have c6 := HBC1.out.cell 6; have c7 := HBC1.out.cell 7)
        | (go_at_call 42; refine (CT.out _ HS1.out).mono ?_; rintro e w2 ⟨rfl, hx⟩; have HX2 := Lib.hid hx; have HBR2 := Lib.hid (HBR1.out.ext hx (by simp)); have HS2 := Lib.hid (HS1.out.ext0 hx); clear hx c0 c1 c2 c3 c4 c5 c6 c7; have r0 := HBR2.out.cell 0; have r1 := HBR2.out.cell 1; have f0 := HBR2.out.frozen 0; have f1 := HBR2.out.frozen 1))
      have F := (HBR2.out.set 0 (.int .i64 fc)).set 1 (.int .i64 0)
      have t0 := F.cell 0
      have t1 := F.cell 1
      simp only [List.set_cons_zero, List.set_cons_succ, List.getElem?_cons_zero, List.getElem?_cons_succ] at t0 t1
      (try simp only [Exit.inBlock, Exit.then])
      refine bodyPost_ret (?_ : (results _ _).run _ _ = .ok (.agg #[.int .i64 fc, .int .i64 0]) _) rfl ?_
      · rw [results_cell1 rfl]
        simp [go_sem, t0, t1]
      rw [HAP.out]
      exact ⟨rfl, ((((HXA.out.trans HX1.out).trans HX2.out).mono (by simp)).setCell _ _ (.inr (by simp))).setCell _ _ (.inr (by simp)), mp, (HS2.out.off HBR2.out (by decide) (((Ext.refl [w.heap.size + 1] _).setCell ⟨w.heap.size + 1, 0, none⟩ _ (.inl (by simp))).setCell ⟨w.heap.size + 1, 1, none⟩ _ (.inl (by simp))) (by omega))⟩
    | some L' =>
      have CT := Lib.hid (fun w (h : SpIs w sp mp nodes L) => turned_some h HT.out c hk ht)
      have hlen : L'.length ≤ 4096 := by
        rcases turn_tie HT.out hk with ⟨e, _⟩ | ⟨L2, e, _, h2⟩
        · rw [ht] at e; cases e
        · rw [ht] at e; injection e with e; rw [e]; exact h2.len
      by_cases hl : 64 < L'.length
      · have hap : applyL nodes c L = (2, L) := by unfold applyL; rw [if_neg (by omega), ht]; simp only []; rw [if_pos hl]
        have HAP := Lib.hid hap
        have hl' : (64 : Int) < (L'.length : Int) := by omega
        clear cc hk hap ht
        go_enter Try.func20, Try.ntmps20
        go_wp2_with (first
          | (go_at_call 24; refine (CC.out).mono ?_; rintro e w1 ⟨rfl, hx⟩; have HX1 := Lib.hid hx; have HBC1 := Lib.hid (HBC.out.ext hx (by simp)); have HBR1 := Lib.hid (HBR.out.ext hx (by simp)); have HS1 := Lib.hid (HS.out.ext0 hx); clear hx c0 c1 c2 c3 c4 c5 c6 c7; have c0 := HBC1.out.cell 0; have c1 := HBC1.out.cell 1; have c2 := HBC1.out.cell 2; have c3 := HBC1.out.cell 3; have c4 := HBC1.out.cell 4; have c5 := HBC1.out.cell 5; have c6 := HBC1.out.cell 6; have c7 := HBC1.out.cell 7)
          | (go_at_call 42; refine (CT.out _ HS1.out).mono ?_; rintro e w2 ⟨mp2, rfl, hx, hm, hle⟩; have HX2 := Lib.hid hx; have HBR2 := Lib.hid (HBR1.out.ext hx (by simp)); have HS2 := Lib.hid (HS1.out.ext0 hx); have CL := Lib.hid (SpU.MapIs.len hm); clear hx hm hle c0 c1 c2 c3 c4 c5 c6 c7; have r0 := HBR2.out.cell 0; have r1 := HBR2.out.cell 1; have f0 := HBR2.out.frozen 0; have f1 := HBR2.out.frozen 1)
          | (go_at_call 41; refine (CL.out).mono ?_; rintro e w3 ⟨rfl, rfl⟩))
        have F := (HBR2.out.set 0 (.int .i64 2)).set 1 (.int .i64 0)
        have t0 := F.cell 0
        have t1 := F.cell 1
        simp only [List.set_cons_zero, List.set_cons_succ, List.getElem?_cons_zero, List.getElem?_cons_succ] at t0 t1
        (try simp only [Exit.inBlock, Exit.then])
        refine bodyPost_ret (?_ : (results _ _).run _ _ = .ok (.agg #[.int .i64 2, .int .i64 0]) _) rfl ?_
        · rw [results_cell1 rfl]
          simp [go_sem, t0, t1]
        rw [HAP.out]
        exact ⟨rfl, ((((HXA.out.trans HX1.out).trans HX2.out).mono (by simp)).setCell _ _ (.inr (by simp))).setCell _ _ (.inr (by simp)), mp, (HS2.out.off HBR2.out (by decide) (((Ext.refl [w.heap.size + 1] _).setCell ⟨w.heap.size + 1, 0, none⟩ _ (.inl (by simp))).setCell ⟨w.heap.size + 1, 1, none⟩ _ (.inl (by simp))) (by omega))⟩
      · have hap : applyL nodes c L = (0, L') := by unfold applyL; rw [if_neg (by omega), ht]; simp only []; rw [if_neg hl]
        have HAP := Lib.hid hap
        have HLEN := Lib.hid hlen
        have hl' : ¬ (64 : Int) < (L'.length : Int) := by omega
        clear cc hk hap ht
        go_enter Try.func20, Try.ntmps20
        go_wp2_with (first
          | (go_at_call 24; refine (CC.out).mono ?_; rintro e w1 ⟨rfl, hx⟩; have HX1 := Lib.hid hx; have HBC1 := Lib.hid (HBC.out.ext hx (by simp)); have HBR1 := Lib.hid (HBR.out.ext hx (by simp)); have HS1 := Lib.hid (HS.out.ext0 hx); clear hx c0 c1 c2 c3 c4 c5 c6 c7; have c0 := HBC1.out.cell 0; have c1 := HBC1.out.cell 1; have c2 := HBC1.out.cell 2; have c3 := HBC1.out.cell 3; have c4 := HBC1.out.cell 4; have c5 := HBC1.out.cell 5; have c6 := HBC1.out.cell 6; have c7 := HBC1.out.cell 7)
          | (go_at_call 42; refine (CT.out _ HS1.out).mono ?_; rintro e w2 ⟨mp2, rfl, hx, hm, hle⟩; have HX2 := Lib.hid hx; have HBR2 := Lib.hid (HBR1.out.ext hx (by simp)); have HS2 := Lib.hid (HS1.out.ext0 hx); have HM2 := Lib.hid hm; have HLE := Lib.hid (Nat.le_trans HX1.out.size hle); have CL := Lib.hid (SpU.MapIs.len hm); clear hx hm hle c0 c1 c2 c3 c4 c5 c6 c7; have r0 := HBR2.out.cell 0; have r1 := HBR2.out.cell 1; have f0 := HBR2.out.frozen 0; have f1 := HBR2.out.frozen 1; have s1 := HS2.out.head.cell 1; have s2 := HS2.out.head.frozen 1; have n1 : w.heap.size + 1 ≠ sp := (by omega); have n2 : sp ≠ w.heap.size + 1 := (by omega))
          | (go_at_call 41; refine (CL.out).mono ?_; rintro e w3 ⟨rfl, rfl⟩))
        have F := ((HBR2.out.set_ne (p := ⟨sp, 1, none⟩) (.pointer (some ⟨mp2, 0, none⟩)) n1).set 0 (.int .i64 0)).set 1 (.int .i64 0)
        have t0 := F.cell 0
        have t1 := F.cell 1
        simp only [List.set_cons_zero, List.set_cons_succ, List.getElem?_cons_zero, List.getElem?_cons_succ] at t0 t1
        (try simp only [Exit.inBlock, Exit.then])
        refine bodyPost_ret (?_ : (results _ _).run _ _ = .ok (.agg #[.int .i64 0, .int .i64 0]) _) rfl ?_
        · rw [results_cell1 rfl]
          simp [go_sem, t0, t1]
        rw [HAP.out]
        have hmp := HLE.out
        rw [HSA.out] at hmp
        have hx3 : Ext [sp, w.heap.size + 1] w2 (((w2.setCell ⟨sp, 1, none⟩ (.pointer (some ⟨mp2, 0, none⟩))).setCell ⟨w.heap.size + 1, 0, none⟩ (.int .i64 0)).setCell ⟨w.heap.size + 1, 1, none⟩ (.int .i64 0)) :=
          (((Ext.refl _ _).setCell _ _ (.inl (by simp))).setCell _ _ (.inl (by simp))).setCell _ _ (.inl (by simp))
        refine ⟨rfl, (((HXA.out.trans HX1.out).trans HX2.out).mono (by simp)).step hx3 (fun q hq => by simp at hq; rcases hq with rfl | rfl; exact .inl (by simp); exact .inr (by omega)), mp2, ?_, ?_, HLEN.out⟩
        · exact ((HS2.out.head.set 1 _).set_ne (p := ⟨w.heap.size + 1, 0, none⟩) _ n2).set_ne (p := ⟨w.heap.size + 1, 1, none⟩) _ n2
        · refine HM2.out.ext hx3 (by simp; omega) (fun b hb => ?_)
          simp at hb
          rcases hb with rfl | rfl
          · exact NoRow.space HS2.out.head
          · exact NoRow.result HBR2.out

end Go.Proofs.Ytjicpblncfgiaaa
