/-
  Region: All, of the program. WRITTEN BY gen_rgo.py.
-/
import Derived.Test.YtjicpblncfgiaaaRgH
import Derived.Test.YtjicpblncfgiaaaQuietR
import Derived.Test.YtjicpblncfgiaaaIterN
namespace Go.Proofs.Ytjicpblncfgiaaa
set_option linter.unusedVariables false
set_option linter.unusedSimpArgs false
open Go.RowKit RgT SpT
set_option maxHeartbeats 4000000
set_option maxRecDepth 100000
set_option linter.unusedVariables false
set_option linter.unusedSimpArgs false

theorem region_any_R {l₀ n id : Nat} {P : Program} {Q : Exit → Act → World → Prop} {a : Act} {w : World} {l : List Oper} (hm : P.follows .mixedOrders = true) (hn : noDefer l = true)
    (h : wpAnyIn Fence.wide n P .any l.toArray Q l.toArray.size (Array.replicate l.toArray.size false) a w.drew) : (Code.region id l.toArray true).wpIn (WR l₀) n P Q a w := by
  have hd : ∀ o, o ∈ l.toArray.toList → ∀ c, o.op ≠ .defer c := fun o ho c e => by
    unfold noDefer at hn
    rw [List.all_eq_true] at hn
    have := hn o (by simpa using ho)
    rw [e] at this; cases this
  exact wpIn_region_any hm (any_R hd _ _ _ _ h)
def SalX (Jx : Nat → List Nat → World → Prop) (N : Nat) (c : Code) (i : Nat) (X : List Nat) (wr : World) : Prop := c = .ret ∧ ∃ j, j ≤ N ∧ Jx j X wr

theorem sall1 (Bs sp mp : Nat) (nodes : Int) (L : List (Sp U)) (Kq : List Nat) (w0 : World) (h0 : Blk w0 Bs [.pointer (some ⟨sp, 0, none⟩)] 23) (hh : Blk w0 sp [.int .i64 nodes, .pointer (some ⟨mp, 0, none⟩)] 53) (hA : SpU.AllIs w0 (some ⟨mp, 0, none⟩) Kq L) :
    Iter Try.prog 59 #[.pointer (some ⟨Bs, 0, none⟩)] (Bs :: sp :: Kq) (SpU.vals L) w0 := by
  intro n l M J Jx W hn hs hK hM fJ fJx hY hj0
  refine callsIn_wide.2 ((callsIn_wide (n := 1000)).1 ?_)
  refine callsIn_of_wp_marks Try.func59 rfl trivial ?_ rfl
  simp only [Try.ntmps59, List.size_toArray, List.length_cons, List.length_nil, Nat.reduceAdd, Nat.reduceSub, Array.replicate_succ, Array.replicate_zero, List.push_toArray, List.append_toArray, List.nil_append, List.cons_append]
  have hit0 := (It.refl M W).step (D := []) ((Ext.refl [] W).alloc (.cells #[.func (.yield l) #[] #[]] 115)) (by simp)
  have c0 := (hit0.blk hK hM (by simp) h0).cell 0
  have c1 := (hit0.blk hK hM (by simp) hh).cell 1
  have CI := Lib.hid (sis_c _ sp mp nodes (hit0.blk hK hM (by simp) hh))
  gi_wp2_with (first
    | (gi_at_call 40; refine CallsIn.mono (callsIn_of_calls (CI.out)) ?_; rintro e w' ⟨rfl, rfl⟩)
    | (gi_at_call 60; refine CallsIn.mono (callsIn_of_calls (SpU.all_c _ _)) ?_; rintro e w' ⟨rfl, rfl⟩))
  have hx1 : Ext [] W ((W.alloc (.cells #[.func (.yield l) #[] #[]] 115)).alloc (.cells #[.pointer (some ⟨mp, 0, none⟩)] 51)) := ((Ext.refl _ _).alloc _).alloc _
  have by_ := (Blk.new W [.func (.yield l) #[] #[]] 115).alloc (.cells #[.pointer (some ⟨mp, 0, none⟩)] 51)
  have bp := Blk.new (W.alloc (.cells #[.func (.yield l) #[] #[]] 115)) [.pointer (some ⟨mp, 0, none⟩)] 51
  have hsz : ((W.alloc (.cells #[.func (.yield l) #[] #[]] 115)).alloc (.cells #[.pointer (some ⟨mp, 0, none⟩)] 51)).heap.size = W.heap.size + 2 := by simp
  rw [World.size_alloc] at bp
  have hit := hA.it _ (W.heap.size + 1) (fun q hq => by
    have hm : q ∈ Bs :: sp :: Kq := by simp [hq]
    rw [hx1.block q (by have := (hK q hm).1; omega) (by simp)]; exact (hK q hm).2) bp
  have hKo : ∀ q, q ∈ Bs :: sp :: Kq → q < W.heap.size := fun q hq => by have := (hK q hq).1; omega
  have hMo : ∀ q, q ∈ M → q < W.heap.size ∧ q ∉ Kq := fun q hq => by
    have h := (hM q hq).1
    simp at h
    exact ⟨(hM q hq).2, h.2.2⟩
  clear h0 hh hK hM c0 c1 hit0 bp
  generalize hW1 : ((W.alloc (.cells #[.func (.yield l) #[] #[]] 115)).alloc (.cells #[.pointer (some ⟨mp, 0, none⟩)] 51)) = W1 at *
  clear hW1
  have hvl : (SpU.vals L).length = L.length := by simp [SpU.vals]
  refine wpIn_range (by omega) rfl (Go.Proofs.enters_of Try.func73 (by kernel_rfl) rfl) hit (by simp [SpU.vals]) M J (SalX Jx (SpU.vals L).length) ?fI ?fIx ?hM (Nat.le_refl _) ?hK ?h0 ?round ?done ?stop
  case fI => exact fJ
  case fIx => rintro c i X A B ⟨rfl, j, hj, h⟩ hk; exact ⟨rfl, j, hj, fJx _ X A B h hk⟩
  case hM =>
    intro q hq
    have h := hMo q hq
    refine ⟨by omega, ?_⟩
    simp
    exact ⟨by omega, h.2⟩
  case hK =>
    intro q hq
    rcases List.mem_cons.1 hq with rfl | hq
    · exact ⟨by omega, rfl⟩
    · have := hKo q (by simp [hq])
      exact ⟨by omega, rfl⟩
  case h0 => exact fJ _ _ _ _ hj0 (fun q _ hlt => hx1.block q hlt (by simp))
  case round =>
    intro l' i hi X Wr hI hx hX hl' hlW
    have hiL : i < L.length := by omega
    have hyat : (SpU.vals L)[i]? = some #[.agg (SpU.cells L[i]).toArray] := by simp [SpU.vals, List.getElem?_eq_getElem hiL]
    rw [show (SpU.vals L)[i] = #[.agg (SpU.cells L[i]).toArray] by simp [SpU.vals]]
    have HLEN := Lib.hid (show i + 1 ≤ (SpU.vals L).length by omega)
    generalize L[i] = x at *
    have hxr : Ext [] Wr (Wr.alloc (.cells (SpU.cells x).toArray 97)) := (Ext.refl _ _).alloc _
    have hbx := Blk.new Wr (SpU.cells x) 97
    have HI := Lib.hid hI
    obtain ⟨xf, xt, xp, xk, xn⟩ := x
    unfold SpU.cells at hxr hbx hyat ⊢
    simp only [] at hyat
    have HXR := Lib.hid hxr
    clear hI hxr
    unfold RoundX
    gi_wp2
    refine ⟨HXR.out, fun W₂ r hx2 hs2 hr => ?_⟩
    have HR := Lib.hid hr
    have HX2 := Lib.hid hx2
    have h12 : Ext (l' :: M) W1 W₂ := (((hx.mono (N := l' :: M) (fun k hk => .inl (by simp [hk]))).trans (HXR.out.mono (by simp))).trans (hx2.mono (by simp)))
    have HKY := Lib.hid ((by_.ext h12 (by simp; exact ⟨by omega, fun h => by have := (hMo _ h).1; omega⟩)).ext (Ext.refl [] W₂).drew (by simp))
    have hbx2 := (hbx.ext hx2 (by simp; omega)).ext (Ext.refl [] W₂).drew (by simp)
    have kx0 := hbx2.cell 0
    have kx1 := hbx2.cell 1
    have kx2 := hbx2.cell 2
    have kx3 := hbx2.cell 3
    have kx4 := hbx2.cell 4
    have ky := HKY.out.cell 0
    have hs3 : W₂.heap.size = Wr.heap.size + 1 := by simpa using hs2
    have HMO := Lib.hid (fun q (hq : q ∈ M) => (show q < l' by have := (hMo q hq).1; omega))
    have hsW : Wr.heap.size ≤ W₂.heap.size := by omega
    have HYAT : Hid (∀ w3, Ext [] W₂.drew w3 → YieldAt Fence.wide (1000 - 2 - 1) Try.prog l #[.agg #[.int .i64 (xf : Int), .int .i64 (xt : Int), .int .i64 xp, .int .i64 xk, .int .i64 xn]] w3 (fun e W' => ∃ (t : Bool) (X' : List Nat), e = .returned (.bool t) ∧ Ext (M ++ X) w3 W' ∧ (∀ b, b ∈ X' → (b ∈ X ∨ w3.heap.size ≤ b) ∧ b < W'.heap.size) ∧ ((t = true ∧ J (i + 1) X' W') ∨ (t = false ∧ Jx (i + 1) X' W')))) := by
      show ∀ w3, _
      intro w3 hx3
      have hx4 : Ext [l'] Wr w3 := (((HXR.out.mono (N := [l']) (by simp)).trans hx2).drew).trans (hx3.mono (by simp))
      have hJ3 := fJ _ X Wr w3 HI.out (fun q hq hlq => hx4.block q hlq (by
        simp
        rcases hq with hq | hq
        · have := (hMo q hq).1; omega
        · exact (hX q hq).2.2))
      have hX3 : Ext M W w3 := ((hx1.mono (N := M) (by simp)).trans hx).step hx4 (fun k hk => .inr (by simp at hk; omega))
      obtain ⟨fn, tmps, assign, body, hy, hR⟩ := yield_w (1000 - 2 - 1) hyat (fun h => hY _ h X _ hJ3 hX3 (fun q hq => ⟨by have := (hX q hq).1; omega, by have := (hX q hq).2.1; have := hx4.size; omega⟩))
      refine ⟨fn, tmps, assign, body, hy, hR.mono ?_⟩
      rintro e W' ⟨h1, X', h2, (⟨rfl, h3⟩ | ⟨rfl, h3⟩)⟩
      · exact ⟨true, X', rfl, h1, h2, .inl ⟨rfl, h3⟩⟩
      · exact ⟨false, X', rfl, h1, h2, .inr ⟨rfl, h3⟩⟩
    clear hr hx2 hs2 hs3 hbx hbx2 hyat hY hit fJ fJx by_ h12
    gi_wp2
    refine region_any_R (by kernel_rfl) (by rfl) ?_
    refine wpAnyIn_ready (rs := [0, 1]) (by kernel_rfl) (by simp) ?_
    refine AllReadyIn.cons rfl (fun K hK => ?_) (AllReadyIn.cons rfl (fun K hK => ?_) AllReadyIn.nil)
    · go_simp
      refine hK _ _ ?_
      clear hK K
      try simp only [Act.put, List.setIfInBounds_toArray, List.set_cons_zero, List.set_cons_succ]
      refine wpAnyIn_ready (rs := [1]) (by kernel_rfl) (by simp) ?_
      refine AllReadyIn.cons rfl (fun K hK => ?_) AllReadyIn.nil
      go_simp
      refine hK _ _ ?_
      clear hK K
      try simp only [Act.put, List.setIfInBounds_toArray, List.set_cons_zero, List.set_cons_succ]
      refine wpAnyIn_ready (rs := [2]) (by kernel_rfl) (by simp) ?_
      refine AllReadyIn.cons rfl (fun K hK => ?_) AllReadyIn.nil
      go_simp
      gi_wp2_with (gi_at_call 44; refine CallsIn.mono (callsIn_of_calls (of_c _ _ _ _ _ _)) ?_; rintro e w3 ⟨rfl, hx3⟩; have HX3 := Lib.hid hx3; obtain ⟨fn, tmps, assign, body, hy, hR⟩ := HYAT.out w3 hx3; have HRR := Lib.hid hR; have ky := (HKY.out.ext hx3 (by simp)).cell 0; clear hx3 hR)
      try simp only [Act.put, List.setIfInBounds_toArray, List.set_cons_zero, List.set_cons_succ]
      refine wpAnyIn_ready (rs := [3]) (by kernel_rfl) (by simp) ?_
      refine AllReadyIn.cons rfl (fun K hK => ?_) AllReadyIn.nil
      go_simp
      gi_wp2_with ((refine RoundIn.mono HRR.out ?_; clear hy; rintro e W' ⟨t, X', rfl, hx', hX', hor⟩; have HX' := Lib.hid (And.intro hx' (And.intro hX' hor)); clear hx' hX' hor))
      try simp only [Act.put, List.setIfInBounds_toArray, List.set_cons_zero, List.set_cons_succ]
      refine wpAnyIn_take (i := 4) (v := ?_) rfl rfl (by kernel_rfl) (by kernel_rfl) (by kernel_rfl) (fun _ _ _ h => h) ⟨Or.inl ⟨by rfl, ?_⟩, fun _ => rfl⟩ ?_
      rotate_left
      · (intro w; first | (go_simp; done) | (go_simp; with_reducible rfl))
      try simp only [Act.put, List.setIfInBounds_toArray, List.set_cons_zero, List.set_cons_succ]
      refine wpAnyIn_done (by kernel_rfl) ?_ _
      obtain ⟨hx', hX', hor⟩ := HX'.out
      have hx23 := HX3.out.size
      rcases hor with ⟨rfl, hJ'⟩ | ⟨rfl, hJ'⟩
      · gi_wp2
        refine ⟨X', RoundEnd.of (N := M ++ X) HXR.out HX2.out HR.out (((Ext.refl _ _).drew.trans (HX3.out.mono (by simp))).trans hx') (fun k hk => ?_) (fun q hq => ?_), ?_⟩
        · rcases List.mem_append.1 hk with hk | hk
          · exact ⟨.inl hk, by have := HMO.out k hk; omega⟩
          · exact ⟨.inr (.inl hk), (hX k hk).2.2⟩
        · refine ⟨?_, (hX' q hq).2⟩
          rcases (hX' q hq).1 with h | h
          · exact .inl h
          · exact .inr (by have : W₂.heap.size ≤ w3.heap.size := hx23; omega)
        · exact hJ'
      · gi_wp2
        refine ⟨X', RoundEnd.of (N := M ++ X) HXR.out HX2.out HR.out (((Ext.refl _ _).drew.trans (HX3.out.mono (by simp))).trans hx') (fun k hk => ?_) (fun q hq => ?_), rfl, _, (by have := HLEN.out; omega), hJ'⟩
        · rcases List.mem_append.1 hk with hk | hk
          · exact ⟨.inl hk, by have := HMO.out k hk; omega⟩
          · exact ⟨.inr (.inl hk), (hX k hk).2.2⟩
        · refine ⟨?_, (hX' q hq).2⟩
          rcases (hX' q hq).1 with h | h
          · exact .inl h
          · exact .inr (by have : W₂.heap.size ≤ w3.heap.size := hx23; omega)
    · go_simp
      refine hK _ _ ?_
      clear hK K
      try simp only [Act.put, List.setIfInBounds_toArray, List.set_cons_zero, List.set_cons_succ]
      refine wpAnyIn_ready (rs := [0, 2]) (by kernel_rfl) (by simp) ?_
      refine AllReadyIn.cons rfl (fun K hK => ?_) (AllReadyIn.cons rfl (fun K hK => ?_) AllReadyIn.nil)
      · go_simp
        refine hK _ _ ?_
        clear hK K
        try simp only [Act.put, List.setIfInBounds_toArray, List.set_cons_zero, List.set_cons_succ]
        refine wpAnyIn_ready (rs := [2]) (by kernel_rfl) (by simp) ?_
        refine AllReadyIn.cons rfl (fun K hK => ?_) AllReadyIn.nil
        go_simp
        gi_wp2_with (gi_at_call 44; refine CallsIn.mono (callsIn_of_calls (of_c _ _ _ _ _ _)) ?_; rintro e w3 ⟨rfl, hx3⟩; have HX3 := Lib.hid hx3; obtain ⟨fn, tmps, assign, body, hy, hR⟩ := HYAT.out w3 hx3; have HRR := Lib.hid hR; have ky := (HKY.out.ext hx3 (by simp)).cell 0; clear hx3 hR)
        try simp only [Act.put, List.setIfInBounds_toArray, List.set_cons_zero, List.set_cons_succ]
        refine wpAnyIn_ready (rs := [3]) (by kernel_rfl) (by simp) ?_
        refine AllReadyIn.cons rfl (fun K hK => ?_) AllReadyIn.nil
        go_simp
        gi_wp2_with ((refine RoundIn.mono HRR.out ?_; clear hy; rintro e W' ⟨t, X', rfl, hx', hX', hor⟩; have HX' := Lib.hid (And.intro hx' (And.intro hX' hor)); clear hx' hX' hor))
        try simp only [Act.put, List.setIfInBounds_toArray, List.set_cons_zero, List.set_cons_succ]
        refine wpAnyIn_take (i := 4) (v := ?_) rfl rfl (by kernel_rfl) (by kernel_rfl) (by kernel_rfl) (fun _ _ _ h => h) ⟨Or.inl ⟨by rfl, ?_⟩, fun _ => rfl⟩ ?_
        rotate_left
        · (intro w; first | (go_simp; done) | (go_simp; with_reducible rfl))
        try simp only [Act.put, List.setIfInBounds_toArray, List.set_cons_zero, List.set_cons_succ]
        refine wpAnyIn_done (by kernel_rfl) ?_ _
        obtain ⟨hx', hX', hor⟩ := HX'.out
        have hx23 := HX3.out.size
        rcases hor with ⟨rfl, hJ'⟩ | ⟨rfl, hJ'⟩
        · gi_wp2
          refine ⟨X', RoundEnd.of (N := M ++ X) HXR.out HX2.out HR.out (((Ext.refl _ _).drew.trans (HX3.out.mono (by simp))).trans hx') (fun k hk => ?_) (fun q hq => ?_), ?_⟩
          · rcases List.mem_append.1 hk with hk | hk
            · exact ⟨.inl hk, by have := HMO.out k hk; omega⟩
            · exact ⟨.inr (.inl hk), (hX k hk).2.2⟩
          · refine ⟨?_, (hX' q hq).2⟩
            rcases (hX' q hq).1 with h | h
            · exact .inl h
            · exact .inr (by have : W₂.heap.size ≤ w3.heap.size := hx23; omega)
          · exact hJ'
        · gi_wp2
          refine ⟨X', RoundEnd.of (N := M ++ X) HXR.out HX2.out HR.out (((Ext.refl _ _).drew.trans (HX3.out.mono (by simp))).trans hx') (fun k hk => ?_) (fun q hq => ?_), rfl, _, (by have := HLEN.out; omega), hJ'⟩
          · rcases List.mem_append.1 hk with hk | hk
            · exact ⟨.inl hk, by have := HMO.out k hk; omega⟩
            · exact ⟨.inr (.inl hk), (hX k hk).2.2⟩
          · refine ⟨?_, (hX' q hq).2⟩
            rcases (hX' q hq).1 with h | h
            · exact .inl h
            · exact .inr (by have : W₂.heap.size ≤ w3.heap.size := hx23; omega)
      · go_simp
        gi_wp2_with (gi_at_call 44; refine CallsIn.mono (callsIn_of_calls (of_c _ _ _ _ _ _)) ?_; rintro e w3 ⟨rfl, hx3⟩; have HX3 := Lib.hid hx3; obtain ⟨fn, tmps, assign, body, hy, hR⟩ := HYAT.out w3 hx3; have HRR := Lib.hid hR; have ky := (HKY.out.ext hx3 (by simp)).cell 0; clear hx3 hR)
        try simp only [Act.put, List.setIfInBounds_toArray, List.set_cons_zero, List.set_cons_succ]
        refine wpAnyIn_ready (rs := [0]) (by kernel_rfl) (by simp) ?_
        refine AllReadyIn.cons rfl (fun K hK => ?_) AllReadyIn.nil
        go_simp
        refine hK _ _ ?_
        clear hK K
        try simp only [Act.put, List.setIfInBounds_toArray, List.set_cons_zero, List.set_cons_succ]
        refine wpAnyIn_ready (rs := [3]) (by kernel_rfl) (by simp) ?_
        refine AllReadyIn.cons rfl (fun K hK => ?_) AllReadyIn.nil
        go_simp
        gi_wp2_with ((refine RoundIn.mono HRR.out ?_; clear hy; rintro e W' ⟨t, X', rfl, hx', hX', hor⟩; have HX' := Lib.hid (And.intro hx' (And.intro hX' hor)); clear hx' hX' hor))
        try simp only [Act.put, List.setIfInBounds_toArray, List.set_cons_zero, List.set_cons_succ]
        refine wpAnyIn_take (i := 4) (v := ?_) rfl rfl (by kernel_rfl) (by kernel_rfl) (by kernel_rfl) (fun _ _ _ h => h) ⟨Or.inl ⟨by rfl, ?_⟩, fun _ => rfl⟩ ?_
        rotate_left
        · (intro w; first | (go_simp; done) | (go_simp; with_reducible rfl))
        try simp only [Act.put, List.setIfInBounds_toArray, List.set_cons_zero, List.set_cons_succ]
        refine wpAnyIn_done (by kernel_rfl) ?_ _
        obtain ⟨hx', hX', hor⟩ := HX'.out
        have hx23 := HX3.out.size
        rcases hor with ⟨rfl, hJ'⟩ | ⟨rfl, hJ'⟩
        · gi_wp2
          refine ⟨X', RoundEnd.of (N := M ++ X) HXR.out HX2.out HR.out (((Ext.refl _ _).drew.trans (HX3.out.mono (by simp))).trans hx') (fun k hk => ?_) (fun q hq => ?_), ?_⟩
          · rcases List.mem_append.1 hk with hk | hk
            · exact ⟨.inl hk, by have := HMO.out k hk; omega⟩
            · exact ⟨.inr (.inl hk), (hX k hk).2.2⟩
          · refine ⟨?_, (hX' q hq).2⟩
            rcases (hX' q hq).1 with h | h
            · exact .inl h
            · exact .inr (by have : W₂.heap.size ≤ w3.heap.size := hx23; omega)
          · exact hJ'
        · gi_wp2
          refine ⟨X', RoundEnd.of (N := M ++ X) HXR.out HX2.out HR.out (((Ext.refl _ _).drew.trans (HX3.out.mono (by simp))).trans hx') (fun k hk => ?_) (fun q hq => ?_), rfl, _, (by have := HLEN.out; omega), hJ'⟩
          · rcases List.mem_append.1 hk with hk | hk
            · exact ⟨.inl hk, by have := HMO.out k hk; omega⟩
            · exact ⟨.inr (.inl hk), (hX k hk).2.2⟩
          · refine ⟨?_, (hX' q hq).2⟩
            rcases (hX' q hq).1 with h | h
            · exact .inl h
            · exact .inr (by have : W₂.heap.size ≤ w3.heap.size := hx23; omega)
  case done =>
    intro D X Wd hD hE hI hx hX
    have hI' : J (SpU.vals L).length X Wd := hI
    have HI := Lib.hid hI'
    clear hI hI' hit hY
    gi_wp2
    refine leaves_marks [D] _ (by simpa using hE) (by simp) (fun w' hx' hs' => ⟨_, results_none rfl _ _ _, ⟨_, rfl⟩, ?_, X, fun q hq => ⟨by have := (hX q hq).1; omega, by have := (hX q hq).2.1; omega⟩, .inl ?_⟩)
    · exact ((hx1.mono (N := M) (by simp)).trans hx).step hx' (fun k hk => .inr (by simp at hk; omega))
    · exact fJ _ X Wd _ HI.out (fun q hq hlq => hx'.block q hlq (by
        simp
        rcases hq with hq | hq
        · have := (hMo q hq).1; omega
        · exact (hX q hq).2.2))
  case stop =>
    rintro D c i X Wd hD hE hi ⟨rfl, j, hj, hJ⟩ hx hX
    clear hit hY
    gi_wp2
    refine leaves_marks [D] _ (by simpa using hE) (by simp) (fun w' hx' hs' => ⟨_, results_none rfl _ _ _, ⟨_, rfl⟩, ?_, X, fun q hq => ⟨by have := (hX q hq).1; omega, by have := (hX q hq).2.1; omega⟩, .inr ⟨j, hj, ?_⟩⟩)
    · exact ((hx1.mono (N := M) (by simp)).trans hx).step hx' (fun k hk => .inr (by simp at hk; omega))
    · exact fJx _ X Wd _ hJ (fun q hq hlq => hx'.block q hlq (by
        simp
        rcases hq with hq | hq
        · have := (hMo q hq).1; omega
        · exact (hX q hq).2.2))

theorem sall_c (m : Option Addr) (w : World) : Calls Try.prog 39 #[.pointer m] w fun e w' => e = .returned (.func (.func 59) #[] #[.pointer (some ⟨w.heap.size, 0, none⟩)]) ∧ w' = w.alloc (.cells #[.pointer m] 23) := by
  go_enter Try.func39, Try.ntmps39
  go_wp2
  go_ret
  exact ⟨rfl, rfl⟩

end Go.Proofs.Ytjicpblncfgiaaa
