/-
  Spans of values (basin/region.use): the iterator Within.
-/
import Derived.Test.YtjicpblncfgiaaaSpHU
import Derived.Test.YtjicpblncfgiaaaIterN
namespace Go.Proofs.Ytjicpblncfgiaaa.SpU
open Go.RowKit SpT
set_option maxHeartbeats 2000000
set_option maxRecDepth 10000
set_option linter.unusedVariables false
set_option linter.unusedSimpArgs false
set_option linter.unusedSectionVars false

def withinL (l : List Spn) (a b : Int) : List Spn := if mayB a b = true then within a.toNat b.toNat l else []
theorem within_snoc (a b : Nat) (l : List Spn) (x : Spn) : within a b (l ++ [x]) = within a b l ++ (if max x.f a < min x.t b then [⟨max x.f a, min x.t b, x.v⟩] else []) := by simp [within]
theorem within_take_le (a b : Nat) (l : List Spn) (k : Nat) : (within a b (l.take k)).length ≤ (within a b l).length := by
  conv => rhs; rw [← List.take_append_drop k l]
  unfold within
  rw [List.flatMap_append, List.length_append]
  omega
theorem within_take_at {a b : Nat} {l : List Spn} {k : Nat} (hk : k < l.length) (h : max l[k].f a < min l[k].t b) : (within a b l)[(within a b (l.take k)).length]? = some ⟨max l[k].f a, min l[k].t b, l[k].v⟩ := by
  have e : l = l.take k ++ [l[k]] ++ l.drop (k + 1) := by rw [← List.take_succ_eq_append_getElem hk, List.take_append_drop]
  have e2 : within a b l = within a b (l.take k) ++ ([⟨max l[k].f a, min l[k].t b, l[k].v⟩] ++ within a b (l.drop (k + 1))) := by
    conv => lhs; rw [e]
    unfold within
    rw [List.flatMap_append, List.flatMap_append, List.append_assoc]
    simp [h]
  rw [e2, List.getElem?_append_right (Nat.le_refl _), Nat.sub_self]; rfl

theorem within1_no (Ba Bb Bm : Nat) (a b : Int) (vm : Value) (w0 : World) (ha : Blk w0 Ba [.int .i64 a] 3) (hb : Blk w0 Bb [.int .i64 b] 3) (hm : mayB a b = false) :
    Iter Try.prog 77 #[.pointer (some ⟨Ba, 0, none⟩), .pointer (some ⟨Bb, 0, none⟩), .pointer (some ⟨Bm, 0, none⟩)] [Ba, Bb] [] w0 := by
  intro n l M J Jx W hn hs hK hM fJ fJx hY hj0
  refine callsIn_of_wp Try.func77 rfl trivial ?_ rfl
  simp only [Try.ntmps77, List.size_toArray, List.length_cons, List.length_nil, Nat.reduceAdd, Nat.reduceSub, Array.replicate_succ, Array.replicate_zero, List.push_toArray, List.append_toArray, List.nil_append, List.cons_append]
  have hit0 := (It.refl M W).step (D := []) ((Ext.refl [] W).alloc (.cells #[.func (.yield l) #[] #[]] 126)) (by simp)
  have c0 := (hit0.blk hK hM (by simp) ha).cell 0
  have c1 := (hit0.blk hK hM (by simp) hb).cell 0
  have CM := Lib.hid (fun w => may_c a b w)
  rw [hm] at CM
  have HF := Lib.hid fJ
  clear hK hM fJ fJx hY hm
  gi_wp2_with (gi_at_call 75; refine CallsIn.mono (callsIn_of_calls (CM.out _)) ?_; rintro e w' ⟨rfl, rfl⟩)
  refine bodyPost_ret (results_none rfl _ _ _) rfl ?_
  exact ⟨⟨_, rfl⟩, (Ext.refl _ _).alloc _, [], by simp, .inl (HF.out _ _ _ _ hj0 (fun b _ hb => Below.heap_alloc _ _ _ hb))⟩

def WinI (J : Nat → List Nat → World → Prop) (a b : Nat) (L : List Spn) (i : Nat) (X : List Nat) (wr : World) : Prop := J (within a b (L.take i)).length X wr
def WinX (Jx : Nat → List Nat → World → Prop) (N : Nat) (c : Code) (i : Nat) (X : List Nat) (wr : World) : Prop := c = .ret ∧ ∃ j, j ≤ N ∧ Jx j X wr

theorem within1_yes (Ba Bb Bm : Nat) (a b : Nat) (hab : a < b) (hb4 : b ≤ 4096) (p : Option Addr) (Kq : List Nat) (L : List Spn) (w0 : World) (hA : AllIs w0 p Kq L) (ha : Blk w0 Ba [.int .i64 a] 3) (hb : Blk w0 Bb [.int .i64 b] 3)
    (h0 : Blk w0 Bm [.pointer p] 51) :
    Iter Try.prog 77 #[.pointer (some ⟨Ba, 0, none⟩), .pointer (some ⟨Bb, 0, none⟩), .pointer (some ⟨Bm, 0, none⟩)] (Ba :: Bb :: Bm :: Kq) (vals (within a b L)) w0 := by
  intro n l M J Jx W hn hs hK hM fJ fJx hY hj0
  refine callsIn_wide.2 ((callsIn_wide (n := 1000)).1 ?_)
  refine callsIn_of_wp_marks Try.func77 rfl trivial ?_ rfl
  simp only [Try.ntmps77, List.size_toArray, List.length_cons, List.length_nil, Nat.reduceAdd, Nat.reduceSub, Array.replicate_succ, Array.replicate_zero, List.push_toArray, List.append_toArray, List.nil_append, List.cons_append]
  have hit0 := (It.refl M W).step (D := []) ((Ext.refl [] W).alloc (.cells #[.func (.yield l) #[] #[]] 126)) (by simp)
  have c0 := (hit0.blk hK hM (by simp) ha).cell 0
  have c1 := (hit0.blk hK hM (by simp) hb).cell 0
  have c2 := (hit0.blk hK hM (by simp) h0).cell 0
  have CM := Lib.hid (show ∀ w, Calls Try.prog 75 #[.int .i64 (a : Int), .int .i64 (b : Int)] w fun e w' => e = .returned (.bool true) ∧ w = w' from fun w => by
    have h := may_c a b w
    rwa [show mayB a b = true by simp [mayB]; omega] at h)
  gi_wp2_with (first
    | (gi_at_call 75; refine CallsIn.mono (callsIn_of_calls (CM.out _)) ?_; rintro e w' ⟨rfl, rfl⟩)
    | (gi_at_call 60; refine CallsIn.mono (callsIn_of_calls (all_c _ _)) ?_; rintro e w' ⟨rfl, rfl⟩))
  have hx1 : Ext [] W ((W.alloc (.cells #[.func (.yield l) #[] #[]] 126)).alloc (.cells #[.pointer p] 51)) := ((Ext.refl _ _).alloc _).alloc _
  have hit1 := (It.refl M W).step (D := []) hx1 (by simp)
  have ba := hit1.blk hK hM (by simp) ha
  have bb := hit1.blk hK hM (by simp) hb
  have by_ := (Blk.new W [.func (.yield l) #[] #[]] 126).alloc (.cells #[.pointer p] 51)
  have bp := Blk.new (W.alloc (.cells #[.func (.yield l) #[] #[]] 126)) [.pointer p] 51
  have hsz : ((W.alloc (.cells #[.func (.yield l) #[] #[]] 126)).alloc (.cells #[.pointer p] 51)).heap.size = W.heap.size + 2 := by simp
  rw [World.size_alloc] at bp
  have hit := hA.it _ (W.heap.size + 1) (fun q hq => by
    have hm : q ∈ Ba :: Bb :: Bm :: Kq := by simp [hq]
    rw [hx1.block q (by have := (hK q hm).1; omega) (by simp)]; exact (hK q hm).2) bp
  have hKo : ∀ q, q ∈ Ba :: Bb :: Bm :: Kq → q < W.heap.size := fun q hq => by have := (hK q hq).1; omega
  have hMo : ∀ q, q ∈ M → q < W.heap.size ∧ q ≠ Ba ∧ q ≠ Bb ∧ q ∉ Kq := fun q hq => by
    have h := (hM q hq).1
    simp at h
    exact ⟨(hM q hq).2, h.1, h.2.1, h.2.2.2⟩
  clear ha hb h0 hK hM c0 c1 c2 hit0 hit1 bp
  generalize hW1 : ((W.alloc (.cells #[.func (.yield l) #[] #[]] 126)).alloc (.cells #[.pointer p] 51)) = W1 at *
  clear hW1
  have hvl : (vals L).length = L.length := by simp [vals]
  refine wpIn_range (by omega) rfl (Go.Proofs.enters_of Try.func73 (by kernel_rfl) rfl) hit (by simp [vals]) M (WinI J a b L) (WinX Jx (vals (within a b L)).length) ?fI ?fIx ?hM (Nat.le_refl _) ?hK ?h0 ?round ?done ?stop
  case fI => exact fun i X A B h hk => fJ _ X A B h hk
  case fIx => rintro c i X A B ⟨rfl, j, hj, h⟩ hk; exact ⟨rfl, j, hj, fJx _ X A B h hk⟩
  case hM =>
    intro q hq
    have h := hMo q hq
    refine ⟨by omega, ?_⟩
    simp
    exact ⟨by omega, h.2.2.2⟩
  case hK =>
    intro q hq
    rcases List.mem_cons.1 hq with rfl | hq
    · exact ⟨by omega, rfl⟩
    · have := hKo q (by simp [hq])
      exact ⟨by omega, rfl⟩
  case h0 => exact fJ _ _ _ _ hj0 (fun q _ hlt => hx1.block q hlt (by simp))
  case round =>
    intro l' i hi X Wr hI hx hX hl' hlW
    have hiL : i < L.length := by omega
    rw [show (vals L)[i] = #[.agg (cells L[i]).toArray] by simp [vals]]
    obtain ⟨x, hxd⟩ : ∃ x, x = L[i] := ⟨_, rfl⟩
    have hts := take_snoc hiL
    have hat := fun h => within_take_at (a := a) (b := b) hiL h
    rw [← hxd] at hts hat ⊢
    have HE := Lib.hid (show within a b (L.take (i + 1)) = within a b (L.take i) ++ (if max x.f a < min x.t b then [⟨max x.f a, min x.t b, x.v⟩] else []) by rw [hts, within_snoc])
    have hxr : Ext [] Wr (Wr.alloc (.cells (cells x).toArray 97)) := (Ext.refl _ _).alloc _
    have hbx := Blk.new Wr (cells x) 97
    have HI := Lib.hid hI
    obtain ⟨xf, xt, xv⟩ := x
    unfold cells at hxr hbx ⊢
    have HXR := Lib.hid hxr
    clear hxd hts hI hxr
    unfold RoundX
    gi_wp2
    refine ⟨HXR.out, fun W₂ r hx2 hs2 hr => ?_⟩
    have hxr := HXR.out
    have HR := Lib.hid hr
    have h12 : Ext (l' :: M) W1 W₂ := (((hx.mono (N := l' :: M) (fun k hk => .inl (by simp [hk]))).trans (hxr.mono (by simp))).trans (hx2.mono (by simp)))
    have hs3 : W₂.heap.size = Wr.heap.size + 1 := by simpa using hs2
    have hold : ∀ {q cs t}, Blk W1 q cs t → q ∉ M → Blk W₂ q cs t := fun {q cs t} h hq => h.ext h12 (by simp; exact ⟨by have := h.lt; omega, hq⟩)
    have hnM : ∀ q, (q = Ba ∨ q = Bb ∨ q = W.heap.size) → q ∉ M := fun q hq hm => by
      have h := hMo q hm
      rcases hq with rfl | rfl | rfl
      · exact h.2.1 rfl
      · exact h.2.2.1 rfl
      · omega
    have ka := (hold ba (hnM _ (.inl rfl))).cell 0
    have kb := (hold bb (hnM _ (.inr (.inl rfl)))).cell 0
    have HY2 := Lib.hid (hold by_ (hnM _ (.inr (.inr rfl))))
    have hbx2 := hbx.ext hx2 (by simp; omega)
    have kx0 := hbx2.cell 0
    have kx1 := hbx2.cell 1
    have kx2 := hbx2.cell 2
    have kx3 := hbx2.cell 3
    have kx4 := hbx2.cell 4
    have hmx : mxI (xf : Int) (a : Int) = ((max xf a : Nat) : Int) := by unfold mxI; omega
    have hmn : mnI (xt : Int) (b : Int) = ((min xt b : Nat) : Int) := by unfold mnI; omega
    (try simp only [] at hat HE)
    have HX2 := Lib.hid hx2
    by_cases hlt : max xf a < min xt b
    · have hj := hat hlt
      rw [if_pos hlt] at HE
      generalize max xf a = mx at *
      generalize min xt b = mn at *
      have hby3 := HY2.out.alloc (.cells #[.int .i64 (mx : Int), .int .i64 (mn : Int), .int .i64 (xv).1, .int .i64 (xv).2.1, .int .i64 (xv).2.2] 97)
      have ky := hby3.cell 0
      have hx3 : Ext [l'] Wr (W₂.alloc (.cells #[.int .i64 (mx : Int), .int .i64 (mn : Int), .int .i64 (xv).1, .int .i64 (xv).2.1, .int .i64 (xv).2.2] 97)) := ((hxr.mono (N := [l']) (by simp)).trans hx2).alloc _
      have hJ3 := fJ _ X Wr _ HI.out (fun q hq hlq => hx3.block q hlq (by
        simp
        rcases hq with hq | hq
        · have := (hMo q hq).1; omega
        · exact (hX q hq).2.2))
      have hX3 : Ext M W (W₂.alloc (.cells #[.int .i64 (mx : Int), .int .i64 (mn : Int), .int .i64 (xv).1, .int .i64 (xv).2.1, .int .i64 (xv).2.2] 97)) := ((hx1.mono (N := M) (by simp)).trans hx).step hx3 (fun k hk => .inr (by simp at hk; omega))
      have hyat : (vals (within a b L))[(within a b (L.take i)).length]? = some #[.agg #[.int .i64 (mx : Int), .int .i64 (mn : Int), .int .i64 (xv).1, .int .i64 (xv).2.1, .int .i64 (xv).2.2]] := by
        unfold vals; rw [List.getElem?_map, hj]; rfl
      obtain ⟨fn, tmps, assign, body, hy, hR⟩ := yield_in l' (1000 - 2 - 1) hyat (fun h => hY _ h X _ hJ3 hX3 (fun q hq => ⟨by have := (hX q hq).1; omega, by have := (hX q hq).2.1; simp; omega⟩))
      have HLEN := Lib.hid (show (within a b (L.take i)).length + 1 ≤ (vals (within a b L)).length from (List.getElem?_eq_some_iff.1 hyat).1)
      clear hj hat hJ3 hX3 hyat hY hold hby3 hbx2 hbx hit fJ fJx hr hxr ba bb by_
      gi_wp2
      refine RoundIn.mono hR ?_
      clear hR hy
      rintro e W' ⟨hx', X', hX', (⟨rfl, hJ'⟩ | ⟨rfl, hJ'⟩)⟩
      · gi_wp2
        refine ⟨X', RoundEnd.of (N := M ++ X) HXR.out HX2.out HR.out (((Ext.refl _ _).alloc _).trans hx') (fun k hk => ?_) (fun q hq => ?_), ?_⟩
        · rcases List.mem_append.1 hk with hk | hk
          · exact ⟨.inl hk, by have := (hMo k hk).1; omega⟩
          · exact ⟨.inr (.inl hk), (hX k hk).2.2⟩
        · refine ⟨?_, (hX' q hq).2⟩
          rcases (hX' q hq).1 with h | h
          · exact .inl h
          · exact .inr (by simp at h; omega)
        · show J (within a b (L.take (i + 1))).length X' W'
          rw [HE.out, List.length_append]; exact hJ'
      · gi_wp2
        refine ⟨X', RoundEnd.of (N := M ++ X) HXR.out HX2.out HR.out (((Ext.refl _ _).alloc _).trans hx') (fun k hk => ?_) (fun q hq => ?_), rfl, _, HLEN.out, hJ'⟩
        · rcases List.mem_append.1 hk with hk | hk
          · exact ⟨.inl hk, by have := (hMo k hk).1; omega⟩
          · exact ⟨.inr (.inl hk), (hX k hk).2.2⟩
        · refine ⟨?_, (hX' q hq).2⟩
          rcases (hX' q hq).1 with h | h
          · exact .inl h
          · exact .inr (by simp at h; omega)
    · rw [if_neg hlt, List.append_nil] at HE
      generalize max xf a = mx at *
      generalize min xt b = mn at *
      clear hat hY hold hbx2 hbx hit hr hxr ba bb by_
      gi_wp2
      refine ⟨X, RoundEnd.of (N := []) HXR.out HX2.out HR.out ((Ext.refl _ _).alloc _) (by simp) (fun q hq => ⟨.inl hq, by have := (hX q hq).2.1; simp; omega⟩), ?_⟩
      show J (within a b (L.take (i + 1))).length X _
      rw [HE.out]
      have hx3 : Ext [l'] Wr (W₂.alloc (.cells #[.int .i64 (mx : Int), .int .i64 (mn : Int), .int .i64 (xv).1, .int .i64 (xv).2.1, .int .i64 (xv).2.2] 97)) := ((HXR.out.mono (N := [l']) (by simp)).trans HX2.out).alloc _
      exact fJ _ X Wr _ HI.out (fun q hq hlq => hx3.block q hlq (by
        simp
        rcases hq with hq | hq
        · have := (hMo q hq).1; omega
        · exact (hX q hq).2.2))
  case done =>
    intro D X Wd hD hE hI hx hX
    have hI' : J (vals (within a b L)).length X Wd := by
      have h : J (within a b (L.take (vals L).length)).length X Wd := hI
      rw [hvl, List.take_length] at h
      simpa [vals] using h
    have HI := Lib.hid hI'
    clear hI hI' hit hY
    gi_wp2
    refine leaves_marks [D] _ (by simpa using hE) (by simp) (fun w' hx' hs' => ⟨_, results_none rfl _ _ _, ⟨_, rfl⟩, ?_, X, fun q hq => ⟨by have := (hX q hq).1; omega, by have := (hX q hq).2.1; omega⟩, .inl ?_⟩)
    · exact ((hx1.mono (N := M) (by simp)).trans hx).step hx' (fun k hk => .inr (by simp at hk; omega))
    · exact fJ _ X Wd _ HI.out (fun q hq hlq => hx'.block q hlq (by
        simp
        rcases hq with hq | hq
        · have := (hMo q hq).1; omega
        · exact (hX q hq).2.2))
  case stop =>
    rintro D c i X Wd hD hE hi ⟨rfl, j, hj, hJ⟩ hx hX
    clear hit hY
    gi_wp2
    refine leaves_marks [D] _ (by simpa using hE) (by simp) (fun w' hx' hs' => ⟨_, results_none rfl _ _ _, ⟨_, rfl⟩, ?_, X, fun q hq => ⟨by have := (hX q hq).1; omega, by have := (hX q hq).2.1; omega⟩, .inr ⟨j, hj, ?_⟩⟩)
    · exact ((hx1.mono (N := M) (by simp)).trans hx).step hx' (fun k hk => .inr (by simp at hk; omega))
    · exact fJx _ X Wd _ hJ (fun q hq hlq => hx'.block q hlq (by
        simp
        rcases hq with hq | hq
        · have := (hMo q hq).1; omega
        · exact (hX q hq).2.2))

theorem within_c (p : Option Addr) (a b : Int) (w : World) : Calls Try.prog 65 #[.pointer p, .int .i64 a, .int .i64 b] w fun e w' =>
    e = .returned (.func (.func 77) #[] #[.pointer (some ⟨w.heap.size + 1, 0, none⟩), .pointer (some ⟨w.heap.size + 2, 0, none⟩), .pointer (some ⟨w.heap.size, 0, none⟩)]) ∧
      w' = ((w.alloc (.cells #[.pointer p] 51)).alloc (.cells #[.int .i64 a] 3)).alloc (.cells #[.int .i64 b] 3) := by
  go_enter Try.func65, Try.ntmps65
  go_wp2
  go_ret
  exact ⟨rfl, rfl⟩

/-- What an iterator goes through, that was made in world w. -/
def SeqIs (w : World) (g : FuncId) (lb : Array Value) (xs : List (Array Value)) : Prop := ∃ Kp, (∀ b, b ∈ Kp → b < w.heap.size) ∧ Iter Try.prog g lb Kp xs w

theorem within_it {w : World} {p : Option Addr} {Kq : List Nat} {L : List Spn} (hA : AllIs w p Kq L) (a b : Int) :
    ∃ Kp, (∀ q, q ∈ Kp → q ∈ Kq ∨ (w.heap.size ≤ q ∧ q < w.heap.size + 3)) ∧ Iter Try.prog 77 #[.pointer (some ⟨w.heap.size + 1, 0, none⟩), .pointer (some ⟨w.heap.size + 2, 0, none⟩), .pointer (some ⟨w.heap.size, 0, none⟩)] Kp (vals (withinL L a b))
      (((w.alloc (.cells #[.pointer p] 51)).alloc (.cells #[.int .i64 a] 3)).alloc (.cells #[.int .i64 b] 3)) := by
  have hx : Ext [] w (((w.alloc (.cells #[.pointer p] 51)).alloc (.cells #[.int .i64 a] 3)).alloc (.cells #[.int .i64 b] 3)) := (((Ext.refl _ _).alloc _).alloc _).alloc _
  have h0 := ((Blk.new w [.pointer p] 51).alloc (.cells #[.int .i64 a] 3)).alloc (.cells #[.int .i64 b] 3)
  have h1 := (Blk.new (w.alloc (.cells #[.pointer p] 51)) [.int .i64 a] 3).alloc (.cells #[.int .i64 b] 3)
  have h2 := Blk.new ((w.alloc (.cells #[.pointer p] 51)).alloc (.cells #[.int .i64 a] 3)) [.int .i64 b] 3
  simp only [World.size_alloc] at h1 h2
  unfold withinL
  cases hm : mayB a b
  · refine ⟨_, fun q hq => ?_, within1_no _ _ _ a b (.pointer p) _ h1 h2 hm⟩
    simp at hq; right; omega
  · obtain ⟨x, y, rfl, rfl, hxy, hy⟩ := mayB_yes hm
    refine ⟨_, fun q hq => ?_, within1_yes _ _ _ x y hxy hy p Kq L _ (hA.ext hx (by simp)) h1 h2 h0⟩
    simp at hq
    rcases hq with rfl | rfl | rfl | hq
    · right; omega
    · right; omega
    · right; omega
    · exact .inl hq

end Go.Proofs.Ytjicpblncfgiaaa.SpU
