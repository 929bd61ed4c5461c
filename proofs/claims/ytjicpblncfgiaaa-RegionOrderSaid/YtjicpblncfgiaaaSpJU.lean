/-
  Spans of values (basin/region.use): the iterator Gaps.
-/
import Derived.Test.YtjicpblncfgiaaaSpIU
namespace Go.Proofs.Ytjicpblncfgiaaa.SpU
open Go.RowKit SpT
set_option maxHeartbeats 2000000
set_option maxRecDepth 10000
set_option linter.unusedVariables false
set_option linter.unusedSimpArgs false
set_option linter.unusedSectionVars false

/-- Where the next gap may begin, behind some intervals. -/
def gAt (a : Nat) (l : List Spn) : Nat := match l.getLast? with
  | some x => x.t
  | none => a
/-- The gaps ahead of intervals, one by one. -/
def gUp (a : Nat) : List Spn → List (Nat × Nat)
  | [] => []
  | x :: l => (if a < x.f then [(a, x.f)] else []) ++ gUp x.t l
def gapsL (a b : Nat) (l : List Spn) : List (Nat × Nat) := gUp a l ++ (if gAt a l < b then [(gAt a l, b)] else [])
theorem gAt_snoc (a : Nat) (l : List Spn) (x : Spn) : gAt a (l ++ [x]) = x.t := by simp [gAt]
theorem gUp_snoc : ∀ (a : Nat) (l : List Spn) (x : Spn), gUp a (l ++ [x]) = gUp a l ++ (if gAt a l < x.f then [(gAt a l, x.f)] else [])
  | a, [], x => by
    show (if a < x.f then [(a, x.f)] else []) ++ [] = _
    rw [List.append_nil]; rfl
  | a, y :: l, x => by
    have ih := gUp_snoc y.t l x
    have e : gAt a (y :: l) = gAt y.t l := by
      rcases List.eq_nil_or_concat l with rfl | ⟨l', z, rfl⟩
      · simp [gAt]
      · rw [List.concat_eq_append, ← List.cons_append, gAt_snoc, gAt_snoc]
    rw [List.cons_append, gUp, gUp, ih, e, List.append_assoc]
theorem gUp_app : ∀ (a : Nat) (l l' : List Spn), gUp a (l ++ l') = gUp a l ++ gUp (gAt a l) l'
  | a, [], l' => by simp [gUp, gAt]
  | a, y :: l, l' => by
    have ih := gUp_app y.t l l'
    have e : gAt a (y :: l) = gAt y.t l := by
      rcases List.eq_nil_or_concat l with rfl | ⟨l', z, rfl⟩
      · simp [gAt]
      · rw [List.concat_eq_append, ← List.cons_append, gAt_snoc, gAt_snoc]
    rw [List.cons_append, gUp, gUp, ih, e, List.append_assoc]
theorem gUp_at {a : Nat} {l : List Spn} {k : Nat} (hk : k < l.length) (h : gAt a (l.take k) < l[k].f) (b : Nat) : (gapsL a b l)[(gUp a (l.take k)).length]? = some (gAt a (l.take k), l[k].f) := by
  have e : l = l.take k ++ (l[k] :: l.drop (k + 1)) := by rw [← List.drop_eq_getElem_cons hk, List.take_append_drop]
  have e2 : gUp a l = gUp a (l.take k) ++ ((gAt a (l.take k), l[k].f) :: gUp l[k].t (l.drop (k + 1))) := by
    conv => lhs; rw [e]
    rw [gUp_app, gUp, if_pos h]; rfl
  unfold gapsL
  rw [e2, List.append_assoc, List.getElem?_append_right (Nat.le_refl _), Nat.sub_self]; rfl
/-- What Gaps yields. -/
def pairsG (l : List (Nat × Nat)) : List (Array Value) := l.map fun p => #[.int .i64 (p.1 : Int), .int .i64 (p.2 : Int)]

/-- Gaps of what is no map, or of a range that may not be: nothing. -/
theorem gaps1_no (Bm Ba Bb : Nat) (p : Option Addr) (a b : Int) (w0 : World) (h0 : Blk w0 Bm [.pointer p] 51) (ha : Blk w0 Ba [.int .i64 a] 3) (hb : Blk w0 Bb [.int .i64 b] 3) (Kq : List Nat) (hq : ∀ q, q ∈ Kq → q < w0.heap.size)
    (hm : (∀ w', (∀ q, q ∈ Kq → w'.heap[q]? = w0.heap[q]?) → Calls Try.prog 66 #[.pointer p] w' fun e w'' => e = .returned (.bool false) ∧ w' = w'') ∨
      ((∀ w', (∀ q, q ∈ Kq → w'.heap[q]? = w0.heap[q]?) → Calls Try.prog 66 #[.pointer p] w' fun e w'' => e = .returned (.bool true) ∧ w' = w'') ∧ mayB a b = false)) :
    Iter Try.prog 80 #[.pointer (some ⟨Bm, 0, none⟩), .pointer (some ⟨Ba, 0, none⟩), .pointer (some ⟨Bb, 0, none⟩)] (Bm :: Ba :: Bb :: Kq) [] w0 := by
  intro n l M J Jx W hn hs hK hM fJ fJx hY hj0
  refine callsIn_of_wp Try.func80 rfl trivial ?_ rfl
  simp only [Try.ntmps80, List.size_toArray, List.length_cons, List.length_nil, Nat.reduceAdd, Nat.reduceSub, Array.replicate_succ, Array.replicate_zero, List.push_toArray, List.append_toArray, List.nil_append, List.cons_append]
  have hx0 : Ext [] W (W.alloc (.cells #[.func (.yield l) #[] #[]] 122)) := (Ext.refl _ _).alloc _
  have hit0 := (It.refl M W).step (D := []) hx0 (by simp)
  have c0 := (hit0.blk hK hM (by simp) h0).cell 0
  have c1 := (hit0.blk hK hM (by simp) ha).cell 0
  have c2 := (hit0.blk hK hM (by simp) hb).cell 0
  have hkq : ∀ q, q ∈ Kq → (W.alloc (.cells #[.func (.yield l) #[] #[]] 122)).heap[q]? = w0.heap[q]? := fun q hq => by
    have hm : q ∈ Bm :: Ba :: Bb :: Kq := by simp [hq]
    rw [hx0.block q (by have := (hK q hm).1; omega) (by simp)]; exact (hK q hm).2
  have CM := Lib.hid (fun w => may_c a b w)
  have HF := Lib.hid fJ
  rcases hm with hm | ⟨hm, hab⟩
  · have CI := Lib.hid (hm _ hkq)
    clear hK hM fJ fJx hY hm hkq
    gi_wp2_with (gi_at_call 66; refine CallsIn.mono (callsIn_of_calls (CI.out)) ?_; rintro e w' ⟨rfl, rfl⟩)
    refine bodyPost_ret (results_none rfl _ _ _) rfl ?_
    exact ⟨⟨_, rfl⟩, (Ext.refl _ _).alloc _, [], by simp, .inl (HF.out _ _ _ _ hj0 (fun b _ hb => Below.heap_alloc _ _ _ hb))⟩
  · have CI := Lib.hid (hm _ hkq)
    rw [hab] at CM
    clear hK hM fJ fJx hY hm hkq hab
    gi_wp2_with (first
      | (gi_at_call 66; refine CallsIn.mono (callsIn_of_calls (CI.out)) ?_; rintro e w' ⟨rfl, rfl⟩)
      | (gi_at_call 75; refine CallsIn.mono (callsIn_of_calls (CM.out _)) ?_; rintro e w' ⟨rfl, rfl⟩))
    refine bodyPost_ret (results_none rfl _ _ _) rfl ?_
    exact ⟨⟨_, rfl⟩, (Ext.refl _ _).alloc _, [], by simp, .inl (HF.out _ _ _ _ hj0 (fun b _ hb => Below.heap_alloc _ _ _ hb))⟩

def GapI (J : Nat → List Nat → World → Prop) (B a : Nat) (L : List Spn) (i : Nat) (X : List Nat) (wr : World) : Prop := J (gUp a (L.take i)).length X wr ∧ Blk wr B [.int .i64 (gAt a (L.take i) : Int)] 3
def GapX (Jx : Nat → List Nat → World → Prop) (N : Nat) (c : Code) (i : Nat) (X : List Nat) (wr : World) : Prop := c = .ret ∧ ∃ j, j ≤ N ∧ Jx j X wr

theorem gaps1_yes (Bm Ba Bb : Nat) (a b : Nat) (hab : a < b) (hb4 : b ≤ 4096) (p : Option Addr) (Kq : List Nat) (L : List Spn) (w0 : World) (hA : AllIs w0 p Kq L) (h0 : Blk w0 Bm [.pointer p] 51) (ha : Blk w0 Ba [.int .i64 a] 3) (hb : Blk w0 Bb [.int .i64 b] 3)
    (hm : ∀ w', (∀ q, q ∈ Kq → w'.heap[q]? = w0.heap[q]?) → Calls Try.prog 66 #[.pointer p] w' fun e w'' => e = .returned (.bool true) ∧ w' = w'') :
    Iter Try.prog 80 #[.pointer (some ⟨Bm, 0, none⟩), .pointer (some ⟨Ba, 0, none⟩), .pointer (some ⟨Bb, 0, none⟩)] (Bm :: Ba :: Bb :: Kq) (pairsG (gapsL a b (within a b L))) w0 := by
  intro n l M J Jx W hn hs hK hM fJ fJx hY hj0
  refine callsIn_wide.2 ((callsIn_wide (n := 1000)).1 ?_)
  refine callsIn_of_wp_marks Try.func80 rfl trivial ?_ rfl
  simp only [Try.ntmps80, List.size_toArray, List.length_cons, List.length_nil, Nat.reduceAdd, Nat.reduceSub, Array.replicate_succ, Array.replicate_zero, List.push_toArray, List.append_toArray, List.nil_append, List.cons_append]
  have hx0 : Ext [] W ((W.alloc (.cells #[.func (.yield l) #[] #[]] 122)).alloc (.cells #[.int .i64 (a : Int)] 3)) := ((Ext.refl _ _).alloc _).alloc _
  have hit00 := (It.refl M W).step (D := []) ((Ext.refl [] W).alloc (.cells #[.func (.yield l) #[] #[]] 122)) (by simp)
  have hit0 := (It.refl M W).step (D := []) hx0 (by simp)
  have d0 := (hit00.blk hK hM (by simp) h0).cell 0
  have d1 := (hit00.blk hK hM (by simp) ha).cell 0
  have d2 := (hit00.blk hK hM (by simp) hb).cell 0
  have c0 := (hit0.blk hK hM (by simp) h0).cell 0
  have c1 := (hit0.blk hK hM (by simp) ha).cell 0
  have c2 := (hit0.blk hK hM (by simp) hb).cell 0
  have hkq : ∀ w', Ext [] W w' → ∀ q, q ∈ Kq → w'.heap[q]? = w0.heap[q]? := fun w' hx q hq => by
    have hm : q ∈ Bm :: Ba :: Bb :: Kq := by simp [hq]
    rw [hx.block q (by have := (hK q hm).1; omega) (by simp)]; exact (hK q hm).2
  have CI := Lib.hid (hm _ (hkq _ ((Ext.refl [] W).alloc (.cells #[.func (.yield l) #[] #[]] 122))))
  have hmay : mayB a b = true := by simp [mayB]; omega
  have CM := Lib.hid (show ∀ w, Calls Try.prog 75 #[.int .i64 (a : Int), .int .i64 (b : Int)] w fun e w' => e = .returned (.bool true) ∧ w = w' from fun w => by
    have h := may_c a b w
    rwa [hmay] at h)
  have HKQ := Lib.hid hkq
  have HM := Lib.hid hmay
  have HFJ := Lib.hid fJ
  clear hm hkq hit00 hmay
  gi_wp2_with (first
    | (gi_at_call 66; refine CallsIn.mono (callsIn_of_calls (CI.out)) ?_; rintro e w' ⟨rfl, rfl⟩)
    | (gi_at_call 75; refine CallsIn.mono (callsIn_of_calls (CM.out _)) ?_; rintro e w' ⟨rfl, rfl⟩)
    | (gi_at_call 65; refine CallsIn.mono (callsIn_of_calls (within_c _ _ _ _)) ?_; rintro e w' ⟨rfl, rfl⟩))
  have by_ := (Blk.new W [.func (.yield l) #[] #[]] 122).alloc (.cells #[.int .i64 (a : Int)] 3)
  have bat := Blk.new (W.alloc (.cells #[.func (.yield l) #[] #[]] 122)) [.int .i64 (a : Int)] 3
  rw [World.size_alloc] at bat
  have hs0 : ((W.alloc (.cells #[.func (.yield l) #[] #[]] 122)).alloc (.cells #[.int .i64 (a : Int)] 3)).heap.size = W.heap.size + 2 := by simp
  have bb := hit0.blk hK hM (by simp) hb
  have hA0 := hA.later (HKQ.out _ hx0) (by rw [hs0]; omega)
  have hKo : ∀ q, q ∈ Bm :: Ba :: Bb :: Kq → q < W.heap.size := fun q hq => by have := (hK q hq).1; omega
  have hMo : ∀ q, q ∈ M → q < W.heap.size ∧ q ≠ Bb ∧ q ∉ Kq := fun q hq => by
    have h := (hM q hq).1
    simp at h
    exact ⟨(hM q hq).2, h.2.2.1, h.2.2.2⟩
  have hBb : Bb < W.heap.size := hKo Bb (by simp)
  clear ha hb h0 hK hM c0 c1 c2 d0 d1 d2 hit0 hA
  generalize hW0 : (W.alloc (.cells #[.func (.yield l) #[] #[]] 122)).alloc (.cells #[.int .i64 (a : Int)] 3) = W0 at *
  clear hW0
  have hx3 : Ext [] W0 (((W0.alloc (.cells #[.pointer p] 51)).alloc (.cells #[.int .i64 (a : Int)] 3)).alloc (.cells #[.int .i64 (b : Int)] 3)) := (((Ext.refl _ _).alloc _).alloc _).alloc _
  obtain ⟨Kp, hKp, hit⟩ := within_it hA0 (a : Int) (b : Int)
  have hwl : withinL L (a : Int) (b : Int) = within a b L := by
    unfold withinL
    rw [HM.out, if_pos rfl]
    have e1 : (a : Int).toNat = a := by omega
    have e2 : (b : Int).toNat = b := by omega
    rw [e1, e2]
  rw [hwl] at hit
  generalize hLL : within a b L = LL at *
  have HLL := Lib.hid hLL
  replace by_ := by_.ext hx3 (by simp)
  replace bat := bat.ext hx3 (by simp)
  replace bb := bb.ext hx3 (by simp)
  have hs1 : (((W0.alloc (.cells #[.pointer p] 51)).alloc (.cells #[.int .i64 (a : Int)] 3)).alloc (.cells #[.int .i64 (b : Int)] 3)).heap.size = W.heap.size + 5 := by simp; omega
  have hx1 : Ext [] W (((W0.alloc (.cells #[.pointer p] 51)).alloc (.cells #[.int .i64 (a : Int)] 3)).alloc (.cells #[.int .i64 (b : Int)] 3)) := hx0.trans hx3
  have hkl := hA0.lt
  simp only [hs0] at hKp hit hkl ⊢
  generalize (((W0.alloc (.cells #[.pointer p] 51)).alloc (.cells #[.int .i64 (a : Int)] 3)).alloc (.cells #[.int .i64 (b : Int)] 3)) = W1 at *
  clear hwl hLL hx0 hx3 hA0 hs0
  have hvl : (vals LL).length = LL.length := by simp [vals]
  refine wpIn_range (by omega) rfl (Go.Proofs.enters_of Try.func77 (by kernel_rfl) rfl) hit (by simp [vals]) ((W.heap.size + 1) :: M) (GapI J (W.heap.size + 1) a LL) (GapX Jx (pairsG (gapsL a b LL)).length) ?fI ?fIx ?hM (Nat.le_refl _) ?hK ?h0 ?round ?done ?stop
  case fI => exact fun i X A B h hk => ⟨fJ _ X A B h.1 (fun q hq => hk q (hq.imp (fun h => by simp [h]) id)), (hk _ (.inl (by simp)) h.2.lt).trans h.2⟩
  case fIx => rintro c i X A B ⟨rfl, j, hj, h⟩ hk; exact ⟨rfl, j, hj, fJx _ X A B h (fun q hq => hk q (hq.imp (fun h => by simp [h]) id))⟩
  case hM =>
    intro q hq
    rcases List.mem_cons.1 hq with rfl | hq
    · refine ⟨by omega, fun h => ?_⟩
      rcases hKp _ h with h | h
      · have := hKo (W.heap.size + 1) (by simp [h]); omega
      · omega
    · have h := hMo q hq
      refine ⟨by omega, fun h' => ?_⟩
      rcases hKp _ h' with h' | h'
      · exact h.2.2 h'
      · omega
  case hK =>
    intro q hq
    rcases hKp _ hq with h | h
    · have := hKo q (by simp [h]); exact ⟨by omega, rfl⟩
    · exact ⟨by omega, rfl⟩
  case h0 => exact ⟨fJ _ _ _ _ hj0 (fun q _ hlt => hx1.block q hlt (by simp)), bat⟩
  case round =>
    intro l' i hi X Wr hI hx hX hl' hlW
    have hiL : i < LL.length := by omega
    rw [show (vals LL)[i] = #[.agg (cells LL[i]).toArray] by simp [vals]]
    obtain ⟨x, hxd⟩ : ∃ x, x = LL[i] := ⟨_, rfl⟩
    have hts := take_snoc hiL
    have hat := fun h => gUp_at (a := a) hiL h b
    rw [← hxd] at hts hat ⊢
    have HE := Lib.hid (show gUp a (LL.take (i + 1)) = gUp a (LL.take i) ++ (if gAt a (LL.take i) < x.f then [(gAt a (LL.take i), x.f)] else []) by rw [hts, gUp_snoc])
    have HT := Lib.hid (show gAt a (LL.take (i + 1)) = x.t by rw [hts, gAt_snoc])
    have hxr : Ext [] Wr (Wr.alloc (.cells (cells x).toArray 97)) := (Ext.refl _ _).alloc _
    have hbx := Blk.new Wr (cells x) 97
    obtain ⟨hIJ, hIB⟩ := hI
    have HI := Lib.hid hIJ
    obtain ⟨xf, xt, xv⟩ := x
    unfold cells at hxr hbx ⊢
    have HXR := Lib.hid hxr
    clear hxd hts hIJ hxr
    unfold RoundX
    gi_wp2
    refine ⟨HXR.out, fun W₂ r hx2 hs2 hr => ?_⟩
    have hxr := HXR.out
    have HR := Lib.hid hr
    have h12 : Ext (l' :: (W.heap.size + 1) :: M) W1 W₂ := (((hx.mono (N := l' :: (W.heap.size + 1) :: M) (fun k hk => .inl (by rcases List.mem_cons.1 hk with rfl | hk <;> simp [*]))).trans (hxr.mono (by simp))).trans (hx2.mono (by simp)))
    have hs3 : W₂.heap.size = Wr.heap.size + 1 := by simpa using hs2
    have hold : ∀ {q cs t}, Blk W1 q cs t → q ∉ M → q ≠ W.heap.size + 1 → Blk W₂ q cs t := fun {q cs t} h hq hq2 => h.ext h12 (by simp; exact ⟨by have := h.lt; omega, hq2, hq⟩)
    have hnM : ∀ q, (q = Bb ∨ q = W.heap.size) → q ∉ M := fun q hq hm => by
      have h := hMo q hm
      rcases hq with rfl | rfl
      · exact h.2.1 rfl
      · omega
    have kb := (hold bb (hnM _ (.inl rfl)) (by omega)).cell 0
    have hY2 := hold by_ (hnM _ (.inr rfl)) (by omega)
    have ky := hY2.cell 0
    have hB2 := (hIB.ext hxr (by simp)).ext hx2 (by simp; omega)
    have kt := hB2.cell 0
    have ft := hB2.frozen 0
    have HB2 := Lib.hid hB2
    have hbx2 := hbx.ext hx2 (by simp; omega)
    have HBX2 := Lib.hid hbx2
    have kx0 := hbx2.cell 0
    have kx1 := hbx2.cell 1
    (try simp only [] at hat HE HT)
    have HX2 := Lib.hid hx2
    by_cases hlt : gAt a (LL.take i) < xf
    · have hj := hat hlt
      rw [if_pos hlt] at HE
      generalize gAt a (LL.take i) = at_ at *
      have hxl : Ext [l'] Wr W₂ := ((hxr.mono (N := [l']) (by simp)).trans hx2)
      have hJ3 := fJ _ X Wr _ HI.out (fun q hq hlq => hxl.block q hlq (by
        simp
        rcases hq with hq | hq
        · have := (hMo q hq).1; omega
        · exact (hX q hq).2.2))
      have hX3 : Ext M W W₂ := (((hx1.mono (N := M) (by simp)).step hx (fun k hk => by simp at hk; rcases hk with rfl | hk; exact .inr (by omega); exact .inl hk))).step hxl (fun k hk => .inr (by simp at hk; omega))
      have hyat : (pairsG (gapsL a b LL))[(gUp a (LL.take i)).length]? = some #[.int .i64 (at_ : Int), .int .i64 (xf : Int)] := by
        unfold pairsG; rw [List.getElem?_map, hj]; rfl
      obtain ⟨fn, tmps, assign, body, hy, hR⟩ := yield_in l' (1000 - 2 - 1) hyat (fun h => hY _ h X _ hJ3 hX3 (fun q hq => ⟨by have := (hX q hq).1; omega, by have := (hX q hq).2.1; omega⟩))
      have HLEN := Lib.hid (show (gUp a (LL.take i)).length + 1 ≤ (pairsG (gapsL a b LL)).length from (List.getElem?_eq_some_iff.1 hyat).1)
      clear hj hat hJ3 hX3 hyat hY hold hbx2 hbx hit fJ fJx hr hxr bb by_ bat hB2 hIB hxl hY2
      gi_wp2
      refine RoundIn.mono hR ?_
      clear hR hy kt ft kx0 kx1
      rintro e W' ⟨hx', X', hX', (⟨rfl, hJ'⟩ | ⟨rfl, hJ'⟩)⟩
      · have hbn : W.heap.size + 1 ∉ M ++ X := by
          intro h
          rcases List.mem_append.1 h with h | h
          · have := (hMo _ h).1; omega
          · have := (hX _ h).1; omega
        have hB3 := HB2.out.ext hx' hbn
        have ft := hB3.frozen 0
        have kt := hB3.cell 0
        have hxn : Wr.heap.size ∉ M ++ X := by
          intro h
          rcases List.mem_append.1 h with h | h
          · have := (hMo _ h).1; omega
          · have := (hX _ h).2.1; omega
        have kx1 := (HBX2.out.ext hx' hxn).cell 1
        have HB3 := Lib.hid hB3
        clear hB3
        gi_wp2
        refine ⟨X', RoundEnd.of (N := (W.heap.size + 1) :: (M ++ X)) HXR.out HX2.out HR.out ((hx'.mono (fun k hk => .inl (List.mem_cons_of_mem _ hk))).setCell _ _ (.inl (by simp))) (fun k hk => ?_) (fun q hq => ?_), ?_⟩
        · rcases List.mem_cons.1 hk with rfl | hk
          · exact ⟨.inl (by simp), by omega⟩
          rcases List.mem_append.1 hk with hk | hk
          · exact ⟨.inl (by simp [hk]), by have := (hMo k hk).1; omega⟩
          · exact ⟨.inr (.inl hk), (hX k hk).2.2⟩
        · refine ⟨?_, by rw [size_setCell]; exact (hX' q hq).2⟩
          rcases (hX' q hq).1 with h | h
          · exact .inl h
          · exact .inr (by omega)
        · refine ⟨?_, ?_⟩
          · show J (gUp a (LL.take (i + 1))).length X' _
            rw [HE.out, List.length_append]
            refine HFJ.out _ X' W' _ hJ' (fun q hq hlq => ?_)
            refine Below.heap_setCell _ _ _ _ ?_
            rcases hq with hq | hq
            · have := (hMo q hq).1; show q ≠ W.heap.size + 1; omega
            · show q ≠ W.heap.size + 1
              rcases (hX' q hq).1 with h | h
              · have := (hX q h).1; omega
              · omega
          · rw [HT.out]; exact HB3.out.set 0 _
      · gi_wp2
        refine ⟨X', RoundEnd.of (N := M ++ X) HXR.out HX2.out HR.out hx' (fun k hk => ?_) (fun q hq => ?_), rfl, _, HLEN.out, hJ'⟩
        · rcases List.mem_append.1 hk with hk | hk
          · exact ⟨.inl (by simp [hk]), by have := (hMo k hk).1; omega⟩
          · exact ⟨.inr (.inl hk), (hX k hk).2.2⟩
        · refine ⟨?_, (hX' q hq).2⟩
          rcases (hX' q hq).1 with h | h
          · exact .inl h
          · exact .inr (by omega)
    · rw [if_neg hlt, List.append_nil] at HE
      generalize gAt a (LL.take i) = at_ at *
      clear hat hY hold hbx2 hbx hit hr hxr bb by_ bat hB2 hIB hY2
      gi_wp2
      refine ⟨X, RoundEnd.of (N := [W.heap.size + 1]) HXR.out HX2.out HR.out ((Ext.refl _ _).setCell _ _ (.inl (by simp))) (fun k hk => ⟨.inl (by simp at hk; simp [hk]), by simp at hk; omega⟩) (fun q hq => ⟨.inl hq, by rw [size_setCell]; have := (hX q hq).2.1; omega⟩), ?_, ?_⟩
      · show J (gUp a (LL.take (i + 1))).length X _
        rw [HE.out]
        have hxl : Ext [l', W.heap.size + 1] Wr (W₂.setCell ⟨W.heap.size + 1, 0, none⟩ (.int .i64 (xt : Int))) := ((HXR.out.mono (by simp)).trans (HX2.out.mono (by simp))).setCell _ _ (.inl (by simp))
        exact fJ _ X Wr _ HI.out (fun q hq hlq => hxl.block q hlq (by
          simp
          rcases hq with hq | hq
          · have := (hMo q hq).1; omega
          · exact ⟨(hX q hq).2.2, by have := (hX q hq).1; omega⟩))
      · rw [HT.out]; exact HB2.out.set 0 _
  case done =>
    intro D X Wd hD hE hI hx hX
    obtain ⟨hIJ, hIB⟩ := hI
    rw [hvl, List.take_length] at hIJ hIB
    have hxW : Ext M W Wd := (hx1.mono (N := M) (by simp)).step hx (fun k hk => by simp at hk; rcases hk with rfl | hk; exact .inr (by omega); exact .inl hk)
    have hnM : Bb ∉ M := fun hm => (hMo _ hm).2.1 rfl
    have hnM2 : W.heap.size ∉ M := fun hm => by have := (hMo _ hm).1; omega
    have kb := (bb.ext hx (by simp; exact ⟨by omega, hnM⟩)).cell 0
    have hY2 := by_.ext hx (by simp; exact hnM2)
    have ky := hY2.cell 0
    have kt := hIB.cell 0
    have HE := Lib.hid (show gapsL a b LL = gUp a LL ++ (if gAt a LL < b then [(gAt a LL, b)] else []) from rfl)
    have HJ := Lib.hid hIJ
    by_cases hlt : gAt a LL < b
    · rw [if_pos hlt] at HE
      have hyat : (pairsG (gapsL a b LL))[(gUp a LL).length]? = some #[.int .i64 (gAt a LL : Int), .int .i64 (b : Int)] := by
        unfold pairsG; rw [List.getElem?_map, HE.out, List.getElem?_append_right (Nat.le_refl _), Nat.sub_self]; rfl
      obtain ⟨fn, tmps, assign, body, hy, hR⟩ := yield_w (1000 - 1) hyat (fun h => hY _ h X _ hIJ hxW (fun q hq => ⟨by have := (hX q hq).1; omega, (hX q hq).2.1⟩))
      have HLEN := Lib.hid (show (pairsG (gapsL a b LL)).length = (gUp a LL).length + 1 by unfold pairsG; rw [HE.out]; simp)
      generalize gAt a LL = at_ at *
      clear hit hY hyat hIJ hY2 hIB bb by_ bat
      gi_wp2
      refine RoundIn.mono hR ?_
      clear hR hy
      rintro e W' ⟨hx', X', hX', he⟩
      have hD' : D ∉ M ++ X := by
        intro h
        rcases List.mem_append.1 h with h | h
        · have := (hMo _ h).1; omega
        · exact (hX _ h).2.2 rfl
      have HE' := Lib.hid (show Emp W' D from hx'.keep hE hD')
      have hdl := heap_lt hE
      have hnx : ∀ q, q ∈ X' → W.heap.size ≤ q ∧ q < W'.heap.size ∧ q ≠ D := fun q hq => by
        rcases (hX' q hq).1 with h | h
        · exact ⟨by have := (hX q h).1; omega, (hX' q hq).2, (hX q h).2.2⟩
        · exact ⟨by have := hxW.size; omega, (hX' q hq).2, by omega⟩
      rcases he with ⟨rfl, hJ'⟩ | ⟨rfl, hJ'⟩
      all_goals
        have HJ' := Lib.hid hJ'
        clear hJ' hE
        gi_wp2
        refine leaves_marks [D] _ (by simpa using HE'.out) (by simp) (fun w' hx2 hs' => ⟨_, results_none rfl _ _ _, ⟨_, rfl⟩, ?_, X', fun q hq => ⟨(hnx q hq).1, by have := (hnx q hq).2.1; omega⟩, ?_⟩)
        · exact (hxW.step hx' (fun k hk => by
            rcases List.mem_append.1 hk with hk | hk
            · exact .inl hk
            · exact .inr (by have := (hX k hk).1; omega))).step hx2 (fun k hk => .inr (by simp at hk; omega))
        · first
            | exact .inl (by rw [HLL.out, HLEN.out]; exact fJ _ X' W' _ HJ'.out (fun q hq hlq => hx2.block q hlq (by
                simp
                rcases hq with hq | hq
                · have := (hMo q hq).1; omega
                · exact (hnx q hq).2.2)))
            | exact .inr ⟨_, by rw [HLL.out, HLEN.out]; exact Nat.le_refl _, fJx _ X' W' _ HJ'.out (fun q hq hlq => hx2.block q hlq (by
                simp
                rcases hq with hq | hq
                · have := (hMo q hq).1; omega
                · exact (hnx q hq).2.2))⟩
    · rw [if_neg hlt, List.append_nil] at HE
      generalize gAt a LL = at_ at *
      clear hit hY hIJ hY2 hIB bb by_ bat
      gi_wp2
      refine leaves_marks [D] _ (by simpa using hE) (by simp) (fun w' hx' hs' => ⟨_, results_none rfl _ _ _, ⟨_, rfl⟩, ?_, X, fun q hq => ⟨by have := (hX q hq).1; omega, by have := (hX q hq).2.1; omega⟩, .inl ?_⟩)
      · exact hxW.step hx' (fun k hk => .inr (by simp at hk; omega))
      · have hpl : (pairsG (gapsL a b LL)).length = (gUp a LL).length := by unfold pairsG; rw [HE.out]; simp
        rw [HLL.out, hpl]
        exact fJ _ X Wd _ HJ.out (fun q hq hlq => hx'.block q hlq (by
          simp
          rcases hq with hq | hq
          · have := (hMo q hq).1; omega
          · exact (hX q hq).2.2))
  case stop =>
    rintro D c i X Wd hD hE hi ⟨rfl, j, hj, hJ⟩ hx hX
    clear hit hY
    gi_wp2
    refine leaves_marks [D] _ (by simpa using hE) (by simp) (fun w' hx' hs' => ⟨_, results_none rfl _ _ _, ⟨_, rfl⟩, ?_, X, fun q hq => ⟨by have := (hX q hq).1; omega, by have := (hX q hq).2.1; omega⟩, .inr ⟨j, by rw [HLL.out]; exact hj, ?_⟩⟩)
    · exact ((hx1.mono (N := M) (by simp)).step hx (fun k hk => by simp at hk; rcases hk with rfl | hk; exact .inr (by omega); exact .inl hk)).step hx' (fun k hk => .inr (by simp at hk; omega))
    · exact fJx _ X Wd _ hJ (fun q hq hlq => hx'.block q hlq (by
        simp
        rcases hq with hq | hq
        · have := (hMo q hq).1; omega
        · exact (hX q hq).2.2))

theorem gaps_c (p : Option Addr) (a b : Int) (w : World) : Calls Try.prog 76 #[.pointer p, .int .i64 a, .int .i64 b] w fun e w' =>
    e = .returned (.func (.func 80) #[] #[.pointer (some ⟨w.heap.size, 0, none⟩), .pointer (some ⟨w.heap.size + 1, 0, none⟩), .pointer (some ⟨w.heap.size + 2, 0, none⟩)]) ∧
      w' = ((w.alloc (.cells #[.pointer p] 51)).alloc (.cells #[.int .i64 a] 3)).alloc (.cells #[.int .i64 b] 3) := by
  go_enter Try.func76, Try.ntmps76
  go_wp2
  go_ret
  exact ⟨rfl, rfl⟩

end Go.Proofs.Ytjicpblncfgiaaa.SpU
