/-
  Region: turned, of a protect and a bind that go well. WRITTEN BY gen_rgk.py.
-/
import Derived.Test.YtjicpblncfgiaaaRgJ
import Derived.Stop.RegionWithIn
import Derived.BigRegionIn
import Derived.Sort.QuietIn
namespace Go.Proofs.Ytjicpblncfgiaaa
set_option linter.unusedVariables false
set_option linter.unusedSimpArgs false
open Go.RowKit RgT SpT
set_option maxHeartbeats 4000000
set_option maxRecDepth 100000
set_option linter.unusedVariables false
set_option linter.unusedSimpArgs false

theorem has_take {xs : List (Sp U)} {i p : Nat} {v : U} (h : Has (xs.take i) p v) : Has xs p v := by
  obtain ⟨x, hx, r⟩ := h
  exact ⟨x, List.mem_of_mem_take hx, r⟩
theorem modL_len {g : U → U} {L : List (Sp U)} {f : Nat → Option U} (h : Tie L f) {a b : Nat} (hab : a < b) (hb : b ≤ 4096) (i : Nat) : (modL g L ((SpU.withinL L (a : Int) (b : Int)).take i)).length ≤ 4096 := by
  rw [withinL_nat hab hb]
  obtain ⟨w1, w2⟩ := within_ok (a := a) (b := b) h.1
  obtain ⟨f1, t1, _⟩ := modL_ok (g := g) (f := f) ((within a b L).take i) L f h (fun x hx => w1.1 x (List.mem_of_mem_take hx)) (fun p v hp => (h.2 p v).1 ((w2 p v).1 (has_take hp)).1)
  exact t1.len
/-- The map in the making: its row lies in blocks that are named. -/
def MapM (W : World) (bm : Nat) (M X : List Nat) (l : List (Sp U)) : Prop := ∃ v, Blk W bm [v, .bool true] 121 ∧ SpU.SRow W 0 v l ∧ ∀ b, v.ownBlock = some b → b ∈ M ∨ b ∈ X
theorem MapM.is {W : World} {bm : Nat} {M X : List Nat} {l : List (Sp U)} (h : MapM W bm M X l) : SpU.MapIs W bm l := by obtain ⟨v, h1, h2, _⟩ := h; exact ⟨v, h1, h2⟩
theorem MapM.foot {W W' : World} {bm : Nat} {M X : List Nat} {l : List (Sp U)} (h : MapM W bm M X l) (hb : bm ∈ M) (hk : ∀ b, b ∈ M ∨ b ∈ X → b < W.heap.size → W'.heap[b]? = W.heap[b]?) : MapM W' bm M X l := by
  obtain ⟨v, h1, h2, h3⟩ := h
  exact ⟨v, (hk bm (.inl hb) h1.lt).trans h1, ownsRow_of_block h2 (fun b hb' => hk b (h3 b hb') (h2.lt b hb').2), h3⟩
theorem MapM.of {W : World} {B bm : Nat} {M : List Nat} {l : List (Sp U)} (h : SpU.MapN W B bm l) : ∃ X, MapM W bm M X l ∧ ∀ b, b ∈ X → B ≤ b ∧ b < W.heap.size := by
  obtain ⟨v, h1, h2⟩ := h
  exact ⟨own v, ⟨v, h1, ownsRow_base h2 (Nat.zero_le _), fun b hb => .inr (mem_own hb)⟩, fun b hb => h2.lt b (of_mem_own hb)⟩
theorem MapM.start {W : World} {B bm : Nat} {l : List (Sp U)} (h : SpU.MapN W B bm l) : ∃ O, (∀ b, b ∈ O → B ≤ b ∧ b < W.heap.size) ∧ MapM W bm (bm :: O) [] l := by
  obtain ⟨v, h1, h2⟩ := h
  exact ⟨own v, fun b hb => h2.lt b (of_mem_own hb), v, h1, ownsRow_base h2 (Nat.zero_le _), fun b hb => .inl (List.mem_cons_of_mem _ (mem_own hb))⟩
def ModI (mp : Nat) (M : List Nat) (g : U → U) (L LL : List (Sp U)) (i : Nat) (X : List Nat) (W : World) : Prop := MapM W mp M X (modL g L (LL.take i))

theorem turned3_ok (w : World) (sp mp : Nat) (nodes : Int) (L : List (Sp U)) (h : SpIs w sp mp nodes L) (pg n pm pk pn ad by_ : Int) (hr : rangeS pg n = 0) (hm : (SpU.gapsB L pg (pg + n)).isEmpty = true) (f : Nat → Option U) (hT : Tie L f) :
    Calls Try.prog 42 #[.pointer (some ⟨sp, 0, none⟩), .agg #[.int .i64 3, .int .i64 pg, .int .i64 n, .int .i64 pm, .int .i64 pk, .int .i64 pn, .int .i64 ad, .int .i64 by_]] w (TurnedOk w (modL (fun u => (pm, u.2)) L (SpU.withinL L pg (pg + n)))) := by
  obtain ⟨g0, g1, g2, g3, hw, hmay⟩ := rangeS_yes hr
  obtain ⟨to, hto⟩ : ∃ to, pg + n = to := ⟨_, rfl⟩
  have hwt : IntKind.i64.wrap (pg + n) = to := by rw [hw, hto]
  rw [hto] at hmay hm
  try rw [hto]
  clear hw
  have B0 := Blk.new w [.int .i64 3, .int .i64 pg, .int .i64 n, .int .i64 pm, .int .i64 pk, .int .i64 pn, .int .i64 ad, .int .i64 by_] 39
  have b0 := B0.cell 0
  have b1 := B0.cell 1
  have b2 := B0.cell 2
  have hx1 : ∀ q, Ext [] w ((w.alloc (.cells #[.int .i64 3, .int .i64 pg, .int .i64 n, .int .i64 pm, .int .i64 pk, .int .i64 pn, .int .i64 ad, .int .i64 by_] 39)).drewN q) := fun q => ((Ext.refl _ _).alloc _).drewN _
  have hb1 := fun q => B0.ext ((Ext.refl [] _).drewN q) (by simp)
  have HX := Lib.hid hx1
  have HB := Lib.hid hb1
  have HL := Lib.hid h.len
  have HS := Lib.hid (fun q => h.ext0 (hx1 q))
  have HMAY := Lib.hid hmay
  have HTO := Lib.hid hto
  have HMT := Lib.hid hm
  have HML : Hid (∀ i, (modL (fun u => (pm, u.2)) L ((SpU.withinL L pg to).take i)).length ≤ 4096) := by
    show ∀ i, _
    obtain ⟨a, ha⟩ := Int.eq_ofNat_of_zero_le g0
    obtain ⟨b, hb⟩ := Int.eq_ofNat_of_zero_le (show 0 ≤ to by omega)
    rw [ha, hb]
    exact modL_len hT (by omega) (by omega)
  have HIN : Hid (∀ x, x ∈ SpU.withinL L pg to → SpU.mayB (x.f : Int) (x.t : Int) = true) := by
    show ∀ x, _
    obtain ⟨a, ha⟩ := Int.eq_ofNat_of_zero_le g0
    obtain ⟨b, hb⟩ := Int.eq_ofNat_of_zero_le (show 0 ≤ to by omega)
    rw [ha, hb, withinL_nat (by omega) (by omega)]
    intro x hx
    have := (within_ok (a := a) (b := b) hT.1).1.1 x hx
    exact mayB_nat this.1 this.2
  clear hT hm h hr B0 hx1 hb1 hmay hto
  refine calls_of_callsIn 1000 ?_
  refine callsIn_of_wp_marks Try.func42 rfl trivial ?_ rfl
  simp only [Try.ntmps42, List.size_toArray, List.length_cons, List.length_nil, Nat.reduceAdd, Nat.reduceSub, Array.replicate_succ, Array.replicate_zero, List.push_toArray, List.append_toArray, List.nil_append, List.cons_append]
  gi_wp2
  gi_quiet (fail)
  have HX1 := Lib.hid (HX.out nq)
  have HB1 := Lib.hid (HB.out nq)
  have HS1 := Lib.hid (HS.out nq)
  generalize (w.alloc (.cells #[.int .i64 3, .int .i64 pg, .int .i64 n, .int .i64 pm, .int .i64 pk, .int .i64 pn, .int .i64 ad, .int .i64 by_] 39)).drewN nq = W1 at *
  clear HX HB HS b0 b1 b2
  have b0 := HB1.out.cell 0
  have s1 := HS1.out.head.cell 1
  have CC := Lib.hid (SpU.copy_cn _ mp L HS1.out.map HL.out)
  have HLW := Lib.hid (show w.heap.size < W1.heap.size from HB1.out.lt)
  gi_wp2_with (first
    | (gi_at_call 45; refine CallsIn.mono (callsIn_of_calls CC.out) ?_; rintro e w2 ⟨mp2, rfl, hle, hm, hx⟩; have HX2 := Lib.hid hx; have HLE := Lib.hid hle; have HC2 := Lib.hid (Blk.new w2 [.pointer (some ⟨mp2, 0, none⟩)] 51); have HB2 := Lib.hid ((HB1.out.ext hx (by simp)).alloc (.cells #[.pointer (some ⟨mp2, 0, none⟩)] 51)); have HLT := Lib.hid hm.is.lt; obtain ⟨O, hO, hmm⟩ := MapM.start hm; have HO := Lib.hid hO; have HM2 := Lib.hid (hmm.foot (W' := w2.alloc (.cells #[.pointer (some ⟨mp2, 0, none⟩)] 51)) (by simp) (fun b _ hlt => ((Ext.refl [] w2).alloc _).block b hlt (by simp))); have HS2 := Lib.hid ((HS1.out.ext0 hx).ext0 ((Ext.refl [] w2).alloc (.cells #[.pointer (some ⟨mp2, 0, none⟩)] 51))); clear hm hx hle s1 b0 hO hmm; have b0 := HB2.out.cell 0; have s1 := HS2.out.head.cell 1; have c8 := HC2.out.cell 0)
    | (gi_at_call 64; obtain ⟨Kq, hA, hI⟩ := HM2.out.is.made HL.out; have cm := SpU.covers_yes _ _ Kq L hA hI pg to HMAY.out; rw [HMT.out] at cm; refine CallsIn.mono (callsIn_of_calls cm) ?_; rintro e w3 ⟨rfl, hx⟩; have HX3 := Lib.hid hx; have HC3 := Lib.hid (HC2.out.ext hx (by simp)); have HB3 := Lib.hid (HB2.out.ext hx (by simp)); have HM3 := Lib.hid (HM2.out.foot (W' := w3) (by simp) (fun b _ hlt => hx.block b hlt (by simp))); have HS3 := Lib.hid (HS2.out.ext0 hx); clear hx b0 c8 cm hA hI s1; have s1 := HS3.out.head.cell 1)
    | (gi_at_call 65; refine CallsIn.mono (callsIn_of_calls (SpU.within_c _ _ _ _)) ?_; rintro e w' ⟨rfl, rfl⟩))
  obtain ⟨Kq, hA0⟩ := HS1.out.map.all HL.out
  have hKlt := hA0.lt
  have hx13 : Ext [] W1 w3 := (HX2.out.alloc _).trans HX3.out
  have hA := hA0.ext hx13 (by simp)
  obtain ⟨Kp, hKp, hit⟩ := SpU.within_it hA pg to
  have hx4 : Ext [] w3 ((((w3.alloc (.cells #[.pointer (some ⟨mp, 0, none⟩)] 51)).alloc (.cells #[.int .i64 pg] 3)).alloc (.cells #[.int .i64 to] 3))) := (((Ext.refl _ _).alloc _).alloc _).alloc _
  have hs4 : ((((w3.alloc (.cells #[.pointer (some ⟨mp, 0, none⟩)] 51)).alloc (.cells #[.int .i64 pg] 3)).alloc (.cells #[.int .i64 to] 3))).heap.size = w3.heap.size + 3 := by simp
  have HB4 := Lib.hid (HB3.out.ext hx4 (by simp))
  have HC4 := Lib.hid (HC3.out.ext hx4 (by simp))
  have hM4 := HM3.out.foot (W' := ((((w3.alloc (.cells #[.pointer (some ⟨mp, 0, none⟩)] 51)).alloc (.cells #[.int .i64 pg] 3)).alloc (.cells #[.int .i64 to] 3)))) (by simp) (fun b _ hlt => hx4.block b hlt (by simp))
  have HX4 := Lib.hid ((HX1.out.trans hx13).trans hx4)
  have hs3 := hx13.size
  have hO := HO.out
  have hle := HLE.out
  have hlt := HLT.out
  have hlw := HLW.out
  have hs2 : w2.heap.size + 1 ≤ w3.heap.size := by have := HX3.out.size; simpa using this
  generalize ((((w3.alloc (.cells #[.pointer (some ⟨mp, 0, none⟩)] 51)).alloc (.cells #[.int .i64 pg] 3)).alloc (.cells #[.int .i64 to] 3))) = W4 at *
  have hvl : (SpU.vals (SpU.withinL L pg to)).length = (SpU.withinL L pg to).length := by simp [SpU.vals]
  generalize hl : SpU.withinL L pg to = LL at *
  have HLL := Lib.hid hl
  clear hx4 hA0 hA hl hx13 s1
  refine wpIn_range (by omega) rfl (Go.Proofs.enters_of Try.func77 (by kernel_rfl) rfl) hit (SpU.vals_size _) (mp2 :: O) (ModI mp2 (mp2 :: O) (fun u => (pm, u.2)) L LL) (fun _ _ _ _ => False) ?fI no_foot ?hM (Nat.le_refl _) ?hK ?h0 ?round ?done ?stop
  case fI => exact fun i X A B h hk => h.foot (by simp) hk
  case hM =>
    intro q hq
    have hq2 : W1.heap.size ≤ q ∧ q < w2.heap.size := by
      rcases List.mem_cons.1 hq with rfl | hq
      · exact ⟨hle, hlt⟩
      · exact hO q hq
    refine ⟨by omega, fun h => ?_⟩
    rcases hKp _ h with h | h
    · have := hKlt _ h; omega
    · omega
  case hK =>
    intro q hq
    rcases hKp _ hq with h | h
    · have := hKlt _ h; exact ⟨by omega, rfl⟩
    · exact ⟨by omega, rfl⟩
  case h0 => exact hM4
  case round =>
    rintro l' i hi X Wr hI hx hX hl' hlW
    have hiL : i < LL.length := by omega
    rw [show (SpU.vals LL)[i] = #[.agg (SpU.cells LL[i]).toArray] by simp [SpU.vals]]
    have HMY := Lib.hid (HIN.out LL[i] (List.getElem_mem hiL))
    have HSN := Lib.hid (show modL (fun u => (pm, u.2)) L (LL.take (i + 1)) = SpU.setL (modL (fun u => (pm, u.2)) L (LL.take i)) (LL[i].f : Int) (LL[i].t : Int) ((fun u => (pm, u.2)) LL[i].v) by rw [List.take_succ_eq_append_getElem hiL, modL_snoc])
    have hML := HML.out i
    have hBr := HB4.out.ext hx (by simp; exact ⟨by omega, fun h => by have := hO _ h; omega⟩)
    have hCr := HC4.out.ext hx (by simp; exact ⟨by omega, fun h => by have := hO _ h; omega⟩)
    generalize LL[i] = x at *
    obtain ⟨xf, xt, xp, xk, xn⟩ := x
    generalize hml : modL (fun u => (pm, u.2)) L (LL.take i) = Lm at *
    have HI : Hid (MapM Wr mp2 (mp2 :: O) X Lm) := by rw [← hml]; exact hI
    have HLm := Lib.hid hML
    clear hI hit hml hML
    simp only [] at HMY HSN
    unfold RoundX SpU.cells
    gi_wp2
    refine ⟨(Ext.refl _ _).alloc _, fun W₂ r hx2 hs2' hr => ?_⟩
    have hx12 : Ext [l'] Wr W₂ := ((Ext.refl _ _).alloc _).trans hx2
    have hm2 := HI.out.foot (W' := W₂) (by simp) (fun b hb hlt' => hx12.block b hlt' (by
      simp
      rcases hb with hb | hb
      · rcases List.mem_cons.1 hb with rfl | hb
        · omega
        · have := hO b hb; omega
      · exact (hX b hb).2.2))
    have hBx := (Blk.new Wr [.int .i64 (xf : Int), .int .i64 (xt : Int), .int .i64 xp, .int .i64 xk, .int .i64 xn] 97).ext hx2 (by simp; omega)
    have hsz2 := hx12.size
    have hB2 := hBr.ext hx12 (by simp; omega)
    have hC2 := hCr.ext hx12 (by simp; omega)
    have hB2a := hB2.alloc (.cells #[.int .i64 xp, .int .i64 xk, .int .i64 xn] 93)
    have k0 := hB2a.cell 0
    have k3 := hB2a.cell 3
    have k4 := hB2a.cell 4
    have k5 := hB2a.cell 5
    have c8 := (hC2.alloc (.cells #[.int .i64 pm, .int .i64 xk, .int .i64 xn] 93)).cell 0
    have x0 := (hBx.alloc (.cells #[.int .i64 pm, .int .i64 xk, .int .i64 xn] 93)).cell 0
    have x1 := (hBx.alloc (.cells #[.int .i64 pm, .int .i64 xk, .int .i64 xn] 93)).cell 1
    have x2 := hBx.cell 2
    have x3 := hBx.cell 3
    have x4 := hBx.cell 4
    have n1 : w.heap.size ≠ W₂.heap.size := by omega
    have n2 : w2.heap.size ≠ W₂.heap.size := by omega
    have n3 : Wr.heap.size ≠ W₂.heap.size := by have := hBx.lt; omega
    have HM2' := Lib.hid hm2
    have HR := Lib.hid hr
    have HX2' := Lib.hid hx2
    have hs5 : Wr.heap.size + 1 ≤ W₂.heap.size := by have := hx2.size; simpa using this
    clear hr hm2 hBx hB2 hB2a hC2 hBr hCr hs2'
    gi_wp2_with (gi_at_call 62; refine CallsIn.mono (callsR_of_calls (SpU.set_cn _ mp2 Lm (by first | exact HM2'.out.is.ext0 ((Ext.refl [] _).alloc _) | exact HM2'.out.is.ext0 (((Ext.refl [] _).alloc _).setCell _ _ (.inr (Nat.le_refl _))) | exact HM2'.out.is.ext0 ((((Ext.refl [] _).alloc _).setCell _ _ (.inr (Nat.le_refl _))).setCell _ _ (.inr (Nat.le_refl _)))) HLm.out (xf : Int) (xt : Int) (pm, xk, xn) HMY.out)) ?_; rintro e w5 ⟨rfl, hx5, hm5⟩; have HX5 := Lib.hid hx5; have HM5 := Lib.hid hm5; clear hx5 hm5)
    obtain ⟨X', hm', hX'⟩ := MapM.of (M := mp2 :: O) HM5.out
    refine ⟨X', RoundEnd.of (N := [mp2]) ((Ext.refl _ _).alloc _) HX2'.out HR.out (((Ext.refl [mp2] W₂).alloc _).trans HX5.out) (fun q hq => ?_) (fun q hq => ?_), ?_⟩
    · have hq' : q = mp2 := by simpa using hq
      rw [hq']
      exact ⟨.inl (by simp), by omega⟩
    · have h5 := hX' q hq
      rw [World.size_alloc] at h5
      exact ⟨.inr (by omega), h5.2⟩
    · show MapM w5 mp2 (mp2 :: O) X' (modL (fun u => (pm, u.2)) L (LL.take (i + 1)))
      rw [HSN.out]
      exact hm'
  case done =>
    rintro D X Wd hD hE hI hx hX
    have hCd := HC4.out.ext hx (by simp; exact ⟨by omega, fun h => by have := hO _ h; omega⟩)
    have c8 := hCd.cell 0
    have hI' : MapM Wd mp2 (mp2 :: O) X (modL (fun u => (pm, u.2)) L LL) := by
      have h : MapM Wd mp2 (mp2 :: O) X (modL (fun u => (pm, u.2)) L (LL.take (SpU.vals LL).length)) := hI
      rwa [hvl, List.take_length] at h
    have HI := Lib.hid hI'
    clear hI hI' hit
    gi_wp2
    refine leaves_marks [D] _ (by simpa using hE) (by simp) (fun w' hx' hs' => ⟨.tuple #[.pointer (some ⟨mp2, 0, none⟩), .int .i64 0], ?_, mp2, rfl, ?_, ?_, ?_⟩)
    · simp [results, Try.results42, go_sem]
    · exact (HX4.out.step hx (fun k hk => .inr (by
        rcases List.mem_cons.1 hk with rfl | hk
        · omega
        · have := hO _ hk; omega))).step hx' (fun k hk => .inr (by simp at hk; omega))
    · rw [HLL.out]
      exact (HI.out.foot (W' := w') (by simp) (fun b hb hlt' => hx'.block b hlt' (by
        simp
        rcases hb with hb | hb
        · rcases List.mem_cons.1 hb with rfl | hb
          · omega
          · have := hO b hb; omega
        · exact (hX b hb).2.2))).is
    · omega
  case stop =>
    rintro D c i X Wd hD hE hi h hx hX
    exact h.elim

theorem turned4_ok (w : World) (sp mp : Nat) (nodes : Int) (L : List (Sp U)) (h : SpIs w sp mp nodes L) (pg n pm pk pn ad by_ : Int) (hr : rangeS pg n = 0) (hm : (SpU.gapsB L pg (pg + n)).isEmpty = true) (f : Nat → Option U) (hT : Tie L f) :
    Calls Try.prog 42 #[.pointer (some ⟨sp, 0, none⟩), .agg #[.int .i64 4, .int .i64 pg, .int .i64 n, .int .i64 pm, .int .i64 pk, .int .i64 pn, .int .i64 ad, .int .i64 by_]] w (TurnedOk w (modL (fun u => (u.1, (pk, pn))) L (SpU.withinL L pg (pg + n)))) := by
  obtain ⟨g0, g1, g2, g3, hw, hmay⟩ := rangeS_yes hr
  obtain ⟨to, hto⟩ : ∃ to, pg + n = to := ⟨_, rfl⟩
  have hwt : IntKind.i64.wrap (pg + n) = to := by rw [hw, hto]
  rw [hto] at hmay hm
  try rw [hto]
  clear hw
  have B0 := Blk.new w [.int .i64 4, .int .i64 pg, .int .i64 n, .int .i64 pm, .int .i64 pk, .int .i64 pn, .int .i64 ad, .int .i64 by_] 39
  have b0 := B0.cell 0
  have b1 := B0.cell 1
  have b2 := B0.cell 2
  have hx1 : ∀ q, Ext [] w ((w.alloc (.cells #[.int .i64 4, .int .i64 pg, .int .i64 n, .int .i64 pm, .int .i64 pk, .int .i64 pn, .int .i64 ad, .int .i64 by_] 39)).drewN q) := fun q => ((Ext.refl _ _).alloc _).drewN _
  have hb1 := fun q => B0.ext ((Ext.refl [] _).drewN q) (by simp)
  have HX := Lib.hid hx1
  have HB := Lib.hid hb1
  have HL := Lib.hid h.len
  have HS := Lib.hid (fun q => h.ext0 (hx1 q))
  have HMAY := Lib.hid hmay
  have HTO := Lib.hid hto
  have HMT := Lib.hid hm
  have HML : Hid (∀ i, (modL (fun u => (u.1, (pk, pn))) L ((SpU.withinL L pg to).take i)).length ≤ 4096) := by
    show ∀ i, _
    obtain ⟨a, ha⟩ := Int.eq_ofNat_of_zero_le g0
    obtain ⟨b, hb⟩ := Int.eq_ofNat_of_zero_le (show 0 ≤ to by omega)
    rw [ha, hb]
    exact modL_len hT (by omega) (by omega)
  have HIN : Hid (∀ x, x ∈ SpU.withinL L pg to → SpU.mayB (x.f : Int) (x.t : Int) = true) := by
    show ∀ x, _
    obtain ⟨a, ha⟩ := Int.eq_ofNat_of_zero_le g0
    obtain ⟨b, hb⟩ := Int.eq_ofNat_of_zero_le (show 0 ≤ to by omega)
    rw [ha, hb, withinL_nat (by omega) (by omega)]
    intro x hx
    have := (within_ok (a := a) (b := b) hT.1).1.1 x hx
    exact mayB_nat this.1 this.2
  clear hT hm h hr B0 hx1 hb1 hmay hto
  refine calls_of_callsIn 1000 ?_
  refine callsIn_of_wp_marks Try.func42 rfl trivial ?_ rfl
  simp only [Try.ntmps42, List.size_toArray, List.length_cons, List.length_nil, Nat.reduceAdd, Nat.reduceSub, Array.replicate_succ, Array.replicate_zero, List.push_toArray, List.append_toArray, List.nil_append, List.cons_append]
  gi_wp2
  gi_quiet (fail)
  have HX1 := Lib.hid (HX.out nq)
  have HB1 := Lib.hid (HB.out nq)
  have HS1 := Lib.hid (HS.out nq)
  generalize (w.alloc (.cells #[.int .i64 4, .int .i64 pg, .int .i64 n, .int .i64 pm, .int .i64 pk, .int .i64 pn, .int .i64 ad, .int .i64 by_] 39)).drewN nq = W1 at *
  clear HX HB HS b0 b1 b2
  have b0 := HB1.out.cell 0
  have s1 := HS1.out.head.cell 1
  have CC := Lib.hid (SpU.copy_cn _ mp L HS1.out.map HL.out)
  have HLW := Lib.hid (show w.heap.size < W1.heap.size from HB1.out.lt)
  gi_wp2_with (first
    | (gi_at_call 45; refine CallsIn.mono (callsIn_of_calls CC.out) ?_; rintro e w2 ⟨mp2, rfl, hle, hm, hx⟩; have HX2 := Lib.hid hx; have HLE := Lib.hid hle; have HC2 := Lib.hid (Blk.new w2 [.pointer (some ⟨mp2, 0, none⟩)] 51); have HB2 := Lib.hid ((HB1.out.ext hx (by simp)).alloc (.cells #[.pointer (some ⟨mp2, 0, none⟩)] 51)); have HLT := Lib.hid hm.is.lt; obtain ⟨O, hO, hmm⟩ := MapM.start hm; have HO := Lib.hid hO; have HM2 := Lib.hid (hmm.foot (W' := w2.alloc (.cells #[.pointer (some ⟨mp2, 0, none⟩)] 51)) (by simp) (fun b _ hlt => ((Ext.refl [] w2).alloc _).block b hlt (by simp))); have HS2 := Lib.hid ((HS1.out.ext0 hx).ext0 ((Ext.refl [] w2).alloc (.cells #[.pointer (some ⟨mp2, 0, none⟩)] 51))); clear hm hx hle s1 b0 hO hmm; have b0 := HB2.out.cell 0; have s1 := HS2.out.head.cell 1; have c8 := HC2.out.cell 0)
    | (gi_at_call 64; obtain ⟨Kq, hA, hI⟩ := HM2.out.is.made HL.out; have cm := SpU.covers_yes _ _ Kq L hA hI pg to HMAY.out; rw [HMT.out] at cm; refine CallsIn.mono (callsIn_of_calls cm) ?_; rintro e w3 ⟨rfl, hx⟩; have HX3 := Lib.hid hx; have HC3 := Lib.hid (HC2.out.ext hx (by simp)); have HB3 := Lib.hid (HB2.out.ext hx (by simp)); have HM3 := Lib.hid (HM2.out.foot (W' := w3) (by simp) (fun b _ hlt => hx.block b hlt (by simp))); have HS3 := Lib.hid (HS2.out.ext0 hx); clear hx b0 c8 cm hA hI s1; have s1 := HS3.out.head.cell 1)
    | (gi_at_call 65; refine CallsIn.mono (callsIn_of_calls (SpU.within_c _ _ _ _)) ?_; rintro e w' ⟨rfl, rfl⟩))
  obtain ⟨Kq, hA0⟩ := HS1.out.map.all HL.out
  have hKlt := hA0.lt
  have hx13 : Ext [] W1 w3 := (HX2.out.alloc _).trans HX3.out
  have hA := hA0.ext hx13 (by simp)
  obtain ⟨Kp, hKp, hit⟩ := SpU.within_it hA pg to
  have hx4 : Ext [] w3 ((((w3.alloc (.cells #[.pointer (some ⟨mp, 0, none⟩)] 51)).alloc (.cells #[.int .i64 pg] 3)).alloc (.cells #[.int .i64 to] 3))) := (((Ext.refl _ _).alloc _).alloc _).alloc _
  have hs4 : ((((w3.alloc (.cells #[.pointer (some ⟨mp, 0, none⟩)] 51)).alloc (.cells #[.int .i64 pg] 3)).alloc (.cells #[.int .i64 to] 3))).heap.size = w3.heap.size + 3 := by simp
  have HB4 := Lib.hid (HB3.out.ext hx4 (by simp))
  have HC4 := Lib.hid (HC3.out.ext hx4 (by simp))
  have hM4 := HM3.out.foot (W' := ((((w3.alloc (.cells #[.pointer (some ⟨mp, 0, none⟩)] 51)).alloc (.cells #[.int .i64 pg] 3)).alloc (.cells #[.int .i64 to] 3)))) (by simp) (fun b _ hlt => hx4.block b hlt (by simp))
  have HX4 := Lib.hid ((HX1.out.trans hx13).trans hx4)
  have hs3 := hx13.size
  have hO := HO.out
  have hle := HLE.out
  have hlt := HLT.out
  have hlw := HLW.out
  have hs2 : w2.heap.size + 1 ≤ w3.heap.size := by have := HX3.out.size; simpa using this
  generalize ((((w3.alloc (.cells #[.pointer (some ⟨mp, 0, none⟩)] 51)).alloc (.cells #[.int .i64 pg] 3)).alloc (.cells #[.int .i64 to] 3))) = W4 at *
  have hvl : (SpU.vals (SpU.withinL L pg to)).length = (SpU.withinL L pg to).length := by simp [SpU.vals]
  generalize hl : SpU.withinL L pg to = LL at *
  have HLL := Lib.hid hl
  clear hx4 hA0 hA hl hx13 s1
  refine wpIn_range (by omega) rfl (Go.Proofs.enters_of Try.func77 (by kernel_rfl) rfl) hit (SpU.vals_size _) (mp2 :: O) (ModI mp2 (mp2 :: O) (fun u => (u.1, (pk, pn))) L LL) (fun _ _ _ _ => False) ?fI no_foot ?hM (Nat.le_refl _) ?hK ?h0 ?round ?done ?stop
  case fI => exact fun i X A B h hk => h.foot (by simp) hk
  case hM =>
    intro q hq
    have hq2 : W1.heap.size ≤ q ∧ q < w2.heap.size := by
      rcases List.mem_cons.1 hq with rfl | hq
      · exact ⟨hle, hlt⟩
      · exact hO q hq
    refine ⟨by omega, fun h => ?_⟩
    rcases hKp _ h with h | h
    · have := hKlt _ h; omega
    · omega
  case hK =>
    intro q hq
    rcases hKp _ hq with h | h
    · have := hKlt _ h; exact ⟨by omega, rfl⟩
    · exact ⟨by omega, rfl⟩
  case h0 => exact hM4
  case round =>
    rintro l' i hi X Wr hI hx hX hl' hlW
    have hiL : i < LL.length := by omega
    rw [show (SpU.vals LL)[i] = #[.agg (SpU.cells LL[i]).toArray] by simp [SpU.vals]]
    have HMY := Lib.hid (HIN.out LL[i] (List.getElem_mem hiL))
    have HSN := Lib.hid (show modL (fun u => (u.1, (pk, pn))) L (LL.take (i + 1)) = SpU.setL (modL (fun u => (u.1, (pk, pn))) L (LL.take i)) (LL[i].f : Int) (LL[i].t : Int) ((fun u => (u.1, (pk, pn))) LL[i].v) by rw [List.take_succ_eq_append_getElem hiL, modL_snoc])
    have hML := HML.out i
    have hBr := HB4.out.ext hx (by simp; exact ⟨by omega, fun h => by have := hO _ h; omega⟩)
    have hCr := HC4.out.ext hx (by simp; exact ⟨by omega, fun h => by have := hO _ h; omega⟩)
    generalize LL[i] = x at *
    obtain ⟨xf, xt, xp, xk, xn⟩ := x
    generalize hml : modL (fun u => (u.1, (pk, pn))) L (LL.take i) = Lm at *
    have HI : Hid (MapM Wr mp2 (mp2 :: O) X Lm) := by rw [← hml]; exact hI
    have HLm := Lib.hid hML
    clear hI hit hml hML
    simp only [] at HMY HSN
    unfold RoundX SpU.cells
    gi_wp2
    refine ⟨(Ext.refl _ _).alloc _, fun W₂ r hx2 hs2' hr => ?_⟩
    have hx12 : Ext [l'] Wr W₂ := ((Ext.refl _ _).alloc _).trans hx2
    have hm2 := HI.out.foot (W' := W₂) (by simp) (fun b hb hlt' => hx12.block b hlt' (by
      simp
      rcases hb with hb | hb
      · rcases List.mem_cons.1 hb with rfl | hb
        · omega
        · have := hO b hb; omega
      · exact (hX b hb).2.2))
    have hBx := (Blk.new Wr [.int .i64 (xf : Int), .int .i64 (xt : Int), .int .i64 xp, .int .i64 xk, .int .i64 xn] 97).ext hx2 (by simp; omega)
    have hsz2 := hx12.size
    have hB2 := hBr.ext hx12 (by simp; omega)
    have hC2 := hCr.ext hx12 (by simp; omega)
    have hB2a := hB2.alloc (.cells #[.int .i64 xp, .int .i64 xk, .int .i64 xn] 93)
    have k0 := hB2a.cell 0
    have k3 := hB2a.cell 3
    have k4 := hB2a.cell 4
    have k5 := hB2a.cell 5
    have c8 := (hC2.alloc (.cells #[.int .i64 xp, .int .i64 pk, .int .i64 pn] 93)).cell 0
    have x0 := (hBx.alloc (.cells #[.int .i64 xp, .int .i64 pk, .int .i64 pn] 93)).cell 0
    have x1 := (hBx.alloc (.cells #[.int .i64 xp, .int .i64 pk, .int .i64 pn] 93)).cell 1
    have x2 := hBx.cell 2
    have x3 := hBx.cell 3
    have x4 := hBx.cell 4
    have n1 : w.heap.size ≠ W₂.heap.size := by omega
    have n2 : w2.heap.size ≠ W₂.heap.size := by omega
    have n3 : Wr.heap.size ≠ W₂.heap.size := by have := hBx.lt; omega
    have HM2' := Lib.hid hm2
    have HR := Lib.hid hr
    have HX2' := Lib.hid hx2
    have hs5 : Wr.heap.size + 1 ≤ W₂.heap.size := by have := hx2.size; simpa using this
    clear hr hm2 hBx hB2 hB2a hC2 hBr hCr hs2'
    gi_wp2_with (gi_at_call 62; refine CallsIn.mono (callsR_of_calls (SpU.set_cn _ mp2 Lm (by first | exact HM2'.out.is.ext0 ((Ext.refl [] _).alloc _) | exact HM2'.out.is.ext0 (((Ext.refl [] _).alloc _).setCell _ _ (.inr (Nat.le_refl _))) | exact HM2'.out.is.ext0 ((((Ext.refl [] _).alloc _).setCell _ _ (.inr (Nat.le_refl _))).setCell _ _ (.inr (Nat.le_refl _)))) HLm.out (xf : Int) (xt : Int) (xp, pk, pn) HMY.out)) ?_; rintro e w5 ⟨rfl, hx5, hm5⟩; have HX5 := Lib.hid hx5; have HM5 := Lib.hid hm5; clear hx5 hm5)
    obtain ⟨X', hm', hX'⟩ := MapM.of (M := mp2 :: O) HM5.out
    refine ⟨X', RoundEnd.of (N := [mp2]) ((Ext.refl _ _).alloc _) HX2'.out HR.out (((Ext.refl [mp2] W₂).alloc _).trans HX5.out) (fun q hq => ?_) (fun q hq => ?_), ?_⟩
    · have hq' : q = mp2 := by simpa using hq
      rw [hq']
      exact ⟨.inl (by simp), by omega⟩
    · have h5 := hX' q hq
      rw [World.size_alloc] at h5
      exact ⟨.inr (by omega), h5.2⟩
    · show MapM w5 mp2 (mp2 :: O) X' (modL (fun u => (u.1, (pk, pn))) L (LL.take (i + 1)))
      rw [HSN.out]
      exact hm'
  case done =>
    rintro D X Wd hD hE hI hx hX
    have hCd := HC4.out.ext hx (by simp; exact ⟨by omega, fun h => by have := hO _ h; omega⟩)
    have c8 := hCd.cell 0
    have hI' : MapM Wd mp2 (mp2 :: O) X (modL (fun u => (u.1, (pk, pn))) L LL) := by
      have h : MapM Wd mp2 (mp2 :: O) X (modL (fun u => (u.1, (pk, pn))) L (LL.take (SpU.vals LL).length)) := hI
      rwa [hvl, List.take_length] at h
    have HI := Lib.hid hI'
    clear hI hI' hit
    gi_wp2
    refine leaves_marks [D] _ (by simpa using hE) (by simp) (fun w' hx' hs' => ⟨.tuple #[.pointer (some ⟨mp2, 0, none⟩), .int .i64 0], ?_, mp2, rfl, ?_, ?_, ?_⟩)
    · simp [results, Try.results42, go_sem]
    · exact (HX4.out.step hx (fun k hk => .inr (by
        rcases List.mem_cons.1 hk with rfl | hk
        · omega
        · have := hO _ hk; omega))).step hx' (fun k hk => .inr (by simp at hk; omega))
    · rw [HLL.out]
      exact (HI.out.foot (W' := w') (by simp) (fun b hb hlt' => hx'.block b hlt' (by
        simp
        rcases hb with hb | hb
        · rcases List.mem_cons.1 hb with rfl | hb
          · omega
          · have := hO b hb; omega
        · exact (hX b hb).2.2))).is
    · omega
  case stop =>
    rintro D c i X Wd hD hE hi h hx hX
    exact h.elim

end Go.Proofs.Ytjicpblncfgiaaa
