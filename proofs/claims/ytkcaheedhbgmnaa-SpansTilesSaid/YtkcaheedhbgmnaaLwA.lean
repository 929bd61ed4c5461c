/-
  Spans' laws: an act in both.
-/
import Derived.Test.YtkcaheedhbgmnaaSpMI
import Derived.Test.YtkcaheedhbgmnaaRefD
namespace Go.Proofs.Ytkcaheedhbgmnaa
set_option linter.unusedVariables false
set_option linter.unusedSimpArgs false
open Go.RowKit SpT
set_option maxHeartbeats 4000000
set_option maxRecDepth 100000
set_option linter.unusedSectionVars false

/-- An act's parts. -/
structure SAct where
  cl : Bool
  a : Int
  b : Int
  v : Int
def SAct.cells (x : SAct) : List Value := [.bool x.cl, .int .i64 x.a, .int .i64 x.b, .int .i8 x.v]
def SAct.ok (x : SAct) : Prop := -128 ≤ x.v ∧ x.v ≤ 127
def actL (L : List (Sp Int)) (x : SAct) : List (Sp Int) := if x.cl then SpI.clearL L x.a x.b else SpI.setL L x.a x.b x.v
def actF (f : Nat → Int) (x : SAct) : Nat → Int := setF f x.a x.b (if x.cl then NoV else x.v)
theorem okR_may (a b : Int) : okR a b = SpI.mayB a b := rfl
theorem act_both {L : List (Sp Int)} {f : Nat → Int} (h : Both L f) (x : SAct) (hx : x.ok) : Both (actL L x) (actF f x) := by
  unfold actL actF SpI.clearL SpI.setL
  have hbad : ∀ v, SpI.mayB x.a x.b = false → setF f x.a x.b v = f := fun v hb => by
    funext p; unfold setF; rw [if_neg (by rw [okR_may, hb]; simp)]
  cases hc : x.cl
  · simp only [Bool.false_eq_true, if_false]
    cases hb : SpI.mayB x.a x.b
    · rw [if_neg (by simp), hbad _ hb]; exact h
    · obtain ⟨p, q, h1, h2, hpq, hq⟩ := SpI.mayB_yes hb
      rw [if_pos rfl, h1, h2]
      have e1 : (p : Int).toNat = p := by omega
      have e2 : (q : Int).toNat = q := by omega
      rw [e1, e2]
      exact h.turn hpq hq (by unfold NoV; have := hx.1; omega)
  · simp only [if_true]
    cases hb : SpI.mayB x.a x.b
    · rw [if_neg (by simp), hbad _ hb]; exact h
    · obtain ⟨p, q, h1, h2, hpq, hq⟩ := SpI.mayB_yes hb
      rw [if_pos rfl, h1, h2]
      have e1 : (p : Int).toNat = p := by omega
      have e2 : (q : Int).toNat = q := by omega
      rw [e1, e2]
      exact h.clear hpq hq

/-- Both maps, in memory. -/
structure Maps (w : World) (bm br bv : Nat) (L : List (Sp Int)) (f : Nat → Int) : Prop where
  map : SpI.MapIs w bm L
  ref : R8 w br bv f
  n1 : bm ≠ bv
theorem IntBlk.noRow {w : World} {b : Nat} (h : IntBlk w b) : SpI.NoRow w b := fun cur e => by
  obtain ⟨c, h⟩ := h
  rw [h] at e; injection e with e; injection e with _ e; exact absurd e (by decide)
theorem Maps.ext {M : List Nat} {w w' : World} {bm br bv : Nat} {L : List (Sp Int)} {f : Nat → Int} (h : Maps w bm br bv L f) (hx : Ext M w w') (h1 : bm ∉ M) (h2 : br ∉ M) (h3 : bv ∉ M) (hM : ∀ b, b ∈ M → SpI.NoRow w b) : Maps w' bm br bv L f :=
  ⟨h.map.ext hx h1 hM, h.ref.ext hx h2 h3, h.n1⟩
theorem Maps.ext0 {w w' : World} {bm br bv : Nat} {L : List (Sp Int)} {f : Nat → Int} (h : Maps w bm br bv L f) (hx : Ext [] w w') : Maps w' bm br bv L f := h.ext hx (by simp) (by simp) (by simp) (by simp)
theorem Maps.n2 {w : World} {bm br bv : Nat} {L : List (Sp Int)} {f : Nat → Int} (h : Maps w bm br bv L f) : br ≠ bm := by
  rintro rfl
  obtain ⟨v, h1, _⟩ := h.map
  have h2 := h.ref.head
  unfold Blk at h1 h2
  rw [h1] at h2; injection h2 with h2; injection h2 with _ h2; exact absurd h2 (by decide)

/-- An act is done in both. -/
def Did (w : World) (bm br bv : Nat) (L : List (Sp Int)) (f : Nat → Int) (x : SAct) (e : Ending) (w' : World) : Prop := e = .returned (.bool true) ∧ Ext [bm, bv] w w' ∧ Maps w' bm br bv (actL L x) (actF f x)

theorem code_eq (b : Bool) : SpI.code b = (if b then 0 else 1) := rfl

/-- Both calls' results, one number. -/
theorem rset_d (c : Int) (a b : Int) (hc : SpI.code (SpI.mayB a b) = c) (v : Int) (W : World) (br bv : Nat) (f : Nat → Int) (hR : R8 W br bv f) :
    Calls Try.prog 26 #[.pointer (some ⟨br, 0, none⟩), .int .i64 a, .int .i64 b, .int .i64 v] W fun e w' => e = .returned (.int .i64 c) ∧ Ext [bv] W w' ∧ R8 w' br bv (setF f a b v) :=
  (rset_c W br bv f hR a b v).mono fun e w' h => ⟨by rw [h.1, ← hc, code_eq, okR_may], h.2.1, h.2.2⟩
theorem clear_d (c : Int) (a b : Int) (hc : SpI.code (SpI.mayB a b) = c) (W : World) (bm : Nat) (L : List (Sp Int)) (hm : SpI.MapIs W bm L) (hL : L.length ≤ 4096) :
    Calls Try.prog 52 #[.pointer (some ⟨bm, 0, none⟩), .int .i64 a, .int .i64 b] W fun e w' => e = .returned (.int .i64 c) ∧ Ext [bm] W w' ∧ SpI.MapIs w' bm (SpI.clearL L a b) :=
  (SpI.clear_c W bm L hm hL a b).mono fun e w' h => ⟨by rw [h.1, hc], h.2.1, h.2.2⟩
theorem set_d (c : Int) (a b : Int) (hc : SpI.code (SpI.mayB a b) = c) (v : Int) (W : World) (bm : Nat) (L : List (Sp Int)) (hm : SpI.MapIs W bm L) (hL : L.length ≤ 4096) :
    Calls Try.prog 51 #[.pointer (some ⟨bm, 0, none⟩), .int .i64 a, .int .i64 b, .int .i8 v] W fun e w' => e = .returned (.int .i64 c) ∧ Ext [bm] W w' ∧ SpI.MapIs w' bm (SpI.setL L a b v) :=
  (SpI.set_c W bm L hm hL a b v).mono fun e w' h => ⟨by rw [h.1, hc], h.2.1, h.2.2⟩

theorem play_clear (w : World) (bm br bv : Nat) (L : List (Sp Int)) (f : Nat → Int) (h : Maps w bm br bv L f) (hL : L.length ≤ 4096) (a b v : Int) :
    Calls Try.prog 30 #[.pointer (some ⟨bm, 0, none⟩), .pointer (some ⟨br, 0, none⟩), .agg #[.bool true, .int .i64 a, .int .i64 b, .int .i8 v]] w (Did w bm br bv L f ⟨true, a, b, v⟩) := by
  have hx0 : Ext [] w (w.alloc (.cells #[.bool true, .int .i64 a, .int .i64 b, .int .i8 v] 45)).drew := ((Ext.refl _ _).alloc _).drew
  have hB := (Blk.new w [.bool true, .int .i64 a, .int .i64 b, .int .i8 v] 45).ext (Ext.refl [] _).drew (by simp)
  have hm0 := h.ext0 hx0
  have hbm := h.map.lt
  have hbv := h.ref.vals.lt
  have hbr := h.ref.head.lt
  have HM0 := Lib.hid hm0
  have HB := Lib.hid hB
  have HX0 := Lib.hid hx0
  have HS := Lib.hid (⟨hB.cell 0, hB.cell 1, hB.cell 2, hB.cell 3⟩ : _ ∧ _ ∧ _ ∧ _)
  have n1 := h.n1
  have n2 := h.n2
  obtain ⟨c, hc⟩ : ∃ c, SpI.code (SpI.mayB a b) = c := ⟨_, rfl⟩
  have CC := Lib.hid (clear_d c a b hc _ bm L hm0.map hL)
  have CS := Lib.hid (fun (W : World) (hR : R8 W br bv f) => rset_d c a b hc (-4611686018427387904) W br bv f hR)
  clear hm0 hB hx0 h hc
  go_enter Try.func30, Try.ntmps30
  go_wp2
  go_region_held (fun cur => cur.cell? ⟨w.heap.size, 0, none⟩ = some (.bool true) ∧ cur.cell? ⟨w.heap.size, 1, none⟩ = some (.int .i64 a) ∧ cur.cell? ⟨w.heap.size, 2, none⟩ = some (.int .i64 b) ∧ cur.cell? ⟨w.heap.size, 3, none⟩ = some (.int .i8 v))
    (first | exact ⟨HB2.out.cell 0, HB2.out.cell 1, HB2.out.cell 2, HB2.out.cell 3⟩ | exact ⟨HB1.out.cell 0, HB1.out.cell 1, HB1.out.cell 2, HB1.out.cell 3⟩ | exact HS.out)
    (first
    | (go_at_call 52; refine (CC.out).mono ?_; rintro e w1 ⟨rfl, hx1, hm1⟩; have HB1 := Lib.hid (HB.out.ext hx1 (by simp; omega)); have HM1 := Lib.hid hm1; have HX1 := Lib.hid hx1; have HR1 := Lib.hid (HM0.out.ref.ext hx1 (by simp [n2]) (by simp [n1.symm])); clear hx1 hm1)
    | (go_at_call 26; with_reducible refine (CS.out _ HR1.out).mono ?_; rintro e w2 ⟨rfl, hx2, hr2⟩; have HB2 := Lib.hid (HB1.out.ext hx2 (by simp; omega)); have HR2 := Lib.hid hr2; have HX2 := Lib.hid hx2; have HM2 := Lib.hid (HM1.out.ext hx2 (by simp [n1]) (fun q hq => by obtain rfl : q = bv := (by simpa using hq); exact HR1.out.tag.noRow)); clear hx2 hr2))
  all_goals go_wp2
  all_goals
    go_ret
    exact ⟨rfl, ((HX0.out.mono (by simp)).trans (HX1.out.mono (by simp))).trans (HX2.out.mono (by simp)), ⟨HM2.out, HR2.out, n1⟩⟩

theorem play_set (w : World) (bm br bv : Nat) (L : List (Sp Int)) (f : Nat → Int) (h : Maps w bm br bv L f) (hL : L.length ≤ 4096) (a b v : Int) (hv : -128 ≤ v ∧ v ≤ 127) :
    Calls Try.prog 30 #[.pointer (some ⟨bm, 0, none⟩), .pointer (some ⟨br, 0, none⟩), .agg #[.bool false, .int .i64 a, .int .i64 b, .int .i8 v]] w (Did w bm br bv L f ⟨false, a, b, v⟩) := by
  have hx0 : Ext [] w (w.alloc (.cells #[.bool false, .int .i64 a, .int .i64 b, .int .i8 v] 45)).drew := ((Ext.refl _ _).alloc _).drew
  have hB := (Blk.new w [.bool false, .int .i64 a, .int .i64 b, .int .i8 v] 45).ext (Ext.refl [] _).drew (by simp)
  have hm0 := h.ext0 hx0
  have hbm := h.map.lt
  have hbv := h.ref.vals.lt
  have hbr := h.ref.head.lt
  have HM0 := Lib.hid hm0
  have HB := Lib.hid hB
  have HX0 := Lib.hid hx0
  have HS := Lib.hid (⟨hB.cell 0, hB.cell 1, hB.cell 2, hB.cell 3⟩ : _ ∧ _ ∧ _ ∧ _)
  have n1 := h.n1
  have n2 := h.n2
  have hw : IntKind.i64.wrap v = v := by rw [IntKind.wrap_i64]; omega
  obtain ⟨c, hc⟩ : ∃ c, SpI.code (SpI.mayB a b) = c := ⟨_, rfl⟩
  have CC := Lib.hid (set_d c a b hc v _ bm L hm0.map hL)
  have CS := Lib.hid (fun (W : World) (hR : R8 W br bv f) => rset_d c a b hc v W br bv f hR)
  clear hm0 hB hx0 h hc
  go_enter Try.func30, Try.ntmps30
  go_wp2
  go_region_held (fun cur => cur.cell? ⟨w.heap.size, 0, none⟩ = some (.bool false) ∧ cur.cell? ⟨w.heap.size, 1, none⟩ = some (.int .i64 a) ∧ cur.cell? ⟨w.heap.size, 2, none⟩ = some (.int .i64 b) ∧ cur.cell? ⟨w.heap.size, 3, none⟩ = some (.int .i8 v))
    (first | exact ⟨HB2.out.cell 0, HB2.out.cell 1, HB2.out.cell 2, HB2.out.cell 3⟩ | exact ⟨HB1.out.cell 0, HB1.out.cell 1, HB1.out.cell 2, HB1.out.cell 3⟩ | exact HS.out)
    (first
    | (go_at_call 51; refine (CC.out).mono ?_; rintro e w1 ⟨rfl, hx1, hm1⟩; have HB1 := Lib.hid (HB.out.ext hx1 (by simp; omega)); have HM1 := Lib.hid hm1; have HX1 := Lib.hid hx1; have HR1 := Lib.hid (HM0.out.ref.ext hx1 (by simp [n2]) (by simp [n1.symm])); clear hx1 hm1)
    | (go_at_call 26; with_reducible refine (CS.out _ HR1.out).mono ?_; rintro e w2 ⟨rfl, hx2, hr2⟩; have HB2 := Lib.hid (HB1.out.ext hx2 (by simp; omega)); have HR2 := Lib.hid hr2; have HX2 := Lib.hid hx2; have HM2 := Lib.hid (HM1.out.ext hx2 (by simp [n1]) (fun q hq => by obtain rfl : q = bv := (by simpa using hq); exact HR1.out.tag.noRow)); clear hx2 hr2))
  all_goals go_wp2
  all_goals
    go_ret
    exact ⟨rfl, ((HX0.out.mono (by simp)).trans (HX1.out.mono (by simp))).trans (HX2.out.mono (by simp)), ⟨HM2.out, HR2.out, n1⟩⟩

theorem play8_c (w : World) (bm br bv : Nat) (L : List (Sp Int)) (f : Nat → Int) (h : Maps w bm br bv L f) (hL : L.length ≤ 4096) (x : SAct) (hx : x.ok) :
    Calls Try.prog 30 #[.pointer (some ⟨bm, 0, none⟩), .pointer (some ⟨br, 0, none⟩), .agg x.cells.toArray] w (Did w bm br bv L f x) := by
  obtain ⟨cl, a, b, v⟩ := x
  cases cl
  · exact play_set w bm br bv L f h hL a b v hx
  · exact play_clear w bm br bv L f h hL a b v

end Go.Proofs.Ytkcaheedhbgmnaa
