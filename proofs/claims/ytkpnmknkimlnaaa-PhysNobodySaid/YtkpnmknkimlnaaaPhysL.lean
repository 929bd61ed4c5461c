/-
  Phys: an act in both memories.
-/
import Derived.Test.YtkpnmknkimlnaaaPhysK
import Derived.Deep.RegionHeld
namespace Go.Proofs.Ytkpnmknkimlnaaa
set_option linter.unusedVariables false
set_option linter.unusedSimpArgs false
open Go.RowKit
set_option maxHeartbeats 4000000
set_option maxRecDepth 10000
set_option linter.unusedSectionVars false

/-- All kinds are kinds. -/
def KOk (kd : Nat → Int) : Prop := ∀ j, 0 ≤ kd j ∧ kd j ≤ 3
theorem KOk.zero : KOk zeroF := fun _ => by unfold zeroF; omega
theorem KOk.setO {kd : Nat → Int} {n : Nat} {N f k x : Int} (h : KOk kd) : KOk (Go.Proofs.Ytkpnmknkimlnaaa.setO n N f k x kd k) := by
  intro j
  unfold Go.Proofs.Ytkpnmknkimlnaaa.setO
  split
  · next ho =>
    unfold upd
    split
    · simp [okO, mayOwn] at ho; omega
    · exact h j
  · exact h j

/-- An act is done in both, and they hold the same. -/
def Played (bm bl br bw bo N E : Nat) (kd : Nat → Int) (w : World) (e : Ending) (w' : World) : Prop :=
  e = .returned (.bool true) ∧ Ext [bl, bw, bo] w w' ∧ ∃ wd' kd' nd', BothIs w' bm bl br bw bo N E wd' kd' nd' ∧ (KOk kd → KOk kd')

/-- On the way: what of the boxes (block b: both; block b + 1: the act) and of the memories holds. -/
structure PlayAt (w cur : World) (bm bl br bw bo N E b : Nat) (act : List Value) (wd kd nd wd2 kd2 nd2 : Nat → Int) : Prop where
  ext : Ext [bl, bw, bo] w cur
  old1 : bl < b
  old2 : bw < b
  old3 : bo < b
  both : Blk cur b [.pointer (some ⟨bm, 0, none⟩), .pointer (some ⟨br, 0, none⟩)] 29
  acts : Blk cur (b + 1) act 37
  mem : MemIs cur bm bl N E wd kd nd
  ref : RefIs cur br bw bo N E wd2 kd2 nd2
  a1 : bl ≠ br
  a2 : bl ≠ bw
  a3 : bl ≠ bo
  a4 : bm ≠ bw
  a5 : bm ≠ bo

section
variable {w cur : World} {bm bl br bw bo N E b : Nat} {act : List Value} {wd kd nd wd2 kd2 nd2 : Nat → Int}
theorem PlayAt.stepM {cur' : World} {wd' kd' nd' : Nat → Int} (h : PlayAt w cur bm bl br bw bo N E b act wd kd nd wd2 kd2 nd2) (hx : Ext [bl] cur cur') (hM : MemIs cur' bm bl N E wd' kd' nd') : PlayAt w cur' bm bl br bw bo N E b act wd' kd' nd' wd2 kd2 nd2 :=
  have o1 := h.old1
  ⟨h.ext.trans (hx.mono (by simp)), h.old1, h.old2, h.old3, h.both.ext hx (by simp; omega), h.acts.ext hx (by simp; omega), hM, h.ref.ext hx (by simp [h.a1.symm]) (by simp [h.a2.symm]) (by simp [h.a3.symm]), h.a1, h.a2, h.a3, h.a4, h.a5⟩
theorem PlayAt.stepR {cur' : World} {wd' kd' nd' : Nat → Int} (h : PlayAt w cur bm bl br bw bo N E b act wd kd nd wd2 kd2 nd2) (hx : Ext [bw] cur cur') (hR : RefIs cur' br bw bo N E wd' kd' nd') : PlayAt w cur' bm bl br bw bo N E b act wd kd nd wd' kd' nd' :=
  have o2 := h.old2
  ⟨h.ext.trans (hx.mono (by simp)), h.old1, h.old2, h.old3, h.both.ext hx (by simp; omega), h.acts.ext hx (by simp; omega), h.mem.ext hx (by simp [h.a4]) (by simp [h.a2]), hR, h.a1, h.a2, h.a3, h.a4, h.a5⟩
theorem PlayAt.stepO {cur' : World} {wd' kd' nd' : Nat → Int} (h : PlayAt w cur bm bl br bw bo N E b act wd kd nd wd2 kd2 nd2) (hx : Ext [bo] cur cur') (hR : RefIs cur' br bw bo N E wd' kd' nd') : PlayAt w cur' bm bl br bw bo N E b act wd kd nd wd' kd' nd' :=
  have o3 := h.old3
  ⟨h.ext.trans (hx.mono (by simp)), h.old1, h.old2, h.old3, h.both.ext hx (by simp; omega), h.acts.ext hx (by simp; omega), h.mem.ext hx (by simp [h.a5]) (by simp [h.a3]), hR, h.a1, h.a2, h.a3, h.a4, h.a5⟩
theorem PlayAt.done {kd0 : Nat → Int} (h : PlayAt w cur bm bl br bw bo N E b act wd kd nd wd kd nd) (hk : KOk kd0 → KOk kd) : Played bm bl br bw bo N E kd0 w (.returned (.bool true)) cur :=
  ⟨rfl, h.ext, wd, kd, nd, ⟨h.mem, h.ref, h.a1, h.a2, h.a3, h.a4, h.a5⟩, hk⟩
theorem PlayAt.start {c : Value} (h : BothIs w bm bl br bw bo N E wd kd nd) (act : List Value) :
    PlayAt w ((w.alloc (.cells #[.pointer (some ⟨bm, 0, none⟩), .pointer (some ⟨br, 0, none⟩)] 29)).alloc (.cells act.toArray 37)).drew bm bl br bw bo N E w.heap.size act wd kd nd wd kd nd := by
  have hx0 : Ext [] w ((w.alloc (.cells #[.pointer (some ⟨bm, 0, none⟩), .pointer (some ⟨br, 0, none⟩)] 29)).alloc (.cells act.toArray 37)).drew := (((Ext.refl [] w).alloc _).alloc _).drew
  have hA := ((Blk.new w [.pointer (some ⟨bm, 0, none⟩), .pointer (some ⟨br, 0, none⟩)] 29).alloc (.cells act.toArray 37)).ext (Ext.refl [] _).drew (by simp)
  have hs : (w.alloc (.cells #[.pointer (some ⟨bm, 0, none⟩), .pointer (some ⟨br, 0, none⟩)] 29)).heap.size = w.heap.size + 1 := by simp
  have hB := (Blk.new (w.alloc (.cells #[.pointer (some ⟨bm, 0, none⟩), .pointer (some ⟨br, 0, none⟩)] 29)) act 37).ext (Ext.refl [] _).drew (by simp)
  rw [hs] at hB
  exact ⟨hx0.mono (by simp), h.mem.body.lt, h.ref.words.lt, h.ref.owns.lt, hA, hB, (h.ext hx0).mem, (h.ext hx0).ref, h.a1, h.a2, h.a3, h.a4, h.a5⟩
theorem PlayAt.look {x0 x1 x2 x3 x4 x5 x6 : Value} (h : PlayAt w cur bm bl br bw bo N E b [x0, x1, x2, x3, x4, x5, x6] wd kd nd wd2 kd2 nd2) :
    cur.cell? ⟨b, 0, none⟩ = some (.pointer (some ⟨bm, 0, none⟩)) ∧ cur.cell? ⟨b, 1, none⟩ = some (.pointer (some ⟨br, 0, none⟩)) ∧ cur.cell? ⟨b + 1, 0, none⟩ = some x0 ∧ cur.cell? ⟨b + 1, 1, none⟩ = some x1 ∧ cur.cell? ⟨b + 1, 2, none⟩ = some x2 ∧
      cur.cell? ⟨b + 1, 3, none⟩ = some x3 ∧ cur.cell? ⟨b + 1, 4, none⟩ = some x4 ∧ cur.cell? ⟨b + 1, 5, none⟩ = some x5 ∧ cur.cell? ⟨b + 1, 6, none⟩ = some x6 :=
  ⟨h.both.cell 0, h.both.cell 1, h.acts.cell 0, h.acts.cell 1, h.acts.cell 2, h.acts.cell 3, h.acts.cell 4, h.acts.cell 5, h.acts.cell 6⟩
end

theorem play_word (bm bl br bw bo N E : Nat) (wd kd nd : Nat → Int) (f i v t ok on : Int) (w : World) (h : BothIs w bm bl br bw bo N E wd kd nd) :
    Calls Try.prog 13 #[.agg #[.pointer (some ⟨bm, 0, none⟩), .pointer (some ⟨br, 0, none⟩)], .agg #[.int .i64 0, .int .i64 f, .int .i64 i, .int .u64 v, .int .i64 t, .int .i64 ok, .int .i64 on]] w (Played bm bl br bw bo N E kd w) := by
  have hP := Lib.hid (PlayAt.start (c := default) h [.int .i64 0, .int .i64 f, .int .i64 i, .int .u64 v, .int .i64 t, .int .i64 ok, .int .i64 on])
  clear h
  go_enter Try.func13, Try.ntmps13
  go_wp2
  go_region_held (fun cur => cur.cell? ⟨w.heap.size, 0, none⟩ = some (.pointer (some ⟨bm, 0, none⟩)) ∧ cur.cell? ⟨w.heap.size, 1, none⟩ = some (.pointer (some ⟨br, 0, none⟩)) ∧ cur.cell? ⟨w.heap.size + 1, 1, none⟩ = some (.int .i64 f) ∧ cur.cell? ⟨w.heap.size + 1, 2, none⟩ = some (.int .i64 i) ∧ cur.cell? ⟨w.heap.size + 1, 3, none⟩ = some (.int .u64 v))
    (exact ⟨hP.out.look.1, hP.out.look.2.1, hP.out.look.2.2.2.1, hP.out.look.2.2.2.2.1, hP.out.look.2.2.2.2.2.1⟩)
    (first
    | (go_at_call 39; refine (hP.out.mem.setWord f i v).mono ?_; rintro e w4 ⟨rfl, hx, hM⟩; replace hP := Lib.hid (hP.out.stepM hx hM); clear hx hM)
    | (go_at_call 46; refine (hP.out.ref.setWord f i v).mono ?_; rintro e w4 ⟨rfl, hx, hM⟩; replace hP := Lib.hid (hP.out.stepR hx hM); clear hx hM))
  all_goals go_wp2
  all_goals
    go_ret
    exact hP.out.done id

theorem play_byte (bm bl br bw bo N E : Nat) (wd kd nd : Nat → Int) (f i v t ok on : Int) (w : World) (h : BothIs w bm bl br bw bo N E wd kd nd) :
    Calls Try.prog 13 #[.agg #[.pointer (some ⟨bm, 0, none⟩), .pointer (some ⟨br, 0, none⟩)], .agg #[.int .i64 1, .int .i64 f, .int .i64 i, .int .u64 v, .int .i64 t, .int .i64 ok, .int .i64 on]] w (Played bm bl br bw bo N E kd w) := by
  have hP := Lib.hid (PlayAt.start (c := default) h [.int .i64 1, .int .i64 f, .int .i64 i, .int .u64 v, .int .i64 t, .int .i64 ok, .int .i64 on])
  clear h
  go_enter Try.func13, Try.ntmps13
  go_wp2
  go_region_held (fun cur => cur.cell? ⟨w.heap.size, 0, none⟩ = some (.pointer (some ⟨bm, 0, none⟩)) ∧ cur.cell? ⟨w.heap.size, 1, none⟩ = some (.pointer (some ⟨br, 0, none⟩)) ∧ cur.cell? ⟨w.heap.size + 1, 1, none⟩ = some (.int .i64 f) ∧ cur.cell? ⟨w.heap.size + 1, 2, none⟩ = some (.int .i64 i) ∧ cur.cell? ⟨w.heap.size + 1, 3, none⟩ = some (.int .u64 v))
    (exact ⟨hP.out.look.1, hP.out.look.2.1, hP.out.look.2.2.2.1, hP.out.look.2.2.2.2.1, hP.out.look.2.2.2.2.2.1⟩)
    (first
    | (go_at_call 40; refine (hP.out.mem.setByte f i (v % 256) (by omega)).mono ?_; rintro e w4 ⟨rfl, hx, hM⟩; replace hP := Lib.hid (hP.out.stepM hx hM); clear hx hM)
    | (go_at_call 47; refine (hP.out.ref.setByte f i (v % 256) (by omega)).mono ?_; rintro e w4 ⟨rfl, hx, hM⟩; replace hP := Lib.hid (hP.out.stepR hx hM); clear hx hM))
  all_goals go_wp2
  all_goals
    go_ret
    exact hP.out.done id

theorem play_zero (bm bl br bw bo N E : Nat) (wd kd nd : Nat → Int) (f i v t ok on : Int) (w : World) (h : BothIs w bm bl br bw bo N E wd kd nd) :
    Calls Try.prog 13 #[.agg #[.pointer (some ⟨bm, 0, none⟩), .pointer (some ⟨br, 0, none⟩)], .agg #[.int .i64 2, .int .i64 f, .int .i64 i, .int .u64 v, .int .i64 t, .int .i64 ok, .int .i64 on]] w (Played bm bl br bw bo N E kd w) := by
  have hP := Lib.hid (PlayAt.start (c := default) h [.int .i64 2, .int .i64 f, .int .i64 i, .int .u64 v, .int .i64 t, .int .i64 ok, .int .i64 on])
  clear h
  go_enter Try.func13, Try.ntmps13
  go_wp2
  go_region_held (fun cur => cur.cell? ⟨w.heap.size, 0, none⟩ = some (.pointer (some ⟨bm, 0, none⟩)) ∧ cur.cell? ⟨w.heap.size, 1, none⟩ = some (.pointer (some ⟨br, 0, none⟩)) ∧ cur.cell? ⟨w.heap.size + 1, 1, none⟩ = some (.int .i64 f))
    (exact ⟨hP.out.look.1, hP.out.look.2.1, hP.out.look.2.2.2.1⟩)
    (first
    | (go_at_call 41; refine (hP.out.mem.zero f).mono ?_; rintro e w4 ⟨rfl, hx, hM⟩; replace hP := Lib.hid (hP.out.stepM hx hM); clear hx hM)
    | (go_at_call 48; refine (hP.out.ref.zero f).mono ?_; rintro e w4 ⟨rfl, hx, hM⟩; replace hP := Lib.hid (hP.out.stepR hx hM); clear hx hM))
  all_goals go_wp2
  all_goals
    go_ret
    exact hP.out.done id

theorem play_copy (bm bl br bw bo N E : Nat) (wd kd nd : Nat → Int) (f i v t ok on : Int) (w : World) (h : BothIs w bm bl br bw bo N E wd kd nd) :
    Calls Try.prog 13 #[.agg #[.pointer (some ⟨bm, 0, none⟩), .pointer (some ⟨br, 0, none⟩)], .agg #[.int .i64 3, .int .i64 f, .int .i64 i, .int .u64 v, .int .i64 t, .int .i64 ok, .int .i64 on]] w (Played bm bl br bw bo N E kd w) := by
  have hP := Lib.hid (PlayAt.start (c := default) h [.int .i64 3, .int .i64 f, .int .i64 i, .int .u64 v, .int .i64 t, .int .i64 ok, .int .i64 on])
  clear h
  go_enter Try.func13, Try.ntmps13
  go_wp2
  go_region_held (fun cur => cur.cell? ⟨w.heap.size, 0, none⟩ = some (.pointer (some ⟨bm, 0, none⟩)) ∧ cur.cell? ⟨w.heap.size, 1, none⟩ = some (.pointer (some ⟨br, 0, none⟩)) ∧ cur.cell? ⟨w.heap.size + 1, 1, none⟩ = some (.int .i64 f) ∧ cur.cell? ⟨w.heap.size + 1, 2, none⟩ = some (.int .i64 i) ∧ cur.cell? ⟨w.heap.size + 1, 4, none⟩ = some (.int .i64 t))
    (exact ⟨hP.out.look.1, hP.out.look.2.1, hP.out.look.2.2.2.1, hP.out.look.2.2.2.2.1, hP.out.look.2.2.2.2.2.2.1⟩)
    (first
    | (go_at_call 42; refine (hP.out.mem.copy f t i).mono ?_; rintro e w4 ⟨rfl, hx, hM⟩; replace hP := Lib.hid (hP.out.stepM hx hM); clear hx hM)
    | (go_at_call 49; refine (hP.out.ref.copy f t i).mono ?_; rintro e w4 ⟨rfl, hx, hM⟩; replace hP := Lib.hid (hP.out.stepR hx hM); clear hx hM))
  all_goals go_wp2
  all_goals
    go_ret
    exact hP.out.done id

theorem play_own (bm bl br bw bo N E : Nat) (wd kd nd : Nat → Int) (f i v t ok on : Int) (w : World) (h : BothIs w bm bl br bw bo N E wd kd nd) :
    Calls Try.prog 13 #[.agg #[.pointer (some ⟨bm, 0, none⟩), .pointer (some ⟨br, 0, none⟩)], .agg #[.int .i64 4, .int .i64 f, .int .i64 i, .int .u64 v, .int .i64 t, .int .i64 ok, .int .i64 on]] w (Played bm bl br bw bo N E kd w) := by
  have hP := Lib.hid (PlayAt.start (c := default) h [.int .i64 4, .int .i64 f, .int .i64 i, .int .u64 v, .int .i64 t, .int .i64 ok, .int .i64 on])
  clear h
  go_enter Try.func13, Try.ntmps13
  go_wp2
  go_region_held (fun cur => cur.cell? ⟨w.heap.size, 0, none⟩ = some (.pointer (some ⟨bm, 0, none⟩)) ∧ cur.cell? ⟨w.heap.size, 1, none⟩ = some (.pointer (some ⟨br, 0, none⟩)) ∧ cur.cell? ⟨w.heap.size + 1, 1, none⟩ = some (.int .i64 f) ∧ cur.cell? ⟨w.heap.size + 1, 5, none⟩ = some (.int .i64 ok) ∧ cur.cell? ⟨w.heap.size + 1, 6, none⟩ = some (.int .i64 on))
    (exact ⟨hP.out.look.1, hP.out.look.2.1, hP.out.look.2.2.2.1, hP.out.look.2.2.2.2.2.2.2.1, hP.out.look.2.2.2.2.2.2.2.2⟩)
    (first
    | (go_at_call 43; refine (hP.out.mem.setOwner f ok on).mono ?_; rintro e w4 ⟨rfl, hx, hM⟩; replace hP := Lib.hid (hP.out.stepM hx hM); clear hx hM)
    | (go_at_call 50; refine (hP.out.ref.setOwner f ok on).mono ?_; rintro e w4 ⟨rfl, hx, hM⟩; replace hP := Lib.hid (hP.out.stepO hx hM); clear hx hM))
  all_goals go_wp2
  all_goals
    go_ret
    exact hP.out.done KOk.setO

theorem play_none (bm bl br bw bo N E : Nat) (wd kd nd : Nat → Int) (d f i v t ok on : Int) (w : World) (h : BothIs w bm bl br bw bo N E wd kd nd) (hd : d ≠ 0 ∧ d ≠ 1 ∧ d ≠ 2 ∧ d ≠ 3 ∧ d ≠ 4) :
    Calls Try.prog 13 #[.agg #[.pointer (some ⟨bm, 0, none⟩), .pointer (some ⟨br, 0, none⟩)], .agg #[.int .i64 d, .int .i64 f, .int .i64 i, .int .u64 v, .int .i64 t, .int .i64 ok, .int .i64 on]] w (Played bm bl br bw bo N E kd w) := by
  have hP := Lib.hid (PlayAt.start (c := default) h [.int .i64 d, .int .i64 f, .int .i64 i, .int .u64 v, .int .i64 t, .int .i64 ok, .int .i64 on])
  obtain ⟨d0, d1, d2, d3, d4⟩ := hd
  have e0 : (d == 0) = false := by simpa using d0
  have e1 : (d == 1) = false := by simpa using d1
  have e2 : (d == 2) = false := by simpa using d2
  have e3 : (d == 3) = false := by simpa using d3
  have e4 : (d == 4) = false := by simpa using d4
  have H := Lib.hid h
  clear h
  go_enter Try.func13, Try.ntmps13
  go_wp2
  go_ret
  have hx := (((Ext.refl [] w).alloc (.cells #[.pointer (some ⟨bm, 0, none⟩), .pointer (some ⟨br, 0, none⟩)] 29)).alloc (.cells #[.int .i64 d, .int .i64 f, .int .i64 i, .int .u64 v, .int .i64 t, .int .i64 ok, .int .i64 on] 37))
  exact ⟨rfl, hx.mono (by simp), _, _, _, H.out.ext hx, id⟩

theorem play_c (bm bl br bw bo N E : Nat) (wd kd nd : Nat → Int) (d f i v t ok on : Int) (w : World) (h : BothIs w bm bl br bw bo N E wd kd nd) :
    Calls Try.prog 13 #[.agg #[.pointer (some ⟨bm, 0, none⟩), .pointer (some ⟨br, 0, none⟩)], .agg #[.int .i64 d, .int .i64 f, .int .i64 i, .int .u64 v, .int .i64 t, .int .i64 ok, .int .i64 on]] w (Played bm bl br bw bo N E kd w) := by
  by_cases d0 : d = 0
  · subst d0; exact play_word bm bl br bw bo N E wd kd nd f i v t ok on w h
  by_cases d1 : d = 1
  · subst d1; exact play_byte bm bl br bw bo N E wd kd nd f i v t ok on w h
  by_cases d2 : d = 2
  · subst d2; exact play_zero bm bl br bw bo N E wd kd nd f i v t ok on w h
  by_cases d3 : d = 3
  · subst d3; exact play_copy bm bl br bw bo N E wd kd nd f i v t ok on w h
  by_cases d4 : d = 4
  · subst d4; exact play_own bm bl br bw bo N E wd kd nd f i v t ok on w h
  exact play_none bm bl br bw bo N E wd kd nd d f i v t ok on w h ⟨d0, d1, d2, d3, d4⟩

end Go.Proofs.Ytkpnmknkimlnaaa
