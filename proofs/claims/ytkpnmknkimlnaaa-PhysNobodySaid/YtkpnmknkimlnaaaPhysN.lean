/-
  Phys: the laws' loops over acts.
-/
import Derived.Test.YtkpnmknkimlnaaaPhysM
import Derived.Test.YtkpnmknkimlnaaaFlat
namespace Go.Proofs.Ytkpnmknkimlnaaa
set_option linter.unusedVariables false
set_option linter.unusedSimpArgs false
open Go.RowKit
set_option maxHeartbeats 4000000
set_option maxRecDepth 10000
set_option linter.unusedSectionVars false

/-- An act's parts. -/
structure PAct where
  d : Int
  f : Int
  i : Int
  v : Int
  t : Int
  k : Int
  n : Int
def PAct.cells (p : PAct) : List Value := [.int .i64 p.d, .int .i64 p.f, .int .i64 p.i, .int .u64 p.v, .int .i64 p.t, .int .i64 p.k, .int .i64 p.n]

/-- The acts lie in a slice. -/
def Acts (w : World) (v : Value) (l : List PAct) : Prop := SlC w 7 v (l.map PAct.cells)
theorem Acts.ext_new {M : List Nat} {w w' : World} {v : Value} {l : List PAct} (h : Acts w v l) (hx : Ext M w w') (hm : ∀ b, b ∈ M → w.heap.size ≤ b) : Acts w' v l := SlC.ext_new h hx hm
theorem Acts.form {w : World} {v : Value} {l : List PAct} (h : Acts w v l) : ∃ a cap, v = .slice a l.length cap ∧ l.length ≤ maxLen ∧ Acts w (.slice a l.length cap) l := by
  have h' := h
  obtain ⟨a, cap, h1, h2, h3, h4, h5⟩ := h
  simp only [List.length_map] at h1 h2
  subst h1
  exact ⟨a, cap, rfl, by omega, h'⟩
/-- An act among them. -/
structure ActAt (w : World) (b o : Nat) (i : Nat) (p : PAct) : Prop where
  c0 : w.cell? ⟨b, o + i * 7, none⟩ = some (.int .i64 p.d)
  c1 : w.cell? ⟨b, o + i * 7 + 1, none⟩ = some (.int .i64 p.f)
  c2 : w.cell? ⟨b, o + i * 7 + 2, none⟩ = some (.int .i64 p.i)
  c3 : w.cell? ⟨b, o + i * 7 + 3, none⟩ = some (.int .u64 p.v)
  c4 : w.cell? ⟨b, o + i * 7 + 4, none⟩ = some (.int .i64 p.t)
  c5 : w.cell? ⟨b, o + i * 7 + 5, none⟩ = some (.int .i64 p.k)
  c6 : w.cell? ⟨b, o + i * 7 + 6, none⟩ = some (.int .i64 p.n)
theorem Acts.at_ {w : World} {a : Option Addr} {n cap : Nat} {l : List PAct} (h : Acts w (.slice a n cap) l) {i : Nat} (hi : i < l.length) : ∃ b o, a = some ⟨b, o, none⟩ ∧ b < w.heap.size ∧ ActAt w b o i l[i] := by
  obtain ⟨a', cap', h1, h2, h3, h4, h5⟩ := h
  cases h1
  obtain ⟨b, o, ha, hb, hc⟩ := h5 (by simp; omega)
  have hr : (l.map PAct.cells)[i]? = some l[i].cells := by simp [hi]
  have g := fun j u => hc i _ hr j u
  exact ⟨b, o, ha, hb, ⟨g 0 _ rfl, g 1 _ rfl, g 2 _ rfl, g 3 _ rfl, g 4 _ rfl, g 5 _ rfl, g 6 _ rfl⟩⟩
theorem ActAt.ext {M : List Nat} {w w' : World} {b o i : Nat} {p : PAct} (h : ActAt w b o i p) (hb : b < w.heap.size) (hx : Ext M w w') (hm : b ∉ M) : ActAt w' b o i p :=
  ⟨(hx.cell hb hm).trans h.c0, (hx.cell hb hm).trans h.c1, (hx.cell hb hm).trans h.c2, (hx.cell hb hm).trans h.c3, (hx.cell hb hm).trans h.c4, (hx.cell hb hm).trans h.c5, (hx.cell hb hm).trans h.c6⟩

theorem newBad_no {N E : Int} (h : newBad N E = false) : ∃ n e : Nat, N = n ∧ E = e ∧ (1 ≤ n ∧ n ≤ 8) ∧ (1 ≤ e ∧ e ≤ 1024) := by
  simp [newBad] at h
  exact ⟨N.toNat, E.toNat, by omega, by omega, by omega, by omega⟩

/-- Behind some acts. -/
def InLoop (w : World) (bb bm bl br bw bo N E : Nat) (cur : World) : Prop :=
  Ext [] w cur ∧ Blk cur bb [.pointer (some ⟨bm, 0, none⟩), .pointer (some ⟨br, 0, none⟩)] 29 ∧ ∃ wd kd nd, BothIs cur bm bl br bw bo N E wd kd nd ∧ KOk kd

/-- One more act. -/
theorem InLoop.step {w cur cur2 : World} {bb bm bl br bw bo N E : Nat} (h : InLoop w bb bm bl br bw bo N E cur) (hn : w.heap.size ≤ bl ∧ w.heap.size ≤ bw ∧ w.heap.size ≤ bo) (hb : bb ≠ bl ∧ bb ≠ bw ∧ bb ≠ bo)
    (hx : Ext [bl, bw, bo] cur cur2) (hB : ∃ wd kd nd, BothIs cur2 bm bl br bw bo N E wd kd nd ∧ KOk kd) : InLoop w bb bm bl br bw bo N E cur2 :=
  ⟨h.1.step hx (by simp; omega), h.2.1.ext hx (by simp; omega), hB⟩
theorem InLoop.ext {w cur cur2 : World} {bb bm bl br bw bo N E : Nat} (h : InLoop w bb bm bl br bw bo N E cur) (hx : Ext [] cur cur2) : InLoop w bb bm bl br bw bo N E cur2 := by
  obtain ⟨h1, h2, wd, kd, nd, h3, h4⟩ := h
  exact ⟨h1.trans hx, h2.ext hx (by simp), wd, kd, nd, h3.ext hx, h4⟩

theorem InLoop.played {w cur cur2 : World} {bb bm bl br bw bo N E : Nat} {kd : Nat → Int} {e : Ending} (h : InLoop w bb bm bl br bw bo N E cur) (hn : w.heap.size ≤ bl ∧ w.heap.size ≤ bw ∧ w.heap.size ≤ bo) (hb : bb ≠ bl ∧ bb ≠ bw ∧ bb ≠ bo)
    (hk : KOk kd) (hp : Played bm bl br bw bo N E kd cur e cur2) : e = .returned (.bool true) ∧ InLoop w bb bm bl br bw bo N E cur2 ∧ Ext [bl, bw, bo] cur cur2 := by
  obtain ⟨rfl, hx, a, b, c, hB, hk2⟩ := hp
  exact ⟨rfl, h.step hn hb hx ⟨a, b, c, hB, hk2 hk⟩, hx⟩

end Go.Proofs.Ytkpnmknkimlnaaa
