/-
  Buddy: the laws' acts in a slice; what stands behind some acts.
-/
import Derived.Test.YtkpnmknkimlnaaaBuArgs
import Derived.Test.YtkpnmknkimlnaaaBlJ
namespace Go.Proofs.Ytkpnmknkimlnaaa
set_option linter.unusedVariables false
set_option linter.unusedSimpArgs false
open Go.ChangeShapes Go.WideShapes Go.ChangeAt Go.RowKit BuT
set_option maxHeartbeats 4000000
set_option maxRecDepth 100000

/-- The acts lie in a slice. -/
def BActs (w : World) (v : Value) (l : List BAct) : Prop := SlC w 4 v (l.map BAct.cells)
theorem BActs.ext_new {M : List Nat} {w w' : World} {v : Value} {l : List BAct} (h : BActs w v l) (hx : Ext M w w') (hm : ∀ b, b ∈ M → w.heap.size ≤ b) : BActs w' v l := SlC.ext_new h hx hm
theorem BActs.form {w : World} {v : Value} {l : List BAct} (h : BActs w v l) : ∃ a cap, v = .slice a l.length cap ∧ l.length ≤ maxLen ∧ BActs w (.slice a l.length cap) l := by
  have h' := h
  obtain ⟨a, cap, h1, h2, h3, h4, h5⟩ := h
  simp only [List.length_map] at h1 h2
  subst h1
  exact ⟨a, cap, rfl, by omega, h'⟩
/-- An act among them. -/
structure BActAt (w : World) (b o : Nat) (i : Nat) (p : BAct) : Prop where
  c0 : w.cell? ⟨b, o + i * 4, none⟩ = some (.int .i64 p.d)
  c1 : w.cell? ⟨b, o + i * 4 + 1, none⟩ = some (.int .i64 p.f)
  c2 : w.cell? ⟨b, o + i * 4 + 2, none⟩ = some (.int .i64 p.o)
  c3 : w.cell? ⟨b, o + i * 4 + 3, none⟩ = some (.int .i64 p.h)
theorem BActs.at_ {w : World} {a : Option Addr} {n cap : Nat} {l : List BAct} (h : BActs w (.slice a n cap) l) {i : Nat} (hi : i < l.length) : ∃ b o, a = some ⟨b, o, none⟩ ∧ b < w.heap.size ∧ BActAt w b o i l[i] := by
  obtain ⟨a', cap', h1, h2, h3, h4, h5⟩ := h
  cases h1
  obtain ⟨b, o, ha, hb, hc⟩ := h5 (by simp; omega)
  have hr : (l.map BAct.cells)[i]? = some l[i].cells := by simp [hi]
  have g := fun j u => hc i _ hr j u
  exact ⟨b, o, ha, hb, ⟨g 0 _ rfl, g 1 _ rfl, g 2 _ rfl, g 3 _ rfl⟩⟩
theorem BActAt.ext {M : List Nat} {w w' : World} {b o i : Nat} {p : BAct} (h : BActAt w b o i p) (hb : b < w.heap.size) (hx : Ext M w w') (hm : b ∉ M) : BActAt w' b o i p :=
  ⟨(hx.cell hb hm).trans h.c0, (hx.cell hb hm).trans h.c1, (hx.cell hb hm).trans h.c2, (hx.cell hb hm).trans h.c3⟩

section
variable {H : Type} {enc : TypeId × Value → H} {W : World} {base : Nat} {spare : Nat → Bool} {held : Bool} {r : Reach} {b0 : Nat} {v : Value} {d : DataW H} {p : List MemPlace}
theorem flat_bact {r : List Value} (h : FlatS [.i .i64, .i .i64, .i .i64, .i .i64] r) : ∃ a : BAct, r = a.cells ∧ True := by
  obtain ⟨a, _, rfl, _, h⟩ := h.int
  obtain ⟨b, _, rfl, hb, h⟩ := h.int
  obtain ⟨c, _, rfl, hc, h⟩ := h.int
  obtain ⟨d, _, rfl, hd, h⟩ := h.int
  obtain rfl := h.nil_
  exact ⟨⟨a, b, c, d, hb, hc, hd⟩, rfl, trivial⟩
theorem open_acts03 (hv : Value.okWide Try.prog W r b0 57 v) (h : DataW.Trod enc Try.prog W base spare held 57 v d p) : ∃ l : List BAct, BActs W v l := by
  obtain ⟨rows, h1, h2⟩ := open_flat_slice 5 (ks := [.i .i64, .i .i64, .i .i64, .i .i64]) Try.underlying57 (by kernel_rfl) hv h
  obtain ⟨l, rfl, _⟩ := rows_as (fun r => flat_bact) rows h2
  exact ⟨l, h1⟩
end

/-- Behind some acts. -/
def InB (w : World) (bg gF gn bb bp bl rp F n : Nat) (cur : World) : Prop :=
  Ext [] w cur ∧ Blk cur bg [.int .i64 (gF : Int), .int .i64 (gn : Int)] 56 ∧ Blk cur bb [.pointer (some ⟨bp, 0, none⟩), .pointer (some ⟨rp, 0, none⟩)] 61 ∧ ∃ kd od, BJ cur bp bl rp F n kd od
theorem InB.step {w cur cur2 : World} {bg gF gn bb bp bl rp F n : Nat} (h : InB w bg gF gn bb bp bl rp F n cur) (hn : w.heap.size ≤ bl ∧ w.heap.size ≤ rp) (hb : (bb ≠ bl ∧ bb ≠ rp) ∧ bg ≠ bl ∧ bg ≠ rp)
    (hx : Ext [bl, rp] cur cur2) (hB : ∃ kd od, BJ cur2 bp bl rp F n kd od) : InB w bg gF gn bb bp bl rp F n cur2 :=
  ⟨h.1.step hx (by simp; omega), h.2.1.ext hx (by simp; omega), h.2.2.1.ext hx (by simp; omega), hB⟩
theorem InB.ext {w cur cur2 : World} {bg gF gn bb bp bl rp F n : Nat} (h : InB w bg gF gn bb bp bl rp F n cur) (hx : Ext [] cur cur2) : InB w bg gF gn bb bp bl rp F n cur2 := by
  obtain ⟨h1, h2, h3, kd, od, h4⟩ := h
  exact ⟨h1.trans hx, h2.ext hx (by simp), h3.ext hx (by simp), kd, od, h4.ext0 hx⟩
theorem InB.played {w cur cur2 : World} {bg gF gn bb bp bl rp F n : Nat} {e : Ending} (h : InB w bg gF gn bb bp bl rp F n cur) (hn : w.heap.size ≤ bl ∧ w.heap.size ≤ rp) (hb : (bb ≠ bl ∧ bb ≠ rp) ∧ bg ≠ bl ∧ bg ≠ rp)
    (hp : PlayRet cur bp bl rp F n e cur2) : e = .returned (.bool true) ∧ InB w bg gF gn bb bp bl rp F n cur2 ∧ Ext [bl, rp] cur cur2 := by
  obtain ⟨rfl, hx, hB⟩ := hp
  exact ⟨rfl, h.step hn hb hx hB, hx⟩

end Go.Proofs.Ytkpnmknkimlnaaa
