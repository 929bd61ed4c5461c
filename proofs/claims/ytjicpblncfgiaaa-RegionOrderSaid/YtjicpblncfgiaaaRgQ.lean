/-
  Region's laws: calls in memory; both spaces together.
-/
import Derived.Test.YtjicpblncfgiaaaArgs
import Derived.Test.YtjicpblncfgiaaaFlat
import Derived.Test.YtjicpblncfgiaaaRgL
import Derived.Test.YtjicpblncfgiaaaRgM
import Derived.Test.YtjicpblncfgiaaaRgN
import Derived.Test.YtjicpblncfgiaaaRgO
import Derived.Test.YtjicpblncfgiaaaRgY
namespace Go.Proofs.Ytjicpblncfgiaaa
set_option linter.unusedVariables false
set_option linter.unusedSimpArgs false
open Go.ChangeShapes Go.WideShapes Go.ChangeAt Go.RowKit RgT SpT
set_option maxHeartbeats 4000000
set_option maxRecDepth 100000
set_option linter.unusedVariables false
set_option linter.unusedSimpArgs false

/-- The calls lie in a slice. -/
def RCalls (w : World) (v : Value) (l : List Cl) : Prop := SlC w 8 v (l.map Cl.cells)
theorem RCalls.ext_new {M : List Nat} {w w' : World} {v : Value} {l : List Cl} (h : RCalls w v l) (hx : Ext M w w') (hm : ∀ b, b ∈ M → w.heap.size ≤ b) : RCalls w' v l := SlC.ext_new h hx hm
theorem RCalls.form {w : World} {v : Value} {l : List Cl} (h : RCalls w v l) : ∃ a cap, v = .slice a l.length cap ∧ l.length ≤ maxLen ∧ RCalls w (.slice a l.length cap) l := by
  have h' := h
  obtain ⟨a, cap, h1, h2, h3, h4, h5⟩ := h
  simp only [List.length_map] at h1 h2
  subst h1
  exact ⟨a, cap, rfl, by omega, h'⟩
/-- A call among them. -/
structure CAt (w : World) (b o : Nat) (i : Nat) (p : Cl) : Prop where
  c0 : w.cell? ⟨b, o + i * 8, none⟩ = some (.int .i64 p.k)
  c1 : w.cell? ⟨b, o + i * 8 + 1, none⟩ = some (.int .i64 p.pg)
  c2 : w.cell? ⟨b, o + i * 8 + 2, none⟩ = some (.int .i64 p.n)
  c3 : w.cell? ⟨b, o + i * 8 + 3, none⟩ = some (.int .i64 p.pm)
  c4 : w.cell? ⟨b, o + i * 8 + 4, none⟩ = some (.int .i64 p.pk)
  c5 : w.cell? ⟨b, o + i * 8 + 5, none⟩ = some (.int .i64 p.pn)
  c6 : w.cell? ⟨b, o + i * 8 + 6, none⟩ = some (.int .i64 p.ad)
  c7 : w.cell? ⟨b, o + i * 8 + 7, none⟩ = some (.int .i64 p.by_)
theorem RCalls.at_ {w : World} {a : Option Addr} {n cap : Nat} {l : List Cl} (h : RCalls w (.slice a n cap) l) {i : Nat} (hi : i < l.length) : ∃ b o, a = some ⟨b, o, none⟩ ∧ b < w.heap.size ∧ CAt w b o i l[i] := by
  obtain ⟨a', cap', h1, h2, h3, h4, h5⟩ := h
  cases h1
  obtain ⟨b, o, ha, hb, hc⟩ := h5 (by simp; omega)
  have hr : (l.map Cl.cells)[i]? = some l[i].cells := by simp [hi]
  have g := fun j u => hc i _ hr j u
  exact ⟨b, o, ha, hb, ⟨g 0 _ rfl, g 1 _ rfl, g 2 _ rfl, g 3 _ rfl, g 4 _ rfl, g 5 _ rfl, g 6 _ rfl, g 7 _ rfl⟩⟩
theorem CAt.ext {M : List Nat} {w w' : World} {b o i : Nat} {p : Cl} (h : CAt w b o i p) (hb : b < w.heap.size) (hx : Ext M w w') (hm : b ∉ M) : CAt w' b o i p :=
  ⟨(hx.cell hb hm).trans h.c0, (hx.cell hb hm).trans h.c1, (hx.cell hb hm).trans h.c2, (hx.cell hb hm).trans h.c3, (hx.cell hb hm).trans h.c4, (hx.cell hb hm).trans h.c5, (hx.cell hb hm).trans h.c6, (hx.cell hb hm).trans h.c7⟩
section
variable {H : Type} {enc : TypeId × Value → H} {W : World} {base : Nat} {spare : Nat → Bool} {held : Bool} {r : Reach} {b0 : Nat} {v : Value} {d : DataW H} {p : List MemPlace}
theorem flat_rcall {r : List Value} (h : FlatS [.i .i64, .i .i64, .i .i64, .i .i64, .i .i64, .i .i64, .i .i64, .i .i64] r) : ∃ a : Cl, r = a.cells ∧ True := by
  obtain ⟨a, _, rfl, _, h⟩ := h.int
  obtain ⟨b, _, rfl, _, h⟩ := h.int
  obtain ⟨c, _, rfl, _, h⟩ := h.int
  obtain ⟨d, _, rfl, _, h⟩ := h.int
  obtain ⟨e, _, rfl, _, h⟩ := h.int
  obtain ⟨f, _, rfl, _, h⟩ := h.int
  obtain ⟨g, _, rfl, _, h⟩ := h.int
  obtain ⟨i, _, rfl, _, h⟩ := h.int
  obtain rfl := h.nil_
  exact ⟨⟨a, b, c, d, e, f, g, i⟩, rfl, trivial⟩
theorem open_rcalls (hv : Value.okWide Try.prog W r b0 22 v) (h : DataW.Trod enc Try.prog W base spare held 22 v d p) : ∃ l : List Cl, RCalls W v l := by
  obtain ⟨rows, h1, h2⟩ := open_flat_slice 5 (ks := [.i .i64, .i .i64, .i .i64, .i .i64, .i .i64, .i .i64, .i .i64, .i .i64]) Try.underlying22 (by kernel_rfl) hv h
  obtain ⟨l, rfl, _⟩ := rows_as (fun r => flat_rcall) rows h2
  exact ⟨l, h1⟩
theorem open_rcall (hv : Value.okWide Try.prog W r b0 39 v) (h : DataW.Trod enc Try.prog W base spare held 39 v d p) : ∃ a : Cl, v = .agg #[.int .i64 a.k, .int .i64 a.pg, .int .i64 a.n, .int .i64 a.pm, .int .i64 a.pk, .int .i64 a.pn, .int .i64 a.ad, .int .i64 a.by_] ∧ (-9223372036854775808 ≤ a.pg ∧ a.pg ≤ 9223372036854775807) ∧ (-9223372036854775808 ≤ a.n ∧ a.n ≤ 9223372036854775807) := by
  obtain ⟨cs, rfl, hf⟩ := open_flat_struct 5 (ks := [.c (.i .i64), .c (.i .i64), .c (.i .i64), .c (.i .i64), .c (.i .i64), .c (.i .i64), .c (.i .i64), .c (.i .i64)]) Try.underlying39 (by kernel_rfl) hv h
  obtain ⟨a, _, q, _, hf⟩ := hf.int
  obtain ⟨b, _, rfl, hb, hf⟩ := hf.int
  obtain ⟨c, _, rfl, hc, hf⟩ := hf.int
  obtain ⟨d, _, rfl, _, hf⟩ := hf.int
  obtain ⟨e, _, rfl, _, hf⟩ := hf.int
  obtain ⟨f, _, rfl, _, hf⟩ := hf.int
  obtain ⟨g, _, rfl, _, hf⟩ := hf.int
  obtain ⟨i, _, rfl, _, hf⟩ := hf.int
  obtain rfl := hf.nil_
  exact ⟨⟨a, b, c, d, e, f, g, i⟩, by rw [array_of q], hb, hc⟩
end

/-- Both spaces lie in memory. -/
structure RH (w : World) (sp mp rp : Nat) (nodes : Int) (L : List (Sp U)) (f : Nat → Option U) : Prop where
  s : SpIs w sp mp nodes L
  r : RB9 w rp nodes f
theorem NoRow.rspace {w : World} {b : Nat} {cs : List Value} (h : Blk w b cs 91) : SpU.NoRow w b := fun cur e => by
  unfold Blk at h; rw [h] at e; injection e with e; injection e with _ e; exact absurd e (by decide)
theorem RH.ext0 {w w' : World} {sp mp rp : Nat} {nodes : Int} {L : List (Sp U)} {f : Nat → Option U} (h : RH w sp mp rp nodes L f) (hx : Ext [] w w') : RH w' sp mp rp nodes L f := by
  obtain ⟨bi, bp, bq, hr⟩ := h.r
  exact ⟨h.s.ext0 hx, bi, bp, bq, hr.ext0 hx⟩
/-- The space has changed, the reference has not. -/
theorem RB9.beside {w w' : World} {sp rp : Nat} {nodes : Int} {f : Nat → Option U} (h : RB9 w rp nodes f) {cs : List Value} {t : TypeId} (hb : Blk w sp cs t) (hl : cs.length < 4) (hx : Ext [sp] w w') : RB9 w' rp nodes f := by
  obtain ⟨bi, bp, bq, hr⟩ := h
  obtain ⟨n1, n2, n3, n4⟩ := hr.off hb hl
  exact ⟨bi, bp, bq, hr.ext hx (by simpa using n1) (by simpa using n2) (by simpa using n3) (by simpa using n4)⟩
theorem RB9.head {w : World} {rp : Nat} {nodes : Int} {f : Nat → Option U} (h : RB9 w rp nodes f) : ∃ v1 v2 v3, Blk w rp [.int .i64 nodes, v1, v2, v3] 91 := by
  obtain ⟨bi, bp, bq, hr⟩ := h
  exact ⟨_, _, _, hr.head⟩
theorem SpIs.beside {w w' : World} {sp mp rp : Nat} {nodes : Int} {L : List (Sp U)} {cs : List Value} (h : SpIs w sp mp nodes L) (hb : Blk w rp cs 91) (hx : Ext [rp] w w') : SpIs w' sp mp nodes L := by
  have n1 : sp ≠ rp := by
    rintro rfl
    have h1 := h.head
    unfold Blk at h1 hb
    rw [h1] at hb; injection hb with hb; injection hb with _ hb; exact absurd hb (by decide)
  have n2 : mp ≠ rp := by
    rintro rfl
    obtain ⟨v, h1, _⟩ := h.map
    unfold Blk at h1 hb
    rw [h1] at hb; injection hb with hb; injection hb with _ hb; exact absurd hb (by decide)
  exact ⟨h.head.ext hx (by simpa using n1), h.map.ext hx (by simpa using n2) (fun q hq => by rw [List.mem_singleton.1 hq]; exact NoRow.rspace hb), h.len⟩
section
variable {w : World} {sp mp rp : Nat} {nodes : Int} {L : List (Sp U)} {f : Nat → Option U} (h : RH w sp mp rp nodes L f)
include h
theorem RH.check (c : Cl) : Calls Try.prog 24 #[.pointer (some ⟨sp, 0, none⟩), .agg #[.int .i64 c.k, .int .i64 c.pg, .int .i64 c.n, .int .i64 c.pm, .int .i64 c.pk, .int .i64 c.pn, .int .i64 c.ad, .int .i64 c.by_]] w fun e w' => e = .returned (.int .i64 (c.chk nodes)) ∧ Ext [] w w' :=
  check_c w sp mp nodes c.k c.pg c.n c.pm c.pk c.pn c.ad c.by_ h.s.head
theorem RH.rcheck (c : Cl) : Calls Try.prog 37 #[.pointer (some ⟨rp, 0, none⟩), .agg #[.int .i64 c.k, .int .i64 c.pg, .int .i64 c.n, .int .i64 c.pm, .int .i64 c.pk, .int .i64 c.pn, .int .i64 c.ad, .int .i64 c.by_]] w fun e w' => e = .returned (.int .i64 (c.chk nodes)) ∧ Ext [] w w' := by
  obtain ⟨v1, v2, v3, hb⟩ := h.r.head
  exact rcheck_c w rp v1 v2 v3 nodes c.k c.pg c.n c.pm c.pk c.pn c.ad c.by_ hb
theorem RH.apply (hT : Tie L f) (c : Cl) : Calls Try.prog 20 #[.pointer (some ⟨sp, 0, none⟩), .agg #[.int .i64 c.k, .int .i64 c.pg, .int .i64 c.n, .int .i64 c.pm, .int .i64 c.pk, .int .i64 c.pn, .int .i64 c.ad, .int .i64 c.by_]] w
    fun e w' => e = .returned (.agg #[.int .i64 (applyF nodes c f).1, .int .i64 0]) ∧ Ext [sp] w w' ∧ ∃ mp, RH w' sp mp rp nodes (applyL nodes c L).2 f :=
  (sapply_c w sp mp nodes L f h.s hT c).mono fun e w' ⟨h1, h2, mp', h3⟩ => ⟨by rw [h1, (apply_tie hT nodes c).1], h2, mp', h3, h.r.beside h.s.head (by simp) h2⟩
theorem RH.rapply (hn : 1 ≤ nodes ∧ nodes ≤ 8) (hb : ∀ p, 4096 ≤ p → f p = none) (c : Cl) : Calls Try.prog 38 #[.pointer (some ⟨rp, 0, none⟩), .agg #[.int .i64 c.k, .int .i64 c.pg, .int .i64 c.n, .int .i64 c.pm, .int .i64 c.pk, .int .i64 c.pn, .int .i64 c.ad, .int .i64 c.by_]] w
    fun e w' => e = .returned (.agg #[.int .i64 (applyF nodes c f).1, .int .i64 0]) ∧ Ext [rp] w w' ∧ RH w' sp mp rp nodes L (applyF nodes c f).2 := by
  obtain ⟨bi, bp, bq, hr⟩ := h.r
  exact (rapply_c w rp bi bp bq nodes f hr hn.1 hn.2 hb c).mono fun e w' ⟨h1, h2, h3⟩ => ⟨h1, h2, h.s.beside hr.head h2, h3⟩
theorem RH.all : Calls Try.prog 17 #[.pointer (some ⟨rp, 0, none⟩)] w (GNew w (allK f 4096)) := by
  obtain ⟨bi, bp, bq, hr⟩ := h.r
  exact rall_c w rp bi bp bq nodes f hr
theorem RH.rfind (page : Int) : Calls Try.prog 22 #[.pointer (some ⟨rp, 0, none⟩), .int .i64 page] w fun e w' => e = .returned (findV ((allK f 4096).find? (SpU.findIn page))) ∧ Ext [] w w' := by
  obtain ⟨bi, bp, bq, hr⟩ := h.r
  exact rfind_c w rp bi bp bq nodes f hr page
end
/-- Both tell the same. -/
structure RJ (w : World) (sp mp rp : Nat) (nodes : Int) (L : List (Sp U)) (f : Nat → Option U) : Prop where
  h : RH w sp mp rp nodes L f
  tie : Tie L f
  n : 1 ≤ nodes ∧ nodes ≤ 8
  l64 : L.length ≤ 64
  ok : OkF nodes f
theorem RJ.ext0 {w w' : World} {sp mp rp : Nat} {nodes : Int} {L : List (Sp U)} {f : Nat → Option U} (h : RJ w sp mp rp nodes L f) (hx : Ext [] w w') : RJ w' sp mp rp nodes L f := ⟨h.h.ext0 hx, h.tie, h.n, h.l64, h.ok⟩
theorem RJ.high {w : World} {sp mp rp : Nat} {nodes : Int} {L : List (Sp U)} {f : Nat → Option U} (h : RJ w sp mp rp nodes L f) : ∀ p, 4096 ≤ p → f p = none := fun p hp => by
  cases hf : f p with
  | none => rfl
  | some v => have := h.tie.bound hf; omega
theorem applyL_64 {nodes : Int} {c : Cl} {L : List (Sp U)} (h : L.length ≤ 64) : (applyL nodes c L).2.length ≤ 64 := by
  unfold applyL
  split
  · exact h
  · split
    · exact h
    · split
      · exact h
      · rename_i h'; simp only []; omega

/-- A space alone, told by its pages. -/
def TS (w : World) (sp : Nat) (nodes : Int) (f : Nat → Option U) : Prop := ∃ mp, SpIs w sp mp nodes (allK f 4096) ∧ Tie (allK f 4096) f ∧ (allK f 4096).length ≤ 64
theorem RJ.ts {w : World} {sp mp rp : Nat} {nodes : Int} {L : List (Sp U)} {f : Nat → Option U} (h : RJ w sp mp rp nodes L f) : TS w sp nodes f := ⟨mp, by rw [h.tie.all]; exact h.h.s, by rw [h.tie.all]; exact h.tie, by rw [h.tie.all]; exact h.l64⟩
theorem TS.ext0 {w w' : World} {sp : Nat} {nodes : Int} {f : Nat → Option U} (h : TS w sp nodes f) (hx : Ext [] w w') : TS w' sp nodes f := by
  obtain ⟨mp, h1, h2, h3⟩ := h
  exact ⟨mp, h1.ext0 hx, h2, h3⟩
theorem TS.lt {w : World} {sp : Nat} {nodes : Int} {f : Nat → Option U} (h : TS w sp nodes f) : sp < w.heap.size := by
  obtain ⟨mp, h1, h2, h3⟩ := h
  exact h1.head.lt
/-- One space has changed, another has not. -/
theorem TS.beside {w w' : World} {sp tp : Nat} {nodes n2 : Int} {f g : Nat → Option U} (h : TS w tp n2 g) (hs : TS w sp nodes f) (hne : tp ≠ sp) (hx : Ext [sp] w w') : TS w' tp n2 g := by
  obtain ⟨tm, h1, h2, h3⟩ := h
  obtain ⟨mp, s1, _, _⟩ := hs
  have n2 : tm ≠ sp := by
    rintro rfl
    obtain ⟨v, k1, _⟩ := h1.map
    have k2 := s1.head
    unfold Blk at k1 k2
    rw [k1] at k2; injection k2 with k2; injection k2 with _ k2; exact absurd k2 (by decide)
  exact ⟨tm, ⟨h1.head.ext hx (by simpa using hne), h1.map.ext hx (by simpa using n2) (fun q hq => by rw [List.mem_singleton.1 hq]; exact NoRow.space s1.head), h1.len⟩, h2, h3⟩
section
variable {w : World} {sp : Nat} {nodes : Int} {f : Nat → Option U} (h : TS w sp nodes f)
include h
theorem TS.apply (c : Cl) : Calls Try.prog 20 #[.pointer (some ⟨sp, 0, none⟩), .agg #[.int .i64 c.k, .int .i64 c.pg, .int .i64 c.n, .int .i64 c.pm, .int .i64 c.pk, .int .i64 c.pn, .int .i64 c.ad, .int .i64 c.by_]] w
    fun e w' => e = .returned (.agg #[.int .i64 (applyF nodes c f).1, .int .i64 0]) ∧ Ext [sp] w w' ∧ TS w' sp nodes (applyF nodes c f).2 := by
  obtain ⟨mp, h1, h2, h3⟩ := h
  refine (sapply_c w sp mp nodes _ f h1 h2 c).mono fun e w' ⟨e1, e2, mp', e3⟩ => ⟨by rw [e1, (apply_tie h2 nodes c).1], e2, mp', ?_⟩
  have ht := (apply_tie h2 nodes c).2
  rw [ht.all]
  exact ⟨e3, ht, applyL_64 h3⟩
theorem TS.find (page : Int) : Calls Try.prog 21 #[.pointer (some ⟨sp, 0, none⟩), .int .i64 page] w fun e w' => e = .returned (findV ((allK f 4096).find? (SpU.findIn page))) ∧ Ext [] w w' := by
  obtain ⟨mp, h1, h2, h3⟩ := h
  exact h1.find_ page
theorem TS.copy : Calls Try.prog 23 #[.pointer (some ⟨sp, 0, none⟩)] w fun e w' => ∃ tp, e = .returned (.pointer (some ⟨tp, 0, none⟩)) ∧ Ext [] w w' ∧ TS w' tp nodes f ∧ w.heap.size ≤ tp := by
  obtain ⟨mp, h1, h2, h3⟩ := h
  exact h1.copy_.mono fun e w' ⟨tp, tm, e1, e2, e3, e4, _⟩ => ⟨tp, e1, e2, ⟨tm, e3, h2, h3⟩, e4⟩
end

end Go.Proofs.Ytjicpblncfgiaaa
