/-
  Buddy's law: the program's allocator and the reference's side by side: what each call does to both.
-/
import Derived.Test.YtkpnmknkimlnaaaBlG
namespace Go.Proofs.Ytkpnmknkimlnaaa
set_option linter.unusedVariables false
set_option linter.unusedSimpArgs false
open Go.RowKit BuT
set_option maxHeartbeats 4000000
set_option maxRecDepth 100000
set_option linter.unusedVariables false
set_option linter.unusedSimpArgs false

/-- Both allocators tell the same blocks. -/
structure BJ (w : World) (bp bl rp F n : Nat) (kd od : Nat → Nat) : Prop where
  bud : Bud w bp bl F n kd od
  tiles : Tiles kd od n
  nobud : NoBud kd od n
  ref : RB w rp [bp, bl] F n (blks F kd od 1 n) (blks F kd od 2 n)
  np : bp ≠ rp
  nl : bl ≠ rp

theorem RB.ext {M K : List Nat} {w w' : World} {rp F n : Nat} {fr tk : List Bk} (h : RB w rp K F n fr tk) (hx : Ext M w w') (h1 : rp ∉ M) (h2 : ∀ b, b ∈ M → b ∈ K ∨ w.heap.size ≤ b) : RB w' rp K F n fr tk := by
  obtain ⟨vF, vT, h⟩ := h; exact ⟨vF, vT, h.ext hx h1 h2⟩
theorem BJ.ext0 {w w' : World} {bp bl rp F n : Nat} {kd od : Nat → Nat} (h : BJ w bp bl rp F n kd od) (hx : Ext [] w w') : BJ w' bp bl rp F n kd od :=
  ⟨h.bud.ext hx (by simp) (by simp), h.tiles, h.nobud, RB.ext h.ref hx (by simp) (by simp), h.np, h.nl⟩
theorem BJ.mk2 {w1 w2 : World} {bp bl rp F n : Nat} {kd od : Nat → Nat} {fr tk : List Bk} (hb : Bud w1 bp bl F n kd od) (ht : Tiles kd od n) (hn : NoBud kd od n) (np : bp ≠ rp) (nl : bl ≠ rp)
    (hx : Ext [rp] w1 w2) (hr : RB w2 rp [bp, bl] F n fr tk) (e1 : fr = blks F kd od 1 n) (e2 : tk = blks F kd od 2 n) : BJ w2 bp bl rp F n kd od := by
  subst e1 e2
  exact ⟨hb.ext hx (by simpa using np) (by simpa using nl), ht, hn, hr, np, nl⟩
theorem RB.old {w : World} {rp F n : Nat} {K : List Nat} {fr tk : List Bk} (h : RB w rp K F n fr tk) : rp < w.heap.size := by
  obtain ⟨_, _, h⟩ := h; exact h.head.lt
theorem BJ.ords {w : World} {bp bl rp F n : Nat} {kd od : Nat → Nat} (h : BJ w bp bl rp F n kd od) (c : Nat) (hc : c ≠ 0) : Ords (blks F kd od c n) := by
  intro x hx
  obtain ⟨i, hi, hk, rfl⟩ := mem_blks.1 hx
  have := h.tiles.ord i hi (by omega)
  simp; omega
theorem BJ.frames {w : World} {bp bl rp F n : Nat} {kd od : Nat → Nat} (h : BJ w bp bl rp F n kd od) (c : Nat) : ∀ x, x ∈ blks F kd od c n → 0 ≤ x.f ∧ x.f ≤ 10000 := by
  intro x hx
  obtain ⟨i, hi, hk, rfl⟩ := mem_blks.1 hx
  have := h.bud.n2
  have := h.bud.F8
  simp; omega
theorem BJ.len {w : World} {bp bl rp F n : Nat} {kd od : Nat → Nat} (h : BJ w bp bl rp F n kd od) (c : Nat) : (blks (F : Int) kd od c n).length ≤ 1024 := by
  have := blks_len (F := (F : Int)) (kd := kd) (od := od) (c := c) n
  have := h.bud.n2
  omega

/-- What the reference answers next, wherever new blocks are made meanwhile; both agree then. -/
def Follow (w : World) (bp bl rp F n : Nat) (g : FuncId) (args : Array Value) (v : Value) : Prop :=
  ∀ w1, Ext [] w w1 → Calls Try.prog g args w1 fun e w2 => e = .returned v ∧ Ext [rp] w1 w2 ∧ ∃ kd od, BJ w2 bp bl rp F n kd od

theorem takI_cases {F n : Nat} {kd od : Nat → Nat} (f o : Int) : (takI F n kd od f o = -1 ∧ (⟨f, o⟩ : Bk) ∉ blks F kd od 2 n) ∨ ∃ p, p < n ∧ kd p = 2 ∧ f = (F : Int) + (p : Int) ∧ o = ((od p : Nat) : Int) := by
  by_cases hc : (F : Int) ≤ f ∧ f < (F : Int) + n ∧ kd (f - F).toNat = 2 ∧ ((od (f - F).toNat : Nat) : Int) = o
  · obtain ⟨h1, h2, h3, h4⟩ := hc
    exact .inr ⟨(f - F).toNat, by omega, h3, by omega, h4.symm⟩
  · refine .inl ⟨by unfold takI; rw [if_neg hc], fun hm => hc ?_⟩
    obtain ⟨i, hi, hk, he⟩ := mem_blks.1 hm
    injection he with e1 e2
    subst e1 e2
    have : ((F : Int) + (i : Int) - F).toNat = i := by omega
    rw [this]
    exact ⟨by omega, by omega, hk, rfl⟩
theorem mem_tk {F n : Nat} {kd od : Nat → Nat} {p : Nat} (hp : p < n) (h2 : kd p = 2) : (⟨(F : Int) + (p : Int), ((od p : Nat) : Int)⟩ : Bk) ∈ blks F kd od 2 n := mem_blks.2 ⟨p, hp, h2, rfl⟩
theorem del_tk {F n : Nat} {kd od : Nat → Nat} {p : Nat} (hp : p < n) (h2 : kd p = 2) : withoutB (blks F kd od 2 n) (placeB (blks F kd od 2 n) ⟨(F : Int) + (p : Int), ((od p : Nat) : Int)⟩).toNat = blks F (upd kd p 0) od 2 n := by
  rw [(del_free (F := (F : Int)) (od := od) hp h2).resolve_right (by omega)]
  exact blks_congr fun i hi => by unfold upd; split <;> simp
section
variable {w : World} {bp bl rp F n : Nat} {kd od : Nat → Nat} (h : BJ w bp bl rp F n kd od)
include h
theorem BJ.alloc (o : Int) : Calls Try.prog 33 #[.pointer (some ⟨bp, 0, none⟩), .int .i64 o] w fun e w' =>
    ∃ x y : Int, e = .returned (.tuple #[.int .i64 x, .int .i64 y]) ∧ Ext [bl] w w' ∧ Follow w' bp bl rp F n 60 #[.pointer (some ⟨rp, 0, none⟩), .int .i64 o] (.tuple #[.int .i64 x, .int .i64 y]) := by
  by_cases ho : o < 0 ∨ 9 < o
  · refine (h.bud.alloc_bad o ho).mono ?_
    rintro e w' ⟨rfl, hx⟩
    refine ⟨0, 1, rfl, hx.mono (by simp), fun w1 hx1 => (ralloc_bad w1 _ o ho).mono ?_⟩
    rintro e w2 ⟨rfl, rfl⟩
    exact ⟨rfl, Ext.refl _ _, kd, od, (h.ext0 hx).ext0 hx1⟩
  · obtain ⟨m, rfl⟩ := Int.eq_ofNat_of_zero_le (show 0 ≤ o by omega)
    have hm : m ≤ 9 := by omega
    have hbs := best_same (F := (F : Int)) (kd := kd) (od := od) (n := n) m n (Nat.le_refl _)
    have hbp := h.bud.head.lt
    have hbl := h.bud.tab.lt
    have hrp := h.ref.old
    refine (h.bud.alloc_ h.tiles m hm).mono ?_
    intro e w' hret
    cases hb : bestI kd od m n with
    | none =>
      rw [hb] at hret
      obtain ⟨rfl, hx⟩ := hret
      refine ⟨0, 6, rfl, hx.mono (by simp), fun w1 hx1 => ?_⟩
      have hJ := (h.ext0 hx).ext0 hx1
      refine (ralloc_c w1 rp [bp, bl] F n _ _ hJ.ref (fun b hb => ?_) (h.ords 1 (by omega)) (h.frames 1) (h.len 1) (h.len 2) m hm).mono ?_
      · have := hx.size; have := hx1.size; simp at hb; omega
      rw [hbs.1 hb]
      rintro e w2 ⟨rfl, hx2⟩
      exact ⟨rfl, hx2.mono (by simp), kd, od, hJ.ext0 hx2⟩
    | some p =>
      rw [hb] at hret
      obtain ⟨rfl, hx, hbud⟩ := hret
      obtain ⟨hp, hp1, hpo⟩ := bestI_some hb
      refine ⟨_, _, rfl, hx, fun w1 hx1 => ?_⟩
      have hR := RB.ext (RB.ext h.ref hx (by simpa using h.nl.symm) (by simp)) hx1 (by simp) (by simp)
      refine (ralloc_c w1 rp [bp, bl] F n _ _ hR (fun b hb => ?_) (h.ords 1 (by omega)) (h.frames 1) (h.len 1) (h.len 2) m hm).mono ?_
      · have := hx.size; have := hx1.size; simp at hb; omega
      rw [hbs.2 p hb]
      have hg := blks_get (F := (F : Int)) (od := od) hp hp1
      rintro e w2 hret
      unfold RAlRet at hret
      simp only [hg, Int.toNat_natCast] at hret
      obtain ⟨rfl, hx2, hR2⟩ := hret
      have ht := alloc_tiles h.tiles h.nobud hp hp1 hpo
      exact ⟨rfl, hx2, _, _, BJ.mk2 (hbud.ext hx1 (by simp) (by simp)) ht.1 ht.2 h.np h.nl hx2 hR2 (alloc_free h.tiles hp hp1).symm (alloc_taken h.tiles hp hp1).symm⟩

theorem BJ.free (f o : Int) (hf : f ≤ 9223372036854775807) : Calls Try.prog 29 #[.pointer (some ⟨bp, 0, none⟩), .int .i64 f, .int .i64 o] w fun e w' =>
    ∃ x : Int, e = .returned (.int .i64 x) ∧ Ext [bl] w w' ∧ Follow w' bp bl rp F n 61 #[.pointer (some ⟨rp, 0, none⟩), .int .i64 f, .int .i64 o] (.int .i64 x) := by
  rcases takI_cases (F := F) (n := n) (kd := kd) (od := od) f o with ⟨ht, hno⟩ | ⟨p, hp, h2, rfl, rfl⟩
  · refine (h.bud.free_no f o hf ht).mono ?_
    rintro e w' ⟨rfl, hx⟩
    refine ⟨4, rfl, hx.mono (by simp), fun w1 hx1 => ?_⟩
    have hJ := (h.ext0 hx).ext0 hx1
    refine (rgive_no w1 rp [bp, bl] F n _ _ f o hJ.ref (by have := h.len 2; omega) hno).mono ?_
    rintro e w2 ⟨rfl, hx2⟩
    exact ⟨rfl, hx2.mono (by simp), kd, od, hJ.ext0 hx2⟩
  · have hbp := h.bud.head.lt
    have hbl := h.bud.tab.lt
    have ho9 := h.tiles.ord p hp (by omega)
    refine (h.bud.free_is h.tiles h.nobud hp h2).mono ?_
    rintro e w' ⟨rfl, hx, kd', od', hb', ht', hn', e1, e2⟩
    refine ⟨0, rfl, hx, fun w1 hx1 => ?_⟩
    have hR := RB.ext (RB.ext h.ref hx (by simpa using h.nl.symm) (by simp)) hx1 (by simp) (by simp)
    refine (rgive_is w1 rp [bp, bl] F n _ _ p (od p) hR (fun b hb => ?_) (h.len 1) (h.len 2) h.bud.F8 (by have := h.bud.n2; omega) ho9 (h.tiles.al p hp (by omega)) (mem_tk hp h2)).mono ?_
    · have := hx.size; have := hx1.size; simp at hb; omega
    rintro e w2 ⟨rfl, hx2, hR2⟩
    exact ⟨rfl, hx2, kd', od', BJ.mk2 (hb'.ext hx1 (by simp) (by simp)) ht' hn' h.np h.nl hx2 hR2 e1.symm ((del_tk hp h2).trans e2.symm)⟩
theorem BJ.shatter (f o : Int) (hf : f ≤ 9223372036854775807) : Calls Try.prog 34 #[.pointer (some ⟨bp, 0, none⟩), .int .i64 f, .int .i64 o] w fun e w' =>
    ∃ x : Int, e = .returned (.int .i64 x) ∧ Ext [bl] w w' ∧ Follow w' bp bl rp F n 62 #[.pointer (some ⟨rp, 0, none⟩), .int .i64 f, .int .i64 o] (.int .i64 x) := by
  rcases takI_cases (F := F) (n := n) (kd := kd) (od := od) f o with ⟨ht, hno⟩ | ⟨p, hp, h2, rfl, rfl⟩
  · refine (h.bud.shatter_no f o hf ht).mono ?_
    rintro e w' ⟨rfl, hx⟩
    refine ⟨4, rfl, hx.mono (by simp), fun w1 hx1 => ?_⟩
    have hJ := (h.ext0 hx).ext0 hx1
    refine (rshatter_no w1 rp [bp, bl] F n _ _ f o hJ.ref (by have := h.len 2; omega) hno).mono ?_
    rintro e w2 ⟨rfl, hx2⟩
    exact ⟨rfl, hx2.mono (by simp), kd, od, hJ.ext0 hx2⟩
  · have hbp := h.bud.head.lt
    have hbl := h.bud.tab.lt
    have ho9 := h.tiles.ord p hp (by omega)
    have hF := h.bud.F8
    have hn := h.bud.n2
    refine (h.bud.shatter_is h.tiles hp h2).mono ?_
    rintro e w' ⟨rfl, hx, hb'⟩
    refine ⟨0, rfl, hx, fun w1 hx1 => ?_⟩
    have hR := RB.ext (RB.ext h.ref hx (by simpa using h.nl.symm) (by simp)) hx1 (by simp) (by simp)
    refine (rshatter_is w1 rp [bp, bl] F n _ _ _ (od p) hR (fun b hb => ?_) (h.len 2) (by omega) ho9 (mem_tk hp h2)).mono ?_
    · have := hx.size; have := hx1.size; simp at hb; omega
    rintro e w2 ⟨rfl, hx2, hR2⟩
    have ht := sh_tiles h.tiles h.nobud hp h2
    exact ⟨rfl, hx2, _, _, BJ.mk2 (hb'.ext hx1 (by simp) (by simp)) ht.1 ht.2 h.np h.nl hx2 hR2 (sh_free h.tiles hp h2).symm (by rw [del_tk hp h2]; exact (sh_taken h.tiles hp h2).symm)⟩
end

end Go.Proofs.Ytkpnmknkimlnaaa
