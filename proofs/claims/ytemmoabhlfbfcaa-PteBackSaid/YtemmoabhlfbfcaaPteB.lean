/-
  Walks over package pte and its reference: words out of parts.
-/
import Derived.Test.YtemmoabhlfbfcaaPteA
namespace Go.Proofs.Ytemmoabhlfbfcaa
set_option linter.unusedVariables false
set_option linter.unusedSimpArgs false
open Go.RowKit
set_option maxHeartbeats 1000000
set_option maxRecDepth 10000

def PTE.low (p : PTE) : Int :=
  bits .or .u64 (bits .or .u64 (bits .or .u64 (bits .or .u64 (bits .or .u64 (bits .or .u64 (bitV p.pr 1) (bitV p.wr 2)) (bitV p.hu 4)) (bitV p.ac 8)) (bitV p.di 16)) (bitV p.ma 32)) (bitV p.re 64)
/-- The word of parts. -/
def PTE.word (p : PTE) : Int := bits .or .u64 p.low (p.fr * 4096)
def PTE.encW (p : PTE) : Int := if p.may then p.word else 0
/-- What Encode answers. -/
def PTE.encV (p : PTE) : Value := .tuple #[.int .u64 p.encW, .int .i64 p.err]

theorem PTE.may_fr {p : PTE} (h : p.may = true) : 0 ≤ p.fr ∧ p.fr < 8192 := by
  unfold PTE.may at h; simp at h; omega

theorem word_c (p : PTE) (w : World) (h0 : 0 ≤ p.fr) (h1 : p.fr < 8192) : Calls Try.prog 53 #[.agg p.cells] w fun e w' => e = .returned (.int .u64 p.word) ∧ Ext [] w w' := by
  obtain ⟨pr, wr, hu, ac, di, ma, re, fr⟩ := p
  unfold PTE.cells
  simp only [] at h0 h1 ⊢
  have C := Lib.hid (fun b n h w => rbit_c b n h w)
  go_enter Try.func53, Try.ntmps53
  go_wp2
  go_quiet ((go_at_call 55; exact Calls.quiet_of_same ((C.out _ _ (by decide) _).mono fun _ _ h => ⟨h.1, h.2.symm⟩)))
  go_wp2
  go_ret
  exact ⟨rfl, ((Ext.refl _ _).alloc _).drewN _⟩

theorem renc_c (p : PTE) (w : World) : Calls Try.prog 26 #[.agg p.cells] w fun e w' => e = .returned p.encV ∧ Ext [] w w' := by
  have C := Lib.hid (fun w => rmay_c p w)
  have CW := Lib.hid (fun w h0 h1 => word_c p w h0 h1)
  unfold PTE.encV PTE.encW PTE.err
  have hfr := @PTE.may_fr p
  generalize p.word = wd at *
  generalize hm : p.may = m at *
  obtain ⟨pr, wr, hu, ac, di, ma, re, fr⟩ := p
  unfold PTE.cells at *
  simp only [] at *
  clear hm
  cases m
  · go_enter Try.func26, Try.ntmps26
    go_wp2_with (go_at_call 52; refine (C.out _).mono ?_; rintro e w' ⟨rfl, hx⟩; have hx' := ((Ext.refl [] w).alloc _).trans hx)
    go_ret2
    exact ⟨rfl, hx'⟩
  · have hfr' := hfr rfl
    clear hfr
    have Hf := Lib.hid hfr'
    clear hfr'
    go_enter Try.func26, Try.ntmps26
    have hB := Blk.new w [.bool pr, .bool wr, .bool hu, .bool ac, .bool di, .bool ma, .bool re, .int .i64 fr] 39
    go_wp2_with (first
      | (go_at_call 52; refine (C.out _).mono ?_; rintro e w' ⟨rfl, hx⟩; have hx' := ((Ext.refl [] w).alloc _).trans hx; have hB' := hB.ext hx (by simp); have k0 := hB'.cell 0; have k1 := hB'.cell 1; have k2 := hB'.cell 2; have k3 := hB'.cell 3; have k4 := hB'.cell 4; have k5 := hB'.cell 5; have k6 := hB'.cell 6; have k7 := hB'.cell 7)
      | (go_at_call 53; refine (CW.out _ Hf.out.1 Hf.out.2).mono ?_; rintro e w2 ⟨rfl, hx2⟩))
    go_ret2
    exact ⟨rfl, hx'.trans hx2⟩

theorem enc_c (p : PTE) (w : World) : Calls Try.prog 25 #[.agg p.cells] w fun e w' => e = .returned p.encV ∧ Ext [] w w' := by
  have C := Lib.hid (fun w => check_c p w)
  have CB := Lib.hid (fun b n w => bit_c b n w)
  have hfr := @PTE.may_fr p
  by_cases hm : p.may = true
  · have e1 : p.encV = .tuple #[.int .u64 p.word, .int .i64 0] := by unfold PTE.encV PTE.encW PTE.err; rw [if_pos hm, if_pos hm]
    have e2 : p.err = 0 := by unfold PTE.err; rw [if_pos hm]
    rw [e1]
    rw [e2] at C
    have hfr' := hfr hm
    obtain ⟨pr, wr, hu, ac, di, ma, re, fr⟩ := p
    unfold PTE.cells at *
    simp only [] at hfr' C ⊢
    obtain ⟨h0, h1⟩ := hfr'
    clear hfr hm e1 e2
    go_enter Try.func25, Try.ntmps25
    have hB := Blk.new w [.bool pr, .bool wr, .bool hu, .bool ac, .bool di, .bool ma, .bool re, .int .i64 fr] 39
    go_wp2_with (go_at_call 27; refine (C.out _).mono ?_; rintro e w' ⟨rfl, hx⟩; have hx' := ((Ext.refl [] w).alloc _).trans hx; have hB' := hB.ext hx (by simp); have k0 := hB'.cell 0; have k1 := hB'.cell 1; have k2 := hB'.cell 2; have k3 := hB'.cell 3; have k4 := hB'.cell 4; have k5 := hB'.cell 5; have k6 := hB'.cell 6; have k7 := hB'.cell 7)
    go_quiet ((go_at_call 51; exact Calls.quiet_of_same ((CB.out _ _ _).mono fun _ _ h => ⟨h.1, h.2.symm⟩)))
    go_wp2
    go_ret2
    exact ⟨rfl, hx'.drewN _⟩
  · have hm' : p.may = false := by simpa using hm
    have e1 : p.encV = .tuple #[.int .u64 0, .int .i64 1] := by unfold PTE.encV PTE.encW PTE.err; rw [hm']; rfl
    have e2 : p.err = 1 := by unfold PTE.err; rw [hm']; rfl
    rw [e1]
    rw [e2] at C
    obtain ⟨pr, wr, hu, ac, di, ma, re, fr⟩ := p
    unfold PTE.cells at *
    simp only [] at C ⊢
    clear hfr hm hm' e1 e2
    go_enter Try.func25, Try.ntmps25
    go_wp2_with (go_at_call 27; refine (C.out _).mono ?_; rintro e w' ⟨rfl, hx⟩; have hx' := ((Ext.refl [] w).alloc _).trans hx)
    go_ret2
    exact ⟨rfl, hx'⟩

/-- The parts that a word's bits say. -/
def PTE.dec (v : Int) : PTE :=
  ⟨bits .and .u64 v 1 != 0, bits .and .u64 v 2 != 0, bits .and .u64 v 4 != 0, bits .and .u64 v 8 != 0, bits .and .u64 v 16 != 0, bits .and .u64 v 32 != 0, bits .and .u64 v 64 != 0, wrap64 (bits .and .u64 (v / 4096) 8191)⟩
/-- Is it a word of parts? -/
def PTE.isW (v : Int) : Bool := (PTE.dec v).may && ((PTE.dec v).word == v)
def PTE.decV (v : Int) : Value := if PTE.isW v then .tuple #[.agg (PTE.dec v).cells, .int .i64 0] else .tuple #[.agg PTE.zero.cells, .int .i64 1]

theorem PTE.dec_fr (v : Int) (h0 : 0 ≤ v) (h1 : v < 18446744073709551616) : 0 ≤ (PTE.dec v).fr ∧ (PTE.dec v).fr < 8192 := by
  have h := u64_and (v / 4096) 8191 (by omega) (by omega) (by omega) (by omega)
  have h2 : (v / 4096).toNat &&& (8191 : Int).toNat = (v / 4096).toNat % 8192 := Nat.and_two_pow_sub_one_eq_mod (v / 4096).toNat 13
  rw [h2] at h
  have e : (PTE.dec v).fr = wrap64 (bits .and .u64 (v / 4096) 8191) := rfl
  rw [e, h, wrap64_of (by omega) (by omega)]
  constructor <;> omega

end Go.Proofs.Ytemmoabhlfbfcaa
