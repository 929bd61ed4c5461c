/-
  Words of parts: they tell the parts back.
-/
import Derived.Test.YtemmoabhlfbfcaaPteF
import Derived.Laws.BitsAllLaws
namespace Go.Proofs.Ytemmoabhlfbfcaa
set_option linter.unusedVariables false
set_option linter.unusedSimpArgs false
open Go.RowKit
set_option maxHeartbeats 2000000
set_option maxRecDepth 10000

def lowN (pr wr hu ac di ma re : Bool) : Nat := (cond pr 1 0) + (cond wr 2 0) + (cond hu 4 0) + (cond ac 8 0) + (cond di 16 0) + (cond ma 32 0) + (cond re 64 0)
theorem low_eq : ∀ (pr wr hu ac di ma re : Bool), bits .or .u64 (bits .or .u64 (bits .or .u64 (bits .or .u64 (bits .or .u64 (bits .or .u64 (bitV pr 1) (bitV wr 2)) (bitV hu 4)) (bitV ac 8)) (bitV di 16)) (bitV ma 32)) (bitV re 64) = (lowN pr wr hu ac di ma re : Int) := by
  decide +kernel
theorem lowN_lt : ∀ (pr wr hu ac di ma re : Bool), lowN pr wr hu ac di ma re < 128 := by decide +kernel
theorem lowN_bits : ∀ (pr wr hu ac di ma re : Bool), (lowN pr wr hu ac di ma re % 2 = 1 ↔ pr = true) ∧ (lowN pr wr hu ac di ma re / 2 % 2 = 1 ↔ wr = true) ∧ (lowN pr wr hu ac di ma re / 4 % 2 = 1 ↔ hu = true) ∧ (lowN pr wr hu ac di ma re / 8 % 2 = 1 ↔ ac = true) ∧ (lowN pr wr hu ac di ma re / 16 % 2 = 1 ↔ di = true) ∧ (lowN pr wr hu ac di ma re / 32 % 2 = 1 ↔ ma = true) ∧ (lowN pr wr hu ac di ma re / 64 % 2 = 1 ↔ re = true) := by
  decide +kernel

theorem bit_of (v k : Nat) (h : v < 18446744073709551616) (hk : k < 7) : (bits .and .u64 (v : Int) ((2 ^ k : Nat) : Int) != 0) = decide (v / 2 ^ k % 2 = 1) := by
  have hp : 2 ^ k < 2 ^ 7 := Nat.pow_lt_pow_right (by omega) hk
  have hp2 : 2 ^ k < 128 := hp
  have hu : bits .and .u64 (v : Int) ((2 ^ k : Nat) : Int) = ((v &&& 2 ^ k : Nat) : Int) := by
    generalize 2 ^ k = m at *
    rw [u64_and (v : Int) (m : Int) (by omega) (by omega) (by omega) (by omega)]
    simp only [Int.toNat_natCast]
  rw [hu]
  rw [← Nat.testBit_eq_decide_div_mod_eq]
  cases ht : v.testBit k
  · have e : v &&& 2 ^ k = 0 := by
      apply Nat.eq_of_testBit_eq
      intro i
      rw [Nat.testBit_and, Nat.testBit_two_pow, Nat.zero_testBit]
      by_cases hi : k = i
      · subst hi; simp [ht]
      · simp [hi]
    rw [e]; rfl
  · have e : v &&& 2 ^ k ≠ 0 := by
      intro e
      have h1 : (v &&& 2 ^ k).testBit k = true := by rw [Nat.testBit_and, Nat.testBit_two_pow, ht]; simp
      rw [e, Nat.zero_testBit] at h1
      exact absurd h1 (by simp)
    simp only [bne_iff_ne, ne_eq]
    omega

theorem word_sum (pr wr hu ac di ma re : Bool) (fr : Nat) (h : fr < 8192) : (PTE.mk pr wr hu ac di ma re fr).word = ((fr * 4096 + lowN pr wr hu ac di ma re : Nat) : Int) := by
  have e : (PTE.mk pr wr hu ac di ma re fr).low = (lowN pr wr hu ac di ma re : Int) := low_eq pr wr hu ac di ma re
  have hl := lowN_lt pr wr hu ac di ma re
  show bits .or .u64 (PTE.mk pr wr hu ac di ma re fr).low ((fr : Int) * 4096) = _
  rw [e]
  generalize lowN pr wr hu ac di ma re = n at *
  rw [u64_or (n : Int) ((fr : Int) * 4096) (by omega) (by omega) (by omega) (by omega)]
  have e2 : ((fr : Int) * 4096).toNat = fr <<< 12 := by rw [Nat.shiftLeft_eq]; omega
  rw [e2, Int.toNat_natCast, Nat.or_comm, ← Nat.shiftLeft_add_eq_or_of_lt (by omega : n < 2 ^ 12), Nat.shiftLeft_eq]

theorem dec_word (p : PTE) (h0 : 0 ≤ p.fr) (h1 : p.fr < 8192) : PTE.dec p.word = p := by
  obtain ⟨pr, wr, hu, ac, di, ma, re, fr⟩ := p
  simp only [] at h0 h1
  obtain ⟨n, rfl⟩ := Int.eq_ofNat_of_zero_le h0
  have hn : n < 8192 := by omega
  have hw := word_sum pr wr hu ac di ma re n hn
  have hl := lowN_lt pr wr hu ac di ma re
  have hb := lowN_bits pr wr hu ac di ma re
  rw [hw]
  generalize lowN pr wr hu ac di ma re = l at *
  have b0 := bit_of (n * 4096 + l) 0 (by omega) (by omega)
  have b1 := bit_of (n * 4096 + l) 1 (by omega) (by omega)
  have b2 := bit_of (n * 4096 + l) 2 (by omega) (by omega)
  have b3 := bit_of (n * 4096 + l) 3 (by omega) (by omega)
  have b4 := bit_of (n * 4096 + l) 4 (by omega) (by omega)
  have b5 := bit_of (n * 4096 + l) 5 (by omega) (by omega)
  have b6 := bit_of (n * 4096 + l) 6 (by omega) (by omega)
  have k0 : decide ((n * 4096 + l) / 2 ^ 0 % 2 = 1) = pr := by rw [Bool.eq_iff_iff, ← hb.1, decide_eq_true_iff]; omega
  have k1 : decide ((n * 4096 + l) / 2 ^ 1 % 2 = 1) = wr := by rw [Bool.eq_iff_iff, ← hb.2.1, decide_eq_true_iff]; omega
  have k2 : decide ((n * 4096 + l) / 2 ^ 2 % 2 = 1) = hu := by rw [Bool.eq_iff_iff, ← hb.2.2.1, decide_eq_true_iff]; omega
  have k3 : decide ((n * 4096 + l) / 2 ^ 3 % 2 = 1) = ac := by rw [Bool.eq_iff_iff, ← hb.2.2.2.1, decide_eq_true_iff]; omega
  have k4 : decide ((n * 4096 + l) / 2 ^ 4 % 2 = 1) = di := by rw [Bool.eq_iff_iff, ← hb.2.2.2.2.1, decide_eq_true_iff]; omega
  have k5 : decide ((n * 4096 + l) / 2 ^ 5 % 2 = 1) = ma := by rw [Bool.eq_iff_iff, ← hb.2.2.2.2.2.1, decide_eq_true_iff]; omega
  have k6 : decide ((n * 4096 + l) / 2 ^ 6 % 2 = 1) = re := by rw [Bool.eq_iff_iff, ← hb.2.2.2.2.2.2, decide_eq_true_iff]; omega
  have hf : wrap64 (bits .and .u64 (((n * 4096 + l : Nat) : Int) / 4096) 8191) = (n : Int) := by
    have e : ((n * 4096 + l : Nat) : Int) / 4096 = (n : Int) := by omega
    rw [e, u64_and (n : Int) 8191 (by omega) (by omega) (by omega) (by omega)]
    have e2 : (n : Int).toNat &&& (8191 : Int).toNat = n % 8192 := Nat.and_two_pow_sub_one_eq_mod n 13
    rw [e2, wrap64_of (by omega) (by omega)]
    omega
  have q0 : (bits .and .u64 ((n * 4096 + l : Nat) : Int) 1 != 0) = pr := b0.trans k0
  have q1 : (bits .and .u64 ((n * 4096 + l : Nat) : Int) 2 != 0) = wr := b1.trans k1
  have q2 : (bits .and .u64 ((n * 4096 + l : Nat) : Int) 4 != 0) = hu := b2.trans k2
  have q3 : (bits .and .u64 ((n * 4096 + l : Nat) : Int) 8 != 0) = ac := b3.trans k3
  have q4 : (bits .and .u64 ((n * 4096 + l : Nat) : Int) 16 != 0) = di := b4.trans k4
  have q5 : (bits .and .u64 ((n * 4096 + l : Nat) : Int) 32 != 0) = ma := b5.trans k5
  have q6 : (bits .and .u64 ((n * 4096 + l : Nat) : Int) 64 != 0) = re := b6.trans k6
  unfold PTE.dec
  rw [q0, q1, q2, q3, q4, q5, q6, hf]

theorem PTE.word_inj {p q : PTE} (hp : p.may = true) (hq : q.may = true) (h : p.word = q.word) : p = q := by
  have h1 := dec_word p (PTE.may_fr hp).1 (PTE.may_fr hp).2
  have h2 := dec_word q (PTE.may_fr hq).1 (PTE.may_fr hq).2
  rw [← h1, ← h2, h]
theorem PTE.decV_word {p : PTE} (hp : p.may = true) : PTE.decV p.word = .tuple #[.agg p.cells, .int .i64 0] := by
  have h1 := dec_word p (PTE.may_fr hp).1 (PTE.may_fr hp).2
  unfold PTE.decV PTE.isW
  rw [h1, hp]
  simp

theorem PTE.encV_no {p : PTE} (h : p.may = false) : p.encV = .tuple #[.int .u64 0, .int .i64 1] := by
  unfold PTE.encV PTE.encW PTE.err; rw [h]; rfl
theorem PTE.encV_may {p : PTE} (h : p.may = true) : p.encV = .tuple #[.int .u64 p.word, .int .i64 0] := by
  unfold PTE.encV PTE.encW PTE.err; rw [h]; rfl
theorem PTE.decV_form2 (v : Int) : (∃ x : PTE, PTE.decV v = .tuple #[.agg x.cells, .int .i64 0] ∧ x.encV = .tuple #[.int .u64 v, .int .i64 0]) ∨ PTE.decV v = .tuple #[.agg PTE.zero.cells, .int .i64 1] := by
  unfold PTE.decV
  split
  · next h =>
    unfold PTE.isW at h
    simp at h
    exact .inl ⟨PTE.dec v, rfl, by rw [PTE.encV_may h.1, h.2]⟩
  · exact .inr rfl

end Go.Proofs.Ytemmoabhlfbfcaa
