/-
  Buddy: New.
-/
import Derived.Test.YtkpnmknkimlnaaaBvC
import Derived.Test.YtkpnmknkimlnaaaMake
import Derived.Deep.LoopGhost
import Derived.ScopeJumps
import Derived.WalkMore
namespace Go.Proofs.Ytkpnmknkimlnaaa
set_option linter.unusedVariables false
set_option linter.unusedSimpArgs false
open Go.RowKit BuT
set_option maxHeartbeats 4000000
set_option maxRecDepth 100000
set_option linter.unusedVariables false
set_option linter.unusedSimpArgs false

def okNew (F n : Int) : Prop := 0 ≤ F ∧ F ≤ 8192 ∧ 1 ≤ n ∧ n ≤ 1024
theorem bnew_bad (F n : Int) (w : World) (h : ¬ okNew F n) : Calls Try.prog 56 #[.int .i64 F, .int .i64 n] w fun e w' => e = .returned (.tuple #[.pointer none, .int .i64 1]) ∧ w = w' := by
  unfold okNew at h
  have h' : F < 0 ∨ (¬ F < 0 ∧ 8192 < F) ∨ (¬ F < 0 ∧ ¬ 8192 < F ∧ n < 1) ∨ (¬ F < 0 ∧ ¬ 8192 < F ∧ ¬ n < 1 ∧ 1024 < n) := by omega
  clear h
  rcases h' with h | ⟨h1, h⟩ | ⟨h1, h2, h⟩ | ⟨h1, h2, h3, h⟩
  all_goals
    go_enter Try.func56, Try.ntmps56
    go_wp2
    go_step3
    go_wp2
    (try rw [Exit.noGoto_ret])
    go_ret2
    exact ⟨rfl, rfl⟩

def NewRet (w : World) (F n : Nat) (e : Ending) (w' : World) : Prop :=
  ∃ bp bl, e = .returned (.tuple #[.pointer (some ⟨bp, 0, none⟩), .int .i64 0]) ∧ w.heap.size ≤ bp ∧ w.heap.size ≤ bl ∧ Ext [] w w' ∧ Bud w' bp bl F n (newK n) (newO n)
def placeZ : Array Value := #[.int .i64 0, .int .i64 0]
theorem placeZ_at (k : Nat) : placeZ[k % placeZ.size]! = tabF (fun _ => 0) (fun _ => 0) k := by
  have : k % placeZ.size = 0 ∨ k % placeZ.size = 1 := by unfold placeZ; simp; omega
  unfold tabF
  rcases this with h | h <;> rw [h] <;> split <;> rfl
theorem go_step {n p k : Nat} (hp : p < n) (hg : go n p ≤ k) (hn : ¬ (p % 2 ^ k = 0 ∧ p + 2 ^ k ≤ n)) : go n p < k := by
  rcases Nat.lt_or_ge (go n p) k with h | h
  · exact h
  · exfalso
    have e : k = go n p := by omega
    apply hn
    rw [e]; exact gr_ok hp 9

theorem bnew_is (F n : Nat) (w : World) (hF : F ≤ 8192) (h1 : 1 ≤ n) (h2 : n ≤ 1024) : Calls Try.prog 56 #[.int .i64 F, .int .i64 n] w (NewRet w F n) := by
  have mk : ∀ w, (Instr.makeSlice 85 (.int .i64 (n : Int)) (.int .i64 (n : Int))).run Try.prog w = .ok (.slice (some ⟨w.heap.size, 0, none⟩) n n) (w.alloc (.cells (madeCells placeZ (n * 2)) 132)) :=
    mk_of (t := 85) (e := 132) (size := 2) (bytes := 16) (z := .agg placeZ) Try.underlying85 (by kernel_rfl) n (by omega) (by omega)
  have d1 : decide ((F : Int) < 0) = false := by simp
  have d2 : decide ((F : Int) > 8192) = false := by simp; omega
  have d2' : decide (8192 < (F : Int)) = false := by simp; omega
  have d3 : decide ((n : Int) < 1) = false := by simp; omega
  have d4 : decide ((n : Int) > 1024) = false := by simp; omega
  have d4' : decide (1024 < (n : Int)) = false := by simp; omega
  have hB0 : Bud ((w.alloc (.cells (madeCells placeZ (n * 2)) 132)).alloc (.cells #[.int .i64 F, .slice (some ⟨w.heap.size, 0, none⟩) n n] 87)) (w.heap.size + 1) w.heap.size F n (newS n 0).2.1 (newS n 0).2.2 := by
    refine ⟨?_, ?_, by omega, h1, h2, hF⟩
    · have := Blk.new (w.alloc (.cells (madeCells placeZ (n * 2)) 132)) [.int .i64 F, .slice (some ⟨w.heap.size, 0, none⟩) n n] 87
      simpa using this
    · exact ((Cells.made w placeZ (n * 2) 132).alloc _).congr fun k hk => placeZ_at k
  have HB0 := Lib.hid hB0
  clear hB0
  go_enter Try.func56, Try.ntmps56
  go_wp2
  go_step3
  go_wp2
  go_step3
  go_wp2
  have HX0 := Lib.hid (show Ext [] w ((w.alloc (.cells (madeCells placeZ (n * 2)) 132)).alloc (.cells #[.int .i64 F, .slice (some ⟨w.heap.size, 0, none⟩) n n] 87)) from ((Ext.refl _ _).alloc _).alloc _)
  go_loopg [7] n (fun g a wr => ∃ s : Nat, s ≤ n ∧ a = .int .i64 ((newS n s).1 : Nat) ∧ g = n - (newS n s).1 ∧ s ≤ (newS n s).1 ∧ Ext [] w wr ∧ Bud wr (w.heap.size + 1) w.heap.size F n (newS n s).2.1 (newS n s).2.2)
  case atStart => exact ⟨0, by omega, rfl, by simp [newS], by omega, HX0.out, HB0.out⟩
  case round =>
    obtain ⟨s, hs, rfl, hg, hsl, hx, hR⟩ := hrel
    obtain ⟨wo, rfl⟩ : ∃ wo : World, wo = wr := ⟨_, rfl⟩
    obtain ⟨g0, rfl⟩ : ∃ g0 : Nat, g0 = gk := ⟨_, rfl⟩
    have HX := Lib.hid hx
    have HR := Lib.hid hR
    have HG := Lib.hid hg
    have HS1 := Lib.hid (show (newS n s).1 < n → newS n (s + 1) = ((newS n s).1 + 2 ^ go n (newS n s).1, upd (newS n s).2.1 (newS n s).1 1, upd (newS n s).2.2 (newS n s).1 (go n (newS n s).1)) from fun h => by rw [newS, if_pos h])
    have HSD := Lib.hid (fun h => newS_done (n := n) hs h)
    clear hx hR hg
    generalize hnS : newS n s = S at *
    obtain ⟨p, kd, od⟩ := S
    have HNS := Lib.hid hnS
    clear hnS
    simp only [] at *
    by_cases hlt : p < n
    · have hg9 : go n p ≤ 9 := gr_le n p 9
      have hdl : decide ((p : Int) < (n : Int)) = true := by simp; omega
      have hdl' : decide (p < n) = true := by simp; omega
      have hgmax := Lib.hid (fun k (h : p % 2 ^ k = 0 ∧ p + 2 ^ k ≤ n) (hk : k ≤ 9) => (gr_max h 9 hk : k ≤ go n p))
      have hgst := Lib.hid (fun k (hg : go n p ≤ k) hn => go_step hlt hg hn)
      go_wp2
      go_loopg [7, 8] 9 (fun g a z w' => a = .int .i64 p ∧ ∃ k : Nat, k ≤ 9 ∧ go n p ≤ k ∧ z = .int .i64 k ∧ g = k ∧ w' = wo)
      case atStart => exact ⟨rfl, 9, by omega, hg9, rfl, rfl, rfl⟩
      case round =>
        obtain ⟨rfl, k, hk9, hgk, rfl, hgg, hww⟩ := hrel
        subst hww
        subst hgg
        have hw := pow_wrap9 hk9
        have hq9 := pow_le9 hk9
        have hpos := Nat.two_pow_pos gk
        have hmod : ((p : Nat) : Int) % ((2 ^ gk : Nat) : Int) = ((p % 2 ^ gk : Nat) : Int) := by simp
        have k0 : (0 : Int) ≤ (gk : Int) := by omega
        by_cases hok : p % 2 ^ gk = 0 ∧ p + 2 ^ gk ≤ n
        · have hkg : gk = go n p := Nat.le_antisymm (hgmax.out gk hok hk9) hgk
          have hS := HS1.out hlt
          rw [← hkg] at hS
          have HS := Lib.hid hS
          rw [hok.1] at hmod
          have hle := hok.2
          have HP : Hid (Bud ((wr.setCell ⟨w.heap.size, p * 2, none⟩ (.int .i64 1)).setCell ⟨w.heap.size, p * 2 + 1, none⟩ (.int .i64 (gk : Int))) (w.heap.size + 1) w.heap.size F n (upd kd p 1) (upd od p gk)) := HR.out.put hlt 1 gk
          have c1 := HR.out.head.cell 1
          have t0 := HR.out.kc hlt
          have t1 := HR.out.oc hlt
          have f0 := HR.out.tab.fr (show p * 2 < n * 2 by omega)
          have f1 := HR.out.tab.fr (show p * 2 + 1 < n * 2 by omega)
          have i0 : (0 : Int) ≤ (p : Int) := by omega
          have i1 : (p : Int) < (n : Int) := by omega
          clear hS hok hkg hgk
          generalize 2 ^ gk = q at *
          have z1 : (0 : Int) < (q : Int) := by omega
          have z2 : (q : Int) ≤ (n : Int) - (p : Int) := by omega
          have z3 : ((q : Int) == 0) = false := beq_eq_false_iff_ne.2 (by omega)
          have hpn : s + 1 ≤ n := by omega
          go_wp2
          go_roundg (n - (p + q))
          case measure => have := HG.out; omega
          case rel => exact ⟨s + 1, hpn, by rw [HS.out]; go_num, by rw [HS.out], by rw [HS.out]; simp only []; omega, (HX.out.setCell _ _ (.inr (by simp))).setCell _ _ (.inr (by simp)), by rw [HS.out]; exact HP.out⟩
        · have hlt2 := hgst.out gk hgk hok
          obtain ⟨m, rfl⟩ : ∃ m, gk = m + 1 := ⟨gk - 1, by omega⟩
          have i0 : (0 : Int) ≤ (p : Int) := by omega
          have i1 : (p : Int) < (n : Int) := by omega
          have z1 : (0 : Int) < ((2 ^ (m + 1) : Nat) : Int) := by omega
          have z3 : (((2 ^ (m + 1) : Nat) : Int) == 0) = false := beq_eq_false_iff_ne.2 (by omega)
          have hm9 : m ≤ 9 := by omega
          have hgm : go n p ≤ m := by omega
          by_cases hmz : p % 2 ^ (m + 1) = 0
          · have hgt : n < p + 2 ^ (m + 1) := Nat.lt_of_not_le fun h => hok ⟨hmz, h⟩
            rw [hmz] at hmod
            clear hok hlt2 hgk hmz
            generalize 2 ^ (m + 1) = q at *
            have z2 : ¬ ((q : Int) ≤ (n : Int) - (p : Int)) := by omega
            go_wp2
            go_roundg m
            case measure => omega
            case rel => exact ⟨rfl, m, hm9, hgm, by go_num, rfl, rfl⟩
          · have hmne : ((((p % 2 ^ (m + 1) : Nat) : Int)) == 0) = false := beq_eq_false_iff_ne.2 (by omega)
            clear hok hlt2 hgk hmz
            generalize hqq : 2 ^ (m + 1) = q at *
            clear hqq
            generalize p % q = r at *
            go_wp2
            go_roundg m
            case measure => omega
            case rel => exact ⟨rfl, m, hm9, hgm, by go_num, rfl, rfl⟩
    · have hd := HSD.out (by omega)
      injection hd with e1 e2
      injection e2 with e2 e3
      subst e1 e2 e3
      have hdl : decide ((p : Int) < (p : Int)) = false := by simp
      go_wp2
      (try rw [Exit.noGoto_ret])
      go_ret2
      exact ⟨_, _, rfl, by omega, by omega, HX.out, HR.out⟩

end Go.Proofs.Ytkpnmknkimlnaaa
