/-
  Buddy: what goes through blocks.
-/
import Derived.Test.YtkpnmknkimlnaaaBvD
import Derived.Stop.RegionWithIn
import Derived.BigRegionIn
import Derived.Sort.QuietIn
namespace Go.Proofs.Ytkpnmknkimlnaaa
set_option linter.unusedVariables false
set_option linter.unusedSimpArgs false
open Go.RowKit BuT
set_option maxHeartbeats 4000000
set_option maxRecDepth 100000
set_option linter.unusedVariables false
set_option linter.unusedSimpArgs false

theorem Bud.blocks {w w' : World} {bp bl F n : Nat} {kd od : Nat → Nat} (h : Bud w bp bl F n kd od) (e1 : w'.heap[bp]? = w.heap[bp]?) (e2 : w'.heap[bl]? = w.heap[bl]?) (hs : bl < w'.heap.size) : Bud w' bp bl F n kd od :=
  ⟨e1.trans h.head, ⟨hs, fun k hk => ⟨(World.cell?_of_block (w := w) e2).trans (h.tab.cell hk), (World.frozen?_of_block (w := w) e2).trans (h.tab.fr hk)⟩⟩, h.ne, h.n1, h.n2, h.F8⟩
def bkV (x : Bk) : Value := .agg #[.int .i64 x.f, .int .i64 x.o]
def bkVals (l : List Bk) : List (Array Value) := l.map fun x => #[bkV x]
theorem bk_at {F : Int} {kd od : Nat → Nat} {c n k : Nat} (hk : k < n) (h : kd k = c) : (bkVals (blks F kd od c n))[(blks F kd od c k).length]? = some #[bkV ⟨F + k, od k⟩] := by
  unfold bkVals
  rw [List.getElem?_map, blks_at hk]
  have e : one F kd od c k = [⟨F + k, od k⟩] := by unfold one; rw [if_pos h]
  rw [e, List.getElem?_append_right (Nat.le_refl _)]
  simp
theorem blks_mono {F : Int} {kd od : Nat → Nat} {c n k : Nat} (hk : k ≤ n) : (blks F kd od c k).length ≤ (blks F kd od c n).length := by
  obtain ⟨d, rfl⟩ : ∃ d, n = k + d := ⟨n - k, by omega⟩
  rw [blks_split]; simp

theorem blocks1 (Bb Bk bp bl F n c : Nat) (kd od : Nat → Nat) (w0 : World) (h0 : Blk w0 Bb [.pointer (some ⟨bp, 0, none⟩)] 58) (h1 : Blk w0 Bk [.int .i64 (c : Int)] 3) (hB : Bud w0 bp bl F n kd od) :
    Iter Try.prog 74 #[.pointer (some ⟨Bb, 0, none⟩), .pointer (some ⟨Bk, 0, none⟩)] [Bb, Bk, bp, bl] (bkVals (blks F kd od c n)) w0 := by
  intro nn l M J Jx W hn hs hK hM fJ fJx hY hj0
  refine callsIn_of_wp Try.func74 rfl trivial ?_ rfl
  simp only [Try.ntmps74, List.size_toArray, List.length_cons, List.length_nil, Nat.reduceAdd, Nat.reduceSub, Array.replicate_succ, Array.replicate_zero, List.push_toArray, List.append_toArray, List.nil_append, List.cons_append]
  have hBK : ∀ {X wr}, It M X W wr → Bud wr bp bl F n kd od := fun hit => by
    have e : ∀ b, b ∈ [Bb, Bk, bp, bl] → _ := fun b hb => (hit.ext.block b (by have := (hK b hb).1; omega) (fun hm => (hM b hm).1 hb)).trans (hK b hb).2
    exact hB.blocks (e bp (by simp)) (e bl (by simp)) (by have := (hK bl (by simp)).1; have := hit.ext.size; omega)
  have HBK : Hid (∀ X wr, It M X W wr → Bud wr bp bl F n kd od) := fun X wr h => hBK h
  have HC0 : Hid (∀ X wr, It M X W wr → wr.cell? ⟨Bb, 0, none⟩ = some (.pointer (some ⟨bp, 0, none⟩))) := fun X wr h => (h.blk hK hM (by simp) h0).cell 0
  have HC1 : Hid (∀ X wr, It M X W wr → wr.cell? ⟨Bk, 0, none⟩ = some (.int .i64 (c : Int))) := fun X wr h => (h.blk hK hM (by simp) h1).cell 0
  have c0 := HC0.out [] W (It.refl M W)
  have c1 := (HBK.out [] W (It.refl M W)).head.cell 1
  have n1 := hB.n1
  have n2 := hB.n2
  have F8 := hB.F8
  have HF := Lib.hid fJ
  have HY := Lib.hid hY
  have HJ0 := Lib.hid hj0
  clear hBK hK hM fJ fJx hY hj0 h0 h1 hB
  gi_wp2
  gi_loopw [13] (fun v wr => ∃ (k : Nat) (X : List Nat), k ≤ n ∧ v = .int .i64 k ∧ J (blks F kd od c k).length X wr ∧ It M X W wr) (fun v _ => n - (intOf v).toNat)
  case atStart => exact ⟨0, [], by omega, rfl, HJ0.out, It.refl _ _⟩
  case round =>
    obtain ⟨k, X, hk, rfl, hJ, hit⟩ := hrel
    have hR := HBK.out X wr hit
    have c0 := HC0.out X wr hit
    have c1 := HC1.out X wr hit
    have c2 := hR.head.cell 0
    by_cases hlt : k < n
    · have k0 := hR.kc hlt
      have k1 := hR.oc hlt
      have i0 : (0 : Int) ≤ (k : Int) := by omega
      have i1 : (k : Int) < (n : Int) := by omega
      have hd : decide (k < n) = true := by simp; omega
      have hwr : IntKind.i64.wrap ((F : Int) + (k : Int)) = (F : Int) + (k : Int) := IntWalk.i64_in _ (by omega)
      have hit2 := hit.step (D := []) (((Ext.refl [] wr).alloc (.cells #[.int .i64 ((kd k : Nat) : Int), .int .i64 ((od k : Nat) : Int)] 132)).drew) (by simp)
      have hJ2 := HF.out (blks F kd od c k).length X wr ((wr.alloc (.cells #[.int .i64 ((kd k : Nat) : Int), .int .i64 ((od k : Nat) : Int)] 132)).drew) hJ (fun b _ hb => ((Ext.refl [] wr).alloc (.cells #[.int .i64 ((kd k : Nat) : Int), .int .i64 ((od k : Nat) : Int)] 132)).drew.block b hb (by simp))
      have e0 : ∀ ob, (wr.alloc ob).cell? ⟨Bb, 0, none⟩ = some (.pointer (some ⟨bp, 0, none⟩)) := fun ob => HC0.out X _ (hit.step (D := []) ((Ext.refl [] wr).alloc ob) (by simp))
      have e1 : ∀ ob, (wr.alloc ob).cell? ⟨Bk, 0, none⟩ = some (.int .i64 (c : Int)) := fun ob => HC1.out X _ (hit.step (D := []) ((Ext.refl [] wr).alloc ob) (by simp))
      have e2 : ∀ ob, (wr.alloc ob).cell? ⟨bp, 0, none⟩ = some (.int .i64 (F : Int)) := fun ob => (HBK.out X _ (hit.step (D := []) ((Ext.refl [] wr).alloc ob) (by simp))).head.cell 0
      by_cases hkc : kd k = c
      · have hat := bk_at (F := (F : Int)) (od := od) hlt hkc
        have hup : (blks F kd od c (k + 1)).length = (blks F kd od c k).length + 1 := by
          rw [blks, List.length_append]; unfold one; rw [if_pos hkc]; rfl
        have HUP := Lib.hid hup
        have HLE := Lib.hid (blks_mono (F := (F : Int)) (kd := kd) (od := od) (c := c) (show k + 1 ≤ n by omega))
        obtain ⟨fn, tmps, assign, body, hy, hRR⟩ := yield_at hat (fun h => HY.out _ h X _ hJ2 hit2.ext hit2.new)
        have HR2 := Lib.hid (hRR.mono (R' := fun e W' => ∃ (t : Bool) (X' : List Nat), e = .returned (.bool t) ∧ Ext (M ++ X) ((wr.alloc (.cells #[.int .i64 ((kd k : Nat) : Int), .int .i64 ((od k : Nat) : Int)] 132)).drew) W' ∧ (∀ b, b ∈ X' → (b ∈ X ∨ ((wr.alloc (.cells #[.int .i64 ((kd k : Nat) : Int), .int .i64 ((od k : Nat) : Int)] 132)).drew).heap.size ≤ b) ∧ b < W'.heap.size) ∧
          ((t = true ∧ J ((blks F kd od c k).length + 1) X' W') ∨ (t = false ∧ Jx ((blks F kd od c k).length + 1) X' W'))) (by
          rintro e W' ⟨h1, X', h2, (⟨rfl, h3⟩ | ⟨rfl, h3⟩)⟩
          · exact ⟨true, X', rfl, h1, h2, .inl ⟨rfl, h3⟩⟩
          · exact ⟨false, X', rfl, h1, h2, .inr ⟨rfl, h3⟩⟩))
        have HIT2 := Lib.hid hit2
        rw [hkc] at k0 hy HR2 HIT2
        unfold bkV at *
        clear hRR hat hJ hJ2 hit hup hkc hR hit2
        generalize od k = d at *
        gi_wp2
        gi_region_with ((refine (HR2.out).mono ?_; rintro e W' ⟨t, X', rfl, hx', hX', hor⟩; have HX' := Lib.hid (And.intro hx' (And.intro hX' hor)); clear hx' hX' hor))
        all_goals
          cases t
          · gi_wp2
            refine bodyPost_ret (results_none rfl _ _ _) rfl ?_
            obtain ⟨h1, h2, h3⟩ := HX'.out
            exact ⟨⟨_, rfl⟩, (HIT2.out.yield h1 h2).ext, X', (HIT2.out.yield h1 h2).new, .inr ⟨(blks F kd od c k).length + 1, by have := HLE.out; have := HUP.out; simp [bkVals]; omega, (h3.resolve_left (by simp)).2⟩⟩
          · gi_wp2
            go_roundw
            case rel =>
              obtain ⟨h1, h2, h3⟩ := HX'.out
              exact ⟨k + 1, X', by omega, by go_num, by rw [HUP.out]; exact (h3.resolve_right (by simp)).2, HIT2.out.yield h1 h2⟩
            case measure => simp [intOf]; omega
      · have hup : (blks F kd od c (k + 1)).length = (blks F kd od c k).length := by
          rw [blks, List.length_append]; unfold one; rw [if_neg hkc]; rfl
        have HUP := Lib.hid hup
        have HITS := Lib.hid (fun nq => hit.step (D := []) (((Ext.refl [] wr).alloc (.cells #[.int .i64 ((kd k : Nat) : Int), .int .i64 ((od k : Nat) : Int)] 132)).drewN nq) (by simp))
        have HJS := Lib.hid (fun nq => HF.out (blks F kd od c k).length X wr ((wr.alloc (.cells #[.int .i64 ((kd k : Nat) : Int), .int .i64 ((od k : Nat) : Int)] 132)).drewN nq) hJ (fun b _ hb => ((Ext.refl [] wr).alloc (.cells #[.int .i64 ((kd k : Nat) : Int), .int .i64 ((od k : Nat) : Int)] 132)).drewN nq |>.block b hb (by simp)))
        have hne : (((kd k : Nat) : Int) == (c : Int)) = false := beq_eq_false_iff_ne.2 (by omega)
        have hne2 : (kd k == c) = false := beq_eq_false_iff_ne.2 hkc
        have hne3 : decide (kd k = c) = false := by simpa using hkc
        clear hJ hJ2 hit hup hkc hR hit2
        generalize kd k = q at *
        generalize od k = d at *
        gi_wp2
        gi_quiet (fail)
        gi_wp2
        go_roundw
        case rel => exact ⟨k + 1, X, by omega, by go_num, by rw [HUP.out]; exact HJS.out nq, HITS.out nq⟩
        case measure => simp [intOf]; omega
    · obtain rfl : n = k := by omega
      have HJ := Lib.hid hJ
      clear hJ hR c0 c1 c2
      gi_wp2
      go_end0
      exact ⟨⟨_, rfl⟩, hit.ext, X, hit.new, .inl (by simpa [bkVals] using HJ.out)⟩

theorem Bud.blocks_ {w : World} {bp : Option Addr} (c : Int) : Calls Try.prog 63 #[.pointer bp, .int .i64 c] w fun e w' => e = .returned (.func (.func 74) #[] #[.pointer (some ⟨w.heap.size, 0, none⟩), .pointer (some ⟨w.heap.size + 1, 0, none⟩)]) ∧ w' = (w.alloc (.cells #[.pointer bp] 58)).alloc (.cells #[.int .i64 c] 3) := by
  go_enter Try.func63, Try.ntmps63
  go_wp2
  go_ret
  exact ⟨rfl, rfl⟩
theorem Bud.free_blocks {w : World} {bp : Option Addr} : Calls Try.prog 26 #[.pointer bp] w fun e w' => e = .returned (.func (.func 74) #[] #[.pointer (some ⟨w.heap.size, 0, none⟩), .pointer (some ⟨w.heap.size + 1, 0, none⟩)]) ∧ w' = (w.alloc (.cells #[.pointer bp] 58)).alloc (.cells #[.int .i64 1] 3) := by
  go_enter Try.func26, Try.ntmps26
  go_wp2_with (go_at_call 63; refine (Bud.blocks_ _).mono ?_; rintro e w' ⟨rfl, rfl⟩)
  go_ret
  exact ⟨rfl, rfl⟩
theorem Bud.taken_blocks {w : World} {bp : Option Addr} : Calls Try.prog 27 #[.pointer bp] w fun e w' => e = .returned (.func (.func 74) #[] #[.pointer (some ⟨w.heap.size, 0, none⟩), .pointer (some ⟨w.heap.size + 1, 0, none⟩)]) ∧ w' = (w.alloc (.cells #[.pointer bp] 58)).alloc (.cells #[.int .i64 2] 3) := by
  go_enter Try.func27, Try.ntmps27
  go_wp2_with (go_at_call 63; refine (Bud.blocks_ _).mono ?_; rintro e w' ⟨rfl, rfl⟩)
  go_ret
  exact ⟨rfl, rfl⟩

end Go.Proofs.Ytkpnmknkimlnaaa
