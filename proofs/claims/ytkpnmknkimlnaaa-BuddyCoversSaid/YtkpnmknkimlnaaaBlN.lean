/-
  Buddy's law: covers, walked.
-/
import Derived.Test.YtkpnmknkimlnaaaBlK
import Derived.Test.YtkpnmknkimlnaaaBuY
import Derived.Test.YtkpnmknkimlnaaaMake
namespace Go.Proofs.Ytkpnmknkimlnaaa
set_option linter.unusedVariables false
set_option linter.unusedSimpArgs false
open Go.RowKit BuT
set_option maxHeartbeats 4000000
set_option maxRecDepth 100000
set_option linter.unusedVariables false
set_option linter.unusedSimpArgs false

/-- What covers has made of its marks. -/
def CovI (w : World) (F n : Nat) (f : Nat → Bool) (cur : World) : Prop :=
  Ext [] w cur ∧ Blk cur w.heap.size [.int .i64 (F : Int), .int .i64 (n : Int)] 56 ∧ Cells cur (w.heap.size + 1) n (fun j => .bool (f j))
theorem CovI.congr {w cur : World} {F n : Nat} {f g : Nat → Bool} (h : CovI w F n f cur) (e : ∀ j, f j = g j) : CovI w F n g cur := by
  have : f = g := funext e
  exact this ▸ h
theorem CovI.start (w : World) (F n : Nat) : CovI w F n (covd []) ((w.alloc (.cells #[.int .i64 (F : Int), .int .i64 (n : Int)] 56)).alloc (.cells (madeCells #[.bool false] n) 4)) := by
  refine ⟨((Ext.refl _ _).alloc _).alloc _, (Blk.new w _ _).alloc _, ?_⟩
  have h := Cells.made (w.alloc (.cells #[.int .i64 (F : Int), .int .i64 (n : Int)] 56)) #[.bool false] n 4
  rw [World.size_alloc] at h
  refine h.congr fun k hk => ?_
  have : k % (#[Value.bool false] : Array Value).size = 0 := by simp [Nat.mod_one]
  rw [this]; rfl
theorem CovI.mark {w cur : World} {F n : Nat} {f : Nat → Bool} (h : CovI w F n f cur) {p m : Nat} (hp : p + m < n) (hw : w.heap.size < cur.heap.size) : CovI w F n (fun j => f j || decide (j = p + m)) (cur.setCell ⟨w.heap.size + 1, p + m, none⟩ (.bool true)) := by
  refine ⟨h.1.setCell _ _ (.inr (Nat.le_succ _)), h.2.1.set_ne _ (by simp), (h.2.2.set hp (.bool true)).congr fun k hk => ?_⟩
  unfold upd
  by_cases e : k = p + m <;> simp [e]

theorem CovI.drewN {w cur : World} {F n : Nat} {f : Nat → Bool} (h : CovI w F n f cur) (k : Nat) : CovI w F n f (cur.drewN k) :=
  ⟨h.1.drewN k, h.2.1.ext ((Ext.refl [] cur).drewN k) (by simp), h.2.2.ext ((Ext.refl [] cur).drewN k) (by simp)⟩
theorem CovI.step (cf : Nat → Bool) (p m : Nat) (j : Nat) : ((cf j || (decide (p ≤ j) && decide (j < p + m))) || decide (j = p + m)) = (cf j || (decide (p ≤ j) && decide (j < p + (m + 1)))) := by
  rw [Bool.or_assoc]
  congr 1
  rw [Bool.eq_iff_iff]
  simp
  omega

theorem covers_c (F n : Nat) (Q : List (Nat × Nat)) (w : World) (v : Value) (hv : BSl w v (Q.map (bkQ F))) (hQ : Fits n Q) (hF : F ≤ 8192) (h1 : 1 ≤ n) (h2 : n ≤ 1024) :
    Calls Try.prog 28 #[.agg #[.int .i64 (F : Int), .int .i64 (n : Int)], v] w fun e w' => e = .returned (.bool true) ∧ Ext [] w w' := by
  obtain ⟨a, c, rfl, c1, c2, hown, hcell⟩ := hv
  rw [List.length_map] at c1
  simp only [List.length_map] at *
  replace c2 : c ≤ 9223372036854775807 := by unfold maxLen at c2; omega
  have hmk := mk_of (t := 129) (e := 4) (size := 1) (bytes := 1) (z := .bool false) Try.underlying129 (by kernel_rfl) n (by omega) (by omega)
  have hx0 : Ext [] w (w.alloc (.cells #[.int .i64 (F : Int), .int .i64 (n : Int)] 56)) := (Ext.refl _ _).alloc _
  have bG := Blk.new w [.int .i64 (F : Int), .int .i64 (n : Int)] 56
  have g0 := bG.cell 0
  have g1 := bG.cell 1
  have HC := Lib.hid hcell
  have HQ := Lib.hid hQ
  have HX0 := Lib.hid hx0
  have BG := Lib.hid bG
  have s0 : (w.alloc (.cells #[.int .i64 (F : Int), .int .i64 (n : Int)] 56)).heap.size = w.heap.size + 1 := by simp
  have S0 := Lib.hid s0
  clear hcell hQ hx0 bG hown s0
  go_enter Try.func28, Try.ntmps28
  go_wp2
  go_loopw [6, 7] (fun s i wr => ∃ k : Nat, k ≤ Q.length ∧ i = .int .i64 k ∧ s = .int .i64 (sumQ (Q.take k) : Nat) ∧ CovI w F n (covd (Q.take k)) wr) (fun _ i _ => Q.length - (intOf i).toNat)
  case atStart => exact ⟨0, by omega, rfl, rfl, CovI.start w F n⟩
  case round =>
    obtain ⟨k, hk, rfl, rfl, hI⟩ := hrel
    have HI := Lib.hid hI
    clear hI
    by_cases hlt : k < Q.length
    · obtain ⟨g, rfl, hg, y0, y1⟩ := HC.out k (by simpa using hlt)
      have hq := HQ.out.each Q[k] (List.getElem_mem hlt)
      have hfree := Lib.hid (fun m (hm : m < 2 ^ (Q[k]).2) => HQ.out.free hlt hm)
      have hst := Lib.hid (sumQ_take hlt)
      have hcv := Lib.hid (covd_take hlt)
      have hsl := HQ.out.sum_le hlt
      have y0' : w.cell? ⟨g, k * 2, none⟩ = some (.int .i64 ((F : Int) + ((Q[k]).1 : Int))) := by rw [y0]; simp [bkQ]
      have y1' : w.cell? ⟨g, k * 2 + 1, none⟩ = some (.int .i64 (((Q[k]).2 : Nat) : Int)) := by rw [y1]; simp [bkQ]
      clear y0 y1
      generalize Q[k] = x at *
      obtain ⟨p, o⟩ := x
      simp only at *
      obtain ⟨ho, hal, hfit⟩ := hq
      have hw : Value.int .i64 (wrap64 (2 ^ o)) = Value.int .i64 ((2 ^ o : Nat) : Int) := int_eq (pow_wrap9 ho)
      have e0 := (HI.out.1.cell (p := ⟨g, k * 2, none⟩) hg (by simp)).trans y0'
      have e1 := (HI.out.1.cell (p := ⟨g, k * 2 + 1, none⟩) hg (by simp)).trans y1'
      have HAL := Lib.hid hal
      have i0 : (0 : Int) ≤ (k : Int) := by omega
      have i1 : (k : Int) < (Q.length : Int) := by omega
      have o1 : decide (((o : Nat) : Int) < 0) = false := by simp
      have o2 : decide (((o : Nat) : Int) > 9) = false := by simp; omega
      generalize sumQ (Q.take k) = sm at *
      generalize covd (Q.take k) = cf at *
      clear hal
      go_wp2
      have hz := Nat.two_pow_pos o
      have HZ : Hid (∀ j, covd (Q.take (k + 1)) j = (cf j || (decide (p ≤ j) && decide (j < p + 2 ^ o)))) := hcv.out
      have HS : Hid (sumQ (Q.take (k + 1)) = sm + 2 ^ o) := hst.out
      have HFR : Hid (∀ m, m < 2 ^ o → cf (p + m) = false) := hfree.out
      have HAL2 : Hid (p % 2 ^ o = 0) := HAL.out
      clear hcv hst hfree HAL
      have HPW := Lib.hid (show (2 : Nat) ^ o = 2 ^ o from rfl)
      generalize hzz : 2 ^ o = z at *
      clear hzz HPW
      have hx1 := HI.out.1
      have HX1 := Lib.hid hx1
      have hn1 : g ≠ w.heap.size + 1 := by omega
      have hgw : g < wr.heap.size := by have := hx1.size; omega
      clear hx1 e0 e1
      have HI0 : Hid (CovI w F n (fun j => cf j || (decide (p ≤ j) && decide (j < p + 0))) wr) := HI.out.congr (fun j => by simp; omega)
      go_loopw [6, 8] (fun s i cur => ∃ m : Nat, m ≤ z ∧ i = .int .i64 m ∧ s = .int .i64 ((sm + m : Nat) : Int) ∧ CovI w F n (fun j => cf j || (decide (p ≤ j) && decide (j < p + m))) cur) (fun _ i _ => z - (intOf i).toNat)
      case atStart => exact ⟨0, by omega, rfl, rfl, HI0.out⟩
      case round =>
        clear HI HI0
        obtain ⟨m, hm, rfl, rfl, hI⟩ := hrel
        have HI := Lib.hid hI
        have e0 := (hI.1.cell (p := ⟨g, k * 2, none⟩) hg (by simp)).trans y0'
        have e1 := (hI.1.cell (p := ⟨g, k * 2 + 1, none⟩) hg (by simp)).trans y1'
        have g0 := hI.2.1.cell 0
        have g1 := hI.2.1.cell 1
        by_cases hml : m < z
        · have hcp : wr.cell? ⟨w.heap.size + 1, p + m, none⟩ = some (.bool false) := by have h := hI.2.2.cell (k := p + m) (by omega); rw [h]; simp [HFR.out m hml]
          have hfp := hI.2.2.fr (k := p + m) (by omega)
          have hb1 := hI.2.2.lt
          have hs3 : (F : Int) + (p : Int) - (F : Int) = ((p : Nat) : Int) := by omega
          have hw2 : IntKind.i64.wrap ((p : Int)) = (p : Int) := IntWalk.i64_in _ (by omega)
          have hw3 : IntKind.i64.wrap ((p : Int) + (m : Int)) = (p : Int) + (m : Int) := IntWalk.i64_in _ (by omega)
          have d1 : decide ((p : Int) + (m : Int) < 0) = false := by simp; omega
          have d2 : decide ((p : Int) + (m : Int) ≥ (n : Int)) = false := by simp; omega
          have HM0 := hI.2.2.lt
          clear hI
          have hzm0 : ((p % z : Nat) : Int) = 0 := by rw [HAL2.out]; rfl
          have hzm : Value.int .i64 ((p : Int) % (z : Int)) = Value.int .i64 0 := int_eq (by simpa using hzm0)
          clear hzm0
          by_cases hm0 : m = 0
          · subst hm0
            have hcp' : wr.cell? ⟨w.heap.size + 1, p, none⟩ = some (.bool false) := hcp
            have hfp' : wr.frozen? ⟨w.heap.size + 1, p, none⟩ = false := hfp
            clear hcp hfp hw3 d1 d2
            have d1 : decide ((p : Int) < 0) = false := by simp
            have d2 : decide (n ≤ p) = false := by simp; omega
            have hp0 : (0 : Int) ≤ (p : Int) := by omega
            have hp1 : (p : Int) < (n : Int) := by omega
            go_wp2
            go_quiet (fail)
            go_wp2
            go_roundw
            case rel => exact ⟨1, by omega, by go_num, by go_num, (CovI.mark (p := p) (m := 0) (HI.out.drewN nq) (by omega) (by have := HM0; simp [World.drewN]; omega)).congr (CovI.step cf p 0)⟩
            case measure => simp [intOf]; omega
          · have e2 : ((m : Int) == 0) = false := by simpa using hm0
            have hp0 : (0 : Int) ≤ (p : Int) + (m : Int) := by omega
            have hp1 : (p : Int) + (m : Int) < (n : Int) := by omega
            go_wp2
            go_quiet (fail)
            go_wp2
            go_roundw
            case rel => exact ⟨m + 1, by omega, by go_num, by go_num, (CovI.mark (p := p) (m := m) (HI.out.drewN nq) (by omega) (by have := HM0; simp [World.drewN]; omega)).congr (CovI.step cf p m)⟩
            case measure => simp [intOf]; omega
        · obtain rfl : m = z := by omega
          clear hI
          go_wp2
          go_roundw
          case rel => exact ⟨k + 1, by omega, by go_num, by rw [HS.out], HI.out.congr (fun j => (HZ.out j).symm)⟩
          case measure => simp [intOf]; omega
    · obtain rfl : k = Q.length := by omega
      have e : sumQ (Q.take Q.length) = n := by rw [List.take_length]; exact HQ.out.sum
      rw [e]
      have g1 := HI.out.2.1.cell 1
      have e3 : ((n : Int) == (n : Int)) = true := by simp
      clear e
      go_wp2
      go_ret
      exact ⟨rfl, HI.out.1⟩

end Go.Proofs.Ytkpnmknkimlnaaa
