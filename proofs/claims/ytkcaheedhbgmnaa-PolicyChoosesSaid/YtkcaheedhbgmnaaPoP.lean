/-
  Policy: Choose, with the law's question.
-/
import Derived.Test.YtkcaheedhbgmnaaPoN
namespace Go.Proofs.Ytkcaheedhbgmnaa
set_option linter.unusedVariables false
set_option linter.unusedSimpArgs false
open Go.RowKit
set_option maxHeartbeats 1000000
set_option maxRecDepth 100000
set_option linter.unusedVariables false
set_option linter.unusedSimpArgs false

/-- Behind w: who was asked lies in block ba. -/
def Asked (w : World) (ba : Nat) (A : List Nat) (wr : World) : Prop := Ext [ba] w wr ∧ ∃ v, Blk wr ba [v] 67 ∧ wr.ownsRow w.heap.size 3 1 v A.length (encN A)
theorem Asked.ext {w wr w' : World} {ba : Nat} {A : List Nat} (h : Asked w ba A wr) (hx : Ext [] wr w') : Asked w ba A w' := by
  obtain ⟨h1, v, h2, h3⟩ := h
  exact ⟨h1.step hx (by simp), v, h2.ext hx (by simp), ownsRow_ext h3 hx (by simp)⟩
theorem Asked.base {w w1 wr : World} {ba : Nat} {A : List Nat} (hx : Ext [] w w1) (h : Asked w1 ba A wr) : Asked w ba A wr := by
  obtain ⟨h1, v, h2, h3⟩ := h
  exact ⟨(hx.mono (by simp)).trans h1, v, h2, ownsRow_base h3 hx.size⟩
def askF (ba bf : Nat) : Value := .func (.func 50) #[] #[.pointer (some ⟨ba, 0, none⟩), .pointer (some ⟨bf, 0, none⟩)]
theorem ask_c (w wr : World) (ba bf : Nat) (A : List Nat) (fr : Int) (y : Nat) (h : Asked w ba A wr) (hba : ba < w.heap.size) (hbf : Blk w bf [.int .i64 fr] 3) (hne : bf ≠ ba) (hy : y < 8) (hA : A.length ≤ 100) :
    Calls Try.prog 50 #[.int .i64 (y : Int), .pointer (some ⟨ba, 0, none⟩), .pointer (some ⟨bf, 0, none⟩)] wr fun e w' => e = .returned (.bool (bitB fr y)) ∧ Asked w ba (A ++ [y]) w' := by
  obtain ⟨hx, v, hb, ho⟩ := h
  obtain ⟨va, vc, rfl, hvc, hvm⟩ := ownsRow_form ho
  have hsz := hx.size
  have k0 := hb.cell 0
  have f0 := hb.frozen 0
  have hf := (hbf.ext hx (by simpa using hne)).cell 0
  have C := Lib.hid (fun w => has_c fr y w hy)
  have hown : ∀ b, (Value.slice va A.length vc).ownBlock = some b → b ≠ ba := fun b h => by have := (ho.lt b h).1; omega
  have HOwn := Lib.hid hown
  have HB := Lib.hid hb
  have HX := Lib.hid hx
  have hbw : ba < wr.heap.size := by omega
  have HBF := Lib.hid (hbf.ext hx (by simpa using hne))
  have hlt := hbf.lt
  clear hb hx hown hbf
  go_enter Try.func50, Try.ntmps50
  go_wp2_with (first
    | (at_builtin; refine wpList_app T_int (ownsRow_ext ho ((Ext.refl [] _).alloc _) (by simp)) (Sl.lit wr 1 1 [.int .i64 (y : Int)] 3 (by decide) rfl) rfl rfl rfl rfl rfl (by simp [Value.oneCell']) (by unfold maxLen; omega) (by omega) (by simp; omega) ?_; intro v' w' hown' hext' hnew'; obtain ⟨va', vc', rfl, hvc', hvm'⟩ := ownsRow_form hown'; have b2' := (HB.out.alloc (.cells #[.int .i64 (y : Int)] 3)).ext hext' (fun h => HOwn.out _ (of_mem_own h) rfl); have hcl' := b2'.cell 0; have hfl' := b2'.frozen 0; have g2' := (HBF.out.alloc (.cells #[.int .i64 (y : Int)] 3)).ext hext' (fun h => by have := (ho.lt _ (of_mem_own h)).1; omega); have hf2 := (g2'.set_ne (p := ⟨ba, 0, none⟩) (.slice va' (A.length + 1) vc') hne).cell 0; have HB2 := Lib.hid b2'; have HO2 := Lib.hid hown'; have HX2 := Lib.hid hext'; have HN2 := Lib.hid hnew'; clear hown' hext' hnew' b2' g2')
    | (go_at_call 40; refine (C.out _).mono ?_; rintro e w' ⟨rfl, rfl⟩))
  go_ret
  refine ⟨rfl, ?_, _, HB2.out.set 0 _, ?_⟩
  · exact ((HX.out.alloc _).step HX2.out (fun i hi => .inr (ho.lt i (of_mem_own hi)).1)).setCell _ _ (.inl (by simp))
  · rw [show (A ++ [y]).length = A.length + 1 by simp, encN_app]
    refine ownsRow_ext (ownsRow_base HO2.out (Nat.le_refl _)) ((Ext.refl [ba] _).setCell _ _ (.inl (by simp))) (fun b hb => ?_)
    rcases HN2.out b hb with h | h
    · simpa using HOwn.out b h
    · simp at h; simp; omega

/-- Where the first hit stands. -/
def hitAt (fr : Int) (L : List Nat) : Option Nat := L.findIdx? (bitB fr)
def askedL (fr : Int) (L : List Nat) : List Nat := match hitAt fr L with
  | some i => L.take (i + 1)
  | none => L
def pick (fr : Int) (L : List Nat) : Value := match hitAt fr L with
  | some i => .tuple #[.int .i64 ((L.getD i 0 : Nat) : Int), .bool true]
  | none => .tuple #[.int .i64 0, .bool false]
theorem hit_some {fr : Int} {L : List Nat} {k : Nat} (hk : k < L.length) (h1 : ∀ y, y ∈ L.take k → bitB fr y = false) (h2 : bitB fr L[k] = true) : hitAt fr L = some k := by
  unfold hitAt
  rw [List.findIdx?_eq_some_iff_getElem]
  refine ⟨hk, h2, fun j hj => ?_⟩
  have := h1 (L[j]'(by omega)) (by rw [List.mem_take_iff_getElem]; exact ⟨j, by omega, rfl⟩)
  simpa using this
theorem hit_none {fr : Int} {L : List Nat} (h : ∀ y, y ∈ L → bitB fr y = false) : hitAt fr L = none := by
  unfold hitAt; rw [List.findIdx?_eq_none_iff]; exact h

theorem fn_nilP (g : FuncId) (lb : Array Value) (w : World) : (binOp .eql 85 (.func (.func g) #[] lb) .nilFunc).run Try.prog w = .ok (.bool false) w := by kernel_rfl
def Chose (w : World) (ba : Nat) (fr : Int) (L : List Nat) (e : Ending) (w' : World) : Prop := e = .returned (pick fr L) ∧ Asked w ba (askedL fr L) w'

theorem choose_c (k m x p n fr : Int) (w : World) (ba bf : Nat) (hba : Blk w ba [.slice none 0 0] 67) (hbf : Blk w bf [.int .i64 fr] 3) (hne : bf ≠ ba) (hL8 : ∀ y, y ∈ ordA k m x p n → y < 8) (hLl : (ordA k m x p n).length ≤ 8) :
    Calls Try.prog 49 #[polV k m, .int .i64 x, .int .i64 p, .int .i64 n, askF ba bf] w (Chose w ba fr (ordA k m x p n)) := by
  have CO := Lib.hid (fun w => orderA_c k m x p n w)
  unfold RetA at CO
  have he : errA k m x p n = 0 ∨ (errA k m x p n = 1 ∧ ordA k m x p n = []) := by
    unfold errA ordA; split
    · exact .inl rfl
    · exact .inr ⟨rfl, rfl⟩
  have hnil := fn_nilP 50
  have h0 : Asked w ba [] w := ⟨Ext.refl _ _, _, hba, World.ownsRow_nil _ _ _ _⟩
  have H0 := Lib.hid h0
  have CA := Lib.hid (fun w1 wr A y (hx : Ext [] w w1) (h : Asked w1 ba A wr) hy hA => ask_c w1 wr ba bf A fr y h (Nat.lt_of_lt_of_le hba.lt hx.size) (hbf.ext hx (by simp)) hne hy hA)
  have HBA := Lib.hid hba
  have HL8 := Lib.hid hL8
  clear h0 hba hbf hL8
  unfold polV askF at *
  generalize ordA k m x p n = L at *
  generalize errA k m x p n = er at *
  rcases he with rfl | ⟨rfl, rfl⟩
  · go_enter Try.func49, Try.ntmps49
    go_wp2_with (go_at_call 34; refine (CO.out _).mono ?_; rintro e w1 ⟨v1, rfl, hs, hx⟩; obtain ⟨va, vn, vc, rfl, _⟩ := hs.form; have hl := hs.len; have HS := Lib.hid hs; have HX := Lib.hid (((Ext.refl [] w).alloc (.cells #[.int .i64 k, .int .i64 m] 77)).trans hx); have HLn := Lib.hid hl; have hv8 : vn ≤ 8 := (by omega); clear hs hx hl)
    have hcl := HX.out.size
    go_loopw [32] (fun i wr => ∃ j : Nat, j ≤ vn ∧ i = .int .i64 j ∧ (∀ y, y ∈ L.take j → bitB fr y = false) ∧ Asked w1 ba (L.take j) wr) (fun i _ => vn - (intOf i).toNat)
    case atStart => exact ⟨0, by omega, rfl, by simp, ⟨Ext.refl _ _, _, HBA.out.ext HX.out (by simp), World.ownsRow_nil _ _ _ _⟩⟩
    case round =>
      obtain ⟨j, hj, rfl, hno, hA⟩ := hrel
      by_cases hlt : j < vn
      · obtain ⟨b, o, hkL, rfl, hb, hc⟩ := HS.out.at hlt
        have hbne : b ≠ ba := by
          rintro rfl
          rw [(HBA.out.ext HX.out (by simp)).cell (o + j)] at hc
          cases h : o + j with
          | zero => rw [h] at hc; simp at hc
          | succ q => rw [h] at hc; simp at hc
        replace hc := (hA.1.cell (p := ⟨b, o + j, none⟩) hb (by simpa using hbne)).trans hc
        have ht := take_one hkL
        have hz8 := HL8.out L[j] (List.getElem_mem hkL)
        have C := Lib.hid (CA.out w1 wr _ L[j] HX.out hA hz8 (by simp; omega))
        rw [← ht] at C
        have HT := Lib.hid ht
        have HNO := Lib.hid hno
        have HH := Lib.hid (fun h => hit_some hkL hno h)
        have HG := Lib.hid (show L.getD j 0 = L[j] by simp [List.getD_eq_getElem?_getD, List.getElem?_eq_getElem hkL])
        clear ht hno hA
        generalize L[j] = z at *
        have j0 : (0 : Int) ≤ (j : Int) := by omega
        have j1 : (j : Int) < (vn : Int) := by omega
        cases hz : bitB fr z
        · rw [hz] at C
          have HZ := Lib.hid hz
          clear hz
          go_wp2_with (go_at_call 50; refine (C.out).mono ?_; rintro e w3 ⟨rfl, hA3⟩; have HA3 := Lib.hid hA3; clear hA3)
          go_roundw
          case rel => exact ⟨j + 1, by omega, by go_num, fun y hy => by
            rw [HT.out] at hy
            rcases List.mem_append.1 hy with hy | hy
            · exact HNO.out y hy
            · obtain rfl : y = z := by simpa using hy
              exact HZ.out, HA3.out⟩
          case measure => simp [intOf]; omega
        · rw [hz] at C
          have HZ := Lib.hid hz
          clear hz
          go_wp2_with (go_at_call 50; refine (C.out).mono ?_; rintro e w3 ⟨rfl, hA3⟩; have HA3 := Lib.hid hA3; clear hA3)
          go_ret2
          have e := HH.out HZ.out
          exact ⟨(show Ending.returned (.tuple #[.int .i64 (z : Int), .bool true]) = _ by unfold pick; rw [e]; simp only; rw [HG.out]), by unfold askedL; rw [e]; exact HA3.out.base HX.out⟩
      · obtain rfl : j = vn := by omega
        rw [List.take_of_length_le (by rw [HLn.out]; omega)] at hno hA
        have e := Lib.hid (hit_none hno)
        have HA3 := Lib.hid hA
        clear hno hA
        go_wp2
        go_ret2
        exact ⟨(show Ending.returned (.tuple #[.int .i64 0, .bool false]) = _ by unfold pick; rw [e.out]), by unfold askedL; rw [e.out]; exact HA3.out.base HX.out⟩
  · go_enter Try.func49, Try.ntmps49
    go_wp2_with (go_at_call 34; refine (CO.out _).mono ?_; rintro e w1 ⟨v1, rfl, hs, hx⟩; have HX := Lib.hid (((Ext.refl [] w).alloc (.cells #[.int .i64 k, .int .i64 m] 77)).trans hx); clear hs hx)
    go_ret2
    exact ⟨rfl, H0.out.ext HX.out⟩

theorem choose_nil (k m x p n : Int) (w : World) :
    Calls Try.prog 49 #[polV k m, .int .i64 x, .int .i64 p, .int .i64 n, .nilFunc] w fun e w' => e = .returned (.tuple #[.int .i64 0, .bool false]) ∧ Ext [] w w' := by
  have CO := Lib.hid (fun w => orderA_c k m x p n w)
  unfold RetA at CO
  have he : errA k m x p n = 0 ∨ errA k m x p n = 1 := by
    unfold errA; split
    · exact .inl rfl
    · exact .inr rfl
  have hnil : ∀ (w : World), (binOp .eql 85 .nilFunc .nilFunc).run Try.prog w = .ok (.bool true) w := fun w => by kernel_rfl
  unfold polV at *
  generalize ordA k m x p n = L at *
  generalize errA k m x p n = er at *
  rcases he with rfl | rfl
  all_goals
    go_enter Try.func49, Try.ntmps49
    go_wp2_with (go_at_call 34; refine (CO.out _).mono ?_; rintro e w1 ⟨v1, rfl, hs, hx⟩; have HX := Lib.hid (((Ext.refl [] w).alloc (.cells #[.int .i64 k, .int .i64 m] 77)).trans hx); clear hs hx)
    go_ret2
    exact ⟨rfl, HX.out⟩

end Go.Proofs.Ytkcaheedhbgmnaa
