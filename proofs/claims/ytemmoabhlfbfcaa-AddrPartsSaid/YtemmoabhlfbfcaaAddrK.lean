/-
  The law AddrParts: any range is cut at huge pages.
-/
import Derived.Test.YtemmoabhlfbfcaaAddrJ
namespace Go.Proofs.Ytemmoabhlfbfcaa
set_option linter.unusedVariables false
set_option linter.unusedSimpArgs false
open Go.RowKit
set_option maxHeartbeats 1000000
set_option maxRecDepth 100000

theorem fn_nil2 (g : FuncId) (lb : Array Value) (w : World) : (binOp .eql 46 (.func (.func g) #[] lb) .nilFunc).run Try.prog w = .ok (.bool false) w := by kernel_rfl

theorem encP_at {L : List (Nat × Nat)} {i : Nat} {x : Nat × Nat} (h : L[i]? = some x) : (encP L)[i * 2]? = some (.int .i64 (x.1 : Int)) ∧ (encP L)[i * 2 + 1]? = some (.int .i64 (x.2 : Int)) := by
  induction L generalizing i with
  | nil => simp at h
  | cons y l ih =>
    cases i with
    | zero => simp at h; subst h; exact ⟨rfl, rfl⟩
    | succ i =>
      have := ih (i := i) (by simpa using h)
      rw [show (i + 1) * 2 = i * 2 + 2 by omega]
      exact this

def PartsI (B b8 b9 m : Nat) (want : Value) (i : Nat) (X : List Nat) (W : World) : Prop :=
  Blk W B [.int .u16 (m : Int)] 34 ∧ (∃ r, Blk W (B + 1) [.bool r] 4) ∧ Blk W b8 [want] 48 ∧ Blk W b9 [.int .i64 (i : Int)] 3 ∧ X = []
def PartsX (B b8 b9 m : Nat) (want : Value) (c : Code) (i : Nat) (X : List Nat) (W : World) : Prop :=
  c = .exit 0 ∧ m ≤ i ∧ PartsI B b8 b9 m want i X W

theorem addrParts_b (from_ to : Int) (m : Nat) (h1 : m ≤ 65535) (w : World) :
    Calls Try.prog 7 #[.int .i64 from_, .int .i64 to, .int .u16 m] w fun e w' => e = .returned (.bool true) ∧ Ext [] w w' := by
  obtain ⟨lo, hlo⟩ : ∃ lo : Nat, (lo : Int) = max from_ 0 := ⟨(max from_ 0).toNat, by omega⟩
  obtain ⟨hi, hhi⟩ : ∃ hi : Nat, hi = (min to 4096).toNat := ⟨_, rfl⟩
  have Hp := Lib.hid (fun w => parts_it from_ to lo hi hlo hhi w)
  have Hr := Lib.hid (fun w => rparts_c from_ to lo hi hlo hhi w)
  have hL : (partsL lo hi).length ≤ 4096 := by rw [parts_len]; have := upto_le (stB lo) hi; omega
  generalize partsL lo hi = L at *
  clear hlo hhi
  have hfn := fn_nil2 54
  refine calls_of_callsIn 1000 ?_
  refine callsIn_of_wp_marks Try.func7 rfl trivial ?_ rfl
  simp only [Try.ntmps7, List.size_toArray, List.length_cons, List.length_nil, Nat.reduceAdd, Nat.reduceSub, Array.replicate_succ, Array.replicate_zero, List.push_toArray, List.append_toArray, List.nil_append, List.cons_append]
  gi_wp2_with (first
    | (gi_at_call 30; refine (callsIn_of_calls (parts_c _ _ _)).mono ?_; rintro e w' ⟨rfl, rfl⟩)
    | (gi_at_call 31; refine (callsIn_of_calls (Hr.out _)).mono ?_; rintro e w2 ⟨v, rfl, hown, hx⟩; obtain ⟨va, vc, rfl, hvc, hvm⟩ := ownsRow_form hown))
  obtain ⟨wA, hwA⟩ : ∃ wA, wA = (w.alloc (.cells #[.int .u16 (m : Int)] 34)).alloc (.cells #[.bool false] 4) := ⟨_, rfl⟩
  have hsA : wA.heap.size = w.heap.size + 2 := by rw [hwA]; simp
  have bA := (Blk.new w [.int .u16 (m : Int)] 34).alloc (.cells #[.bool false] 4)
  have bR := Blk.new (w.alloc (.cells #[.int .u16 (m : Int)] 34)) [.bool false] 4
  rw [World.size_alloc] at bR
  have xA : Ext [] w wA := by rw [hwA]; exact ((Ext.refl _ _).alloc _).alloc _
  rw [← hwA] at hx bA bR hown
  have hit := Hp.out wA
  obtain ⟨w1, hw1⟩ : ∃ w1, w1 = (wA.alloc (.cells #[.int .i64 from_] 3)).alloc (.cells #[.int .i64 to] 3) := ⟨_, rfl⟩
  have hs1 : w1.heap.size = w.heap.size + 4 := by rw [hw1]; simp; omega
  have x1 : Ext [] wA w1 := by rw [hw1]; exact ((Ext.refl _ _).alloc _).alloc _
  rw [← hw1] at hx hown hit
  rw [hsA] at hit
  clear hwA hw1
  have b8 := (Blk.new w2 [.slice va L.length vc] 48).alloc (.cells #[.int .i64 0] 3)
  have b9 := Blk.new (w2.alloc (.cells #[.slice va L.length vc] 48)) [.int .i64 0] 3
  rw [World.size_alloc] at b9
  have x3 : Ext [] w2 ((w2.alloc (.cells #[.slice va L.length vc] 48)).alloc (.cells #[.int .i64 0] 3)) := ((Ext.refl _ _).alloc _).alloc _
  generalize hw3 : (w2.alloc (.cells #[.slice va L.length vc] 48)).alloc (.cells #[.int .i64 0] 3) = w3 at *
  have hs3 : w3.heap.size = w2.heap.size + 2 := by rw [← hw3]; simp
  clear hw3
  have h2 := hx.size
  have HSL := Lib.hid ((Sl.of_own hown).ext x3 (by simp))
  have x13 := hx.trans x3
  have Hs : Hid (wA.heap.size = w.heap.size + 2 ∧ w1.heap.size = w.heap.size + 4 ∧ w3.heap.size = w2.heap.size + 2 ∧ w1.heap.size ≤ w2.heap.size) := ⟨hsA, hs1, hs3, h2⟩
  have xw3 : Ext [] w w3 := (xA.trans x1).trans x13
  have hlen : (pairs L).length = L.length := by simp [pairs]
  have Hlen := Lib.hid hlen
  clear hsA hs1 hs3 hfn hlen
  have e3 : w.heap.size + 1 + 1 + 1 = w.heap.size + 2 + 1 := rfl
  have hown' : ∀ b, (Value.slice va L.length vc).ownBlock = some b → w1.heap.size ≤ b ∧ b < w2.heap.size := fun b hb => hown.lt b hb
  clear hown
  refine wpIn_range (w₀ := w1) (by omega) rfl (Go.Proofs.enters_of Try.func54 (by kernel_rfl) rfl) hit (by intro x hx; simp only [pairs, List.mem_map] at hx; obtain ⟨y, _, rfl⟩ := hx; rfl) [w.heap.size, w.heap.size + 1, w2.heap.size, w2.heap.size + 1]
    (PartsI w.heap.size w2.heap.size (w2.heap.size + 1) m (.slice va L.length vc)) (PartsX w.heap.size w2.heap.size (w2.heap.size + 1) m (.slice va L.length vc)) ?fI ?fIx ?hM (by have := Hs.out; omega) ?hK ?h0 ?round ?done ?stop
  case fI =>
    rintro i X W W' ⟨c1, ⟨r, c2⟩, c3, c4, c5⟩ hk
    exact ⟨(hk _ (.inl (by simp)) c1.lt).trans c1, ⟨r, (hk _ (.inl (by simp)) c2.lt).trans c2⟩, (hk _ (.inl (by simp)) c3.lt).trans c3, (hk _ (.inl (by simp)) c4.lt).trans c4, c5⟩
  case fIx =>
    rintro c i X W W' ⟨c6, c7, c1, ⟨r, c2⟩, c3, c4, c5⟩ hk
    exact ⟨c6, c7, (hk _ (.inl (by simp)) c1.lt).trans c1, ⟨r, (hk _ (.inl (by simp)) c2.lt).trans c2⟩, (hk _ (.inl (by simp)) c3.lt).trans c3, (hk _ (.inl (by simp)) c4.lt).trans c4, c5⟩
  case hM => intro b hb; have := Hs.out; simp at hb ⊢; omega
  case hK => intro b hb; have := Hs.out; simp at hb; exact ⟨by omega, x13.block b (by omega) (by simp)⟩
  case h0 => exact ⟨(bA.ext x1 (by simp)).ext x13 (by simp), ⟨_, (bR.ext x1 (by simp)).ext x13 (by simp)⟩, b8, b9, rfl⟩
  case round =>
    rintro l i hi X W ⟨c1, ⟨r, c2⟩, c3, c4, c5⟩ hx hX hl hlW
    subst c5
    have hiL : i < L.length := by have := Hlen.out; omega
    rw [show (pairs L)[i] = #[.int .i64 ((L[i].1 : Nat) : Int), .int .i64 ((L[i].2 : Nat) : Int)] by simp [pairs]]
    have hat := encP_at (L := L) (i := i) (List.getElem?_eq_getElem hiL)
    generalize L[i] = x at *
    obtain ⟨px, nx⟩ := x
    have hne : w.heap.size ≠ l ∧ w.heap.size + 1 ≠ l ∧ w2.heap.size ≠ l ∧ w2.heap.size + 1 ≠ l := by have := Hs.out; omega
    have hs := HSL.out.ext hx (fun b hb => by have := hown' b hb; have := Hs.out; simp; omega)
    unfold RoundX
    gi_wp2
    refine ⟨Ext.refl _ _, fun W₂ rr hx2 hs2 hr => ?_⟩
    have Hs2 := Lib.hid hs2
    have Hr2 := Lib.hid hr
    have hs' := hs.ext hx2 (fun b hb => by have := hown' b hb; have := Hs.out; simp; omega)
    obtain ⟨a', n', c', he, _, _, _, hcell⟩ := hs'.form
    cases he
    obtain ⟨b, o, rfl, hb, hcell⟩ := hcell (by omega)
    have hc1 := hcell (i * 2) (by omega)
    have hc2 := hcell (i * 2 + 1) (by omega)
    rw [hat.1] at hc1
    rw [hat.2, ← Nat.add_assoc] at hc2
    have d1 := (c1.ext hx2 (by simpa using hne.1)).cell 0
    have d3 := (c3.ext hx2 (by simpa using hne.2.2.1)).cell 0
    have e4 := c4.ext hx2 (by simpa using hne.2.2.2)
    have d4 := e4.cell 0
    have f4 := e4.frozen 0
    have k1 := c1.ext hx2 (by simpa using hne.1)
    have k2 := c2.ext hx2 (by simpa using hne.2.1)
    have k3 := c3.ext hx2 (by simpa using hne.2.2.1)
    have hi0 : (0 : Int) ≤ i := by omega
    have hi1 : (i : Int) < L.length := by omega
    clear hs2 hr hcell hs hs' hat bA bR hit b8 b9
    have hend : ∀ {W' : World}, Blk W' (w2.heap.size + 1) [.int .i64 ((i : Int) + 1)] 3 → Ext [w2.heap.size + 1] W₂ W' → W'.heap.size = W₂.heap.size →
        RoundEnd l rr [w.heap.size, w.heap.size + 1, w2.heap.size, w2.heap.size + 1] [] [] W W' ∧ PartsI w.heap.size w2.heap.size (w2.heap.size + 1) m (.slice (some ⟨b, o, none⟩) L.length vc) (i + 1) [] W' := fun hb' hx' hs' =>
      ⟨RoundEnd.of (Ext.refl _ _) hx2 Hr2.out hx' (fun k hk => by simp at hk; subst hk; exact ⟨.inl (by simp), hne.2.2.2⟩) (by simp),
       k1.ext hx' (by have := Hs.out; simp; omega), ⟨r, k2.ext hx' (by have := Hs.out; simp; omega)⟩, k3.ext hx' (by simp), by simpa using hb', rfl⟩
    have Hend := Lib.hid (fun W' => @hend W')
    clear hend
    have d1' : (W₂.setCell ⟨w2.heap.size + 1, 0, none⟩ (.int .i64 ((i : Int) + 1))).cell? ⟨w.heap.size, 0, none⟩ = some (.int .u16 (m : Int)) := (k1.set_ne _ (by have := Hs.out; show w.heap.size ≠ w2.heap.size + 1; omega)).cell 0
    by_cases hm : (m : Int) ≤ (i : Int) + 1
    · gi_wp2
      obtain ⟨q1, q2⟩ := Hend.out _ (e4.set 0 _) ((Ext.refl _ _).setCell _ _ (.inl (by simp))) (by simp [World.setCell])
      exact ⟨[], q1, rfl, by omega, q2⟩
    · gi_wp2
      obtain ⟨q1, q2⟩ := Hend.out _ (e4.set 0 _) ((Ext.refl _ _).setCell _ _ (.inl (by simp))) (by simp [World.setCell])
      exact ⟨[], q1, q2⟩
  case done =>
    rintro D X W hD hE ⟨c1, ⟨r, c2⟩, c3, c4, c5⟩ hx hX
    have d1 := c1.cell 0
    have d3 := c3.cell 0
    have d4 := c4.cell 0
    have hiL : ((pairs L).length : Int) = (L.length : Int) := by rw [Hlen.out]
    have hq : (((pairs L).length : Int) == (L.length : Int)) = true := by simp [Hlen.out]
    clear hit bA bR b8 b9 hiL
    gi_wp2_with (gi_at_call 20; refine (callsIn_of_calls (awake_c _)).mono ?_; rintro e w5 ⟨rfl, hx5⟩; have hf5 := (c2.ext hx5 (by simp)).frozen 0; have hc5 := (c2.ext hx5 (by simp)).cell 0)
    refine leaves_marks [D] _ (fun D' h' => by obtain rfl : D' = D := by simpa using h'
                                               exact (Below.heap_setCell _ _ _ _ (by have := Hs.out; have := xw3.size; show D' ≠ w.heap.size + 1; omega)).trans (hx5.keep hE (by simp))) (by simp) (fun w' hx' hs' => ⟨_, ?_, rfl, ?_⟩)
    · have hB := ((c2.ext hx5 (by simp)).set 0 (.bool true)).ext hx' (by have := Hs.out; simp; omega)
      have hBc := hB.cell 0
      rw [results_cell1 rfl]
      simp [go_sem, hBc]
    · exact (((xw3.step hx (fun i hi => .inr (by have := Hs.out; simp at hi; omega))).trans hx5).setCell _ _ (.inr (by show w.heap.size ≤ w.heap.size + 1; omega))).step hx' (fun i hi => .inr (by have := Hs.out; simp at hi; omega))
  case stop =>
    rintro D c i X W hD hE hi ⟨rfl, hm, c1, ⟨r, c2⟩, c3, c4, c5⟩ hx hX
    have d1 := c1.cell 0
    have d3 := c3.cell 0
    have d4 := c4.cell 0
    clear hit bA bR b8 b9
    gi_wp2_with (gi_at_call 20; refine (callsIn_of_calls (awake_c _)).mono ?_; rintro e w5 ⟨rfl, hx5⟩; have hf5 := (c2.ext hx5 (by simp)).frozen 0; have hc5 := (c2.ext hx5 (by simp)).cell 0)
    all_goals
      refine leaves_marks [D] _ (fun D' h' => by obtain rfl : D' = D := by simpa using h'
                                                 exact (Below.heap_setCell _ _ _ _ (by have := Hs.out; have := xw3.size; show D' ≠ w.heap.size + 1; omega)).trans (hx5.keep hE (by simp))) (by simp) (fun w' hx' hs' => ⟨_, ?_, rfl, ?_⟩)
      · have hB := ((c2.ext hx5 (by simp)).set 0 (.bool true)).ext hx' (by have := Hs.out; simp; omega)
        have hBc := hB.cell 0
        rw [results_cell1 rfl]
        simp [go_sem, hBc]
      · exact (((xw3.step hx (fun i hi => .inr (by have := Hs.out; simp at hi; omega))).trans hx5).setCell _ _ (.inr (by show w.heap.size ≤ w.heap.size + 1; omega))).step hx' (fun i hi => .inr (by have := Hs.out; simp at hi; omega))

theorem addrParts_c (from_ to : Int) (a : Int) (w2 : (Lit.int .u16 a).wf = true) (w : World) :
    Calls Try.prog 7 #[.int .i64 from_, .int .i64 to, .int .u16 a] w fun e w' => e = .returned (.bool true) ∧ Ext [] w w' := by
  have hb : 0 ≤ a ∧ a ≤ 65535 := by simp [Lit.wf, IntKind.min, IntKind.max, IntKind.signed, IntKind.bits] at w2; omega
  obtain ⟨m, rfl⟩ := Int.eq_ofNat_of_zero_le hb.1
  exact addrParts_b from_ to m (by omega) w

end Go.Proofs.Ytemmoabhlfbfcaa
