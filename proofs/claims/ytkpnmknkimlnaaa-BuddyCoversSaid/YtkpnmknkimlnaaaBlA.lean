/-
  Buddy's law: what an iterator goes through, as a list of blocks.
-/
import Derived.Test.YtkpnmknkimlnaaaBvF
namespace Go.Proofs.Ytkpnmknkimlnaaa
set_option linter.unusedVariables false
set_option linter.unusedSimpArgs false
open Go.RowKit BuT
set_option maxHeartbeats 4000000
set_option maxRecDepth 100000
set_option linter.unusedVariables false
set_option linter.unusedSimpArgs false

theorem fn_nilB (g : FuncId) (lb : Array Value) (w : World) : (binOp .eql 72 (.func (.func g) #[] lb) .nilFunc).run Try.prog w = .ok (.bool false) w := by kernel_rfl

def GoneBI (B : Nat) (most : Int) (L : List Bk) (i : Nat) (X : List Nat) (W : World) : Prop :=
  ∃ v, Blk W B [.int .i64 most] 3 ∧ Blk W (B + 1) [v] 69 ∧ W.ownsRow B 76 2 v i (encB (L.take i)) ∧ X = own v ∧ (i : Int) ≤ max most 0
def GoneBX (B : Nat) (most : Int) (L : List Bk) (c : Code) (i : Nat) (X : List Nat) (W : World) : Prop :=
  c = .exit 0 ∧ ∃ v, Blk W (B + 1) [v] 69 ∧ W.ownsRow B 76 2 v (L.take most.toNat).length (encB (L.take most.toNat)) ∧ X = own v
def GoneBP (B : Nat) (most : Int) (L : List Bk) (w : World) (e : Ending) (w' : World) : Prop :=
  ∃ v, e = .returned v ∧ w'.ownsRow B 76 2 v (L.take most.toNat).length (encB (L.take most.toNat)) ∧ Ext [] w w'

theorem bgone_c (g : FuncId) (lb : Array Value) (Kp : List Nat) (L : List Bk) (w0 : World) (hit : Iter Try.prog g lb Kp (bkVals L) w0) (eg : Enters Try.prog g) (hL : L.length ≤ 4096) (most : Int) (w : World)
    (hs : w0.heap.size ≤ w.heap.size) (hK : ∀ b, b ∈ Kp → b < w0.heap.size ∧ w.heap[b]? = w0.heap[b]?) :
    Calls Try.prog 25 #[.func (.func g) #[] lb, .int .i64 most] w (GoneBP w.heap.size most L w) := by
  have hlen : (bkVals L).length = L.length := by simp [bkVals]
  have Hlen := Lib.hid hlen
  clear hlen
  have hfn := fn_nilB g lb
  refine calls_of_callsIn 1000 ?_
  refine callsIn_of_wp_marks Try.func25 rfl trivial ?_ rfl
  simp only [Try.ntmps25, List.size_toArray, List.length_cons, List.length_nil, Nat.reduceAdd, Nat.reduceSub, Array.replicate_succ, Array.replicate_zero, List.push_toArray, List.append_toArray, List.nil_append, List.cons_append]
  gi_wp2
  have hb1 := ((Blk.new w [.int .i64 most] 3).alloc (.cells #[.slice none 0 0] 69))
  have hb2 := Blk.new (w.alloc (.cells #[.int .i64 most] 3)) [.slice none 0 0] 69
  have hx0 : Ext [] w ((w.alloc (.cells #[.int .i64 most] 3)).alloc (.cells #[.slice none 0 0] 69)) := ((Ext.refl _ _).alloc _).alloc _
  simp only [World.size_alloc] at hb2
  generalize hw1 : (w.alloc (.cells #[.int .i64 most] 3)).alloc (.cells #[.slice none 0 0] 69) = w1 at *
  have hs1 : w1.heap.size = w.heap.size + 2 := by rw [← hw1]; simp
  clear hw1
  have Hs1 := Lib.hid hs1
  clear hs1 hfn
  refine wpIn_range (by omega) rfl eg hit (by simp [bkVals]) [w.heap.size, w.heap.size + 1]
    (GoneBI w.heap.size most L) (GoneBX w.heap.size most L)
    ?fI ?fIx ?hM (by have := Hs1.out; omega) ?hK ?h0 ?round ?done ?stop
  case fI =>
    rintro i X W W' ⟨v, h1, h2, h3, h4, h5⟩ hk
    exact ⟨v, (hk _ (.inl (by simp)) h1.lt).trans h1, (hk _ (.inl (by simp)) h2.lt).trans h2, ownsRow_of_block h3 (fun b hb => hk b (.inr (by simp [h4, own, hb])) (h3.lt b hb).2), h4, h5⟩
  case fIx =>
    rintro c i X W W' ⟨rfl, v, h2, h3, h4⟩ hk
    exact ⟨rfl, v, (hk _ (.inl (by simp)) h2.lt).trans h2, ownsRow_of_block h3 (fun b hb => hk b (.inr (by simp [h4, own, hb])) (h3.lt b hb).2), h4⟩
  case hM => intro b hb; have := Hs1.out; simp at hb; refine ⟨by omega, fun h => ?_⟩; have := (hK b h).1; omega
  case hK => intro b hb; have := hK b hb; exact ⟨this.1, (hx0.block b (by omega) (by simp)).trans this.2⟩
  case h0 => exact ⟨_, hb1, hb2, World.ownsRow_nil _ _ _ _, rfl, by omega⟩
  case round =>
    rintro l i hi X W ⟨v, h1, h2, h3, h4, h5⟩ hx hX hl hlW
    subst h4
    have hiL : i < L.length := by have := Hlen.out; omega
    rw [bk_get hi hiL]
    have htk : L.take (i + 1) = L.take i ++ [L[i]] := List.take_succ_eq_append_getElem hiL
    have HTK := Lib.hid htk
    have hti : (L.take i).length = i := by simp; omega
    have HTI := Lib.hid hti
    clear htk hti
    generalize L[i] = x at *
    obtain ⟨xf, xo⟩ := x
    simp only [bkV] at *
    unfold RoundX
    gi_wp2
    refine ⟨(Ext.refl _ _).alloc _, fun W₂ r hx2 hs2 hr => ?_⟩
    have Hs2 := Lib.hid hs2
    have Hr := Lib.hid hr
    clear hs2 hr
    have n1 : w.heap.size ≠ l := by have := Hs1.out; omega
    have n2 : w.heap.size + 1 ≠ l := by have := Hs1.out; omega
    have b1 := (h1.alloc (.cells #[.int .i64 xf, .int .i64 xo] 76)).ext hx2 (by simpa using n1)
    have b2 := (h2.alloc (.cells #[.int .i64 xf, .int .i64 xo] 76)).ext hx2 (by simpa using n2)
    have b3 := (Blk.new W [.int .i64 xf, .int .i64 xo] 76).ext hx2 (by simp; omega)
    have q0 := b3.cell 0
    have q1 := b3.cell 1
    have hsW : (W.alloc (.cells #[.int .i64 xf, .int .i64 xo] 76)).heap.size = W.heap.size + 1 := by simp
    have HsW := Lib.hid hsW
    clear hsW b3
    have hcm := b1.cell 0
    have hcl := b2.cell 0
    have hfl := b2.frozen 0
    have ho2 := ownsRow_ext (ownsRow_ext h3 ((Ext.refl [] W).alloc (.cells #[.int .i64 xf, .int .i64 xo] 76)) (by simp)) hx2 (fun b hb => by have := (hX b (by simp [own, hb])).2.2; simpa using this)
    have hlv := ownsRow_form h3
    have hown1 : ∀ b, v.ownBlock = some b → w1.heap.size ≤ b ∧ b < W.heap.size ∧ b ≠ l := fun b hb => hX b (by simp [own, hb])
    have hw2 : w.heap.size ≤ W₂.heap.size := by have := hx.size; have := Hs1.out; have := Hs2.out; have := HsW.out; omega
    obtain ⟨va, vc, rfl, hvc, hvm⟩ := hlv
    have hi2 : i ≤ 4096 := by omega
    clear h1 h2 h3 hb1 hb2 hK hx0 hit
    by_cases hlt : most ≤ (i : Int)
    · have hte : L.take i = L.take most.toNat := by congr 1; omega
      have Hte := Lib.hid hte
      clear hte
      gi_wp2
      refine ⟨_, RoundEnd.of (N := []) ((Ext.refl _ _).alloc _) hx2 Hr.out (Ext.refl _ _) (by simp) (fun b hb => ⟨.inl hb, by have := (hX b hb).2.1; have := Hs2.out; have := HsW.out; omega⟩), rfl, _, b2, ?_, rfl⟩
      rw [Hte.out] at ho2
      have hl2 : (L.take most.toNat).length = i := by rw [← Hte.out]; simp; omega
      rw [hl2]; exact ho2
    · have Hn := Lib.hid (show (i : Int) + 1 ≤ max most 0 by omega)
      gi_wp2_with (gi_at_builtin; refine wpListIn_app T_blk (ownsRow_ext ho2 ((Ext.refl [] _).alloc _) (by simp)) (Sl.lit W₂ 2 1 [.int .i64 xf, .int .i64 xo] 76 (by decide) rfl) rfl rfl rfl rfl rfl (by simp [Value.oneCell']) (by unfold maxLen; omega) (by omega) (by simp; omega) ?_; intro v' w' hown' hext' hnew'; obtain ⟨va', vc', rfl, hvc', hvm'⟩ := ownsRow_form hown'; have b2' := (b2.alloc (.cells #[.int .i64 xf, .int .i64 xo] 76)).ext hext' (by simp [own]; intro h; have := (hown1 _ h).1; have := Hs1.out; omega); have hcl' := b2'.cell 0; have hfl' := b2'.frozen 0; skip)
      refine ⟨own (.slice va' (i + 1) vc'), RoundEnd.of (N := (w.heap.size + 1) :: own (.slice va i vc)) ((Ext.refl _ _).alloc _) hx2 Hr.out
        (((((Ext.refl _ W₂).alloc _)).step hext' (fun k hk => .inl (by simp [hk]))).setCell _ _ (.inl (by simp))) (fun k hk => ?_) (fun b hb => ?_), .slice va' (i + 1) vc', ?_, ?_, ?_, rfl, ?_⟩
      · rcases List.mem_cons.1 hk with rfl | hk
        · exact ⟨.inl (by simp), n2⟩
        · exact ⟨.inr (.inl hk), (hown1 k (by simpa [own] using hk)).2.2⟩
      · have hb' : (Value.slice va' (i + 1) vc').ownBlock = some b := by simpa [own] using hb
        refine ⟨?_, by have := hown'.lt b hb'; simp [World.setCell]; omega⟩
        rcases hnew' b hb' with h | h
        · exact .inl (by simp [own, h])
        · exact .inr (by simp at h; have := Hs2.out; have := HsW.out; omega)
      · exact ((b1.alloc (.cells #[.int .i64 xf, .int .i64 xo] 76)).ext hext' (by simp [own]; intro h; have := (hown1 _ h).1; have := Hs1.out; omega)).set_ne _ (by simp)
      · exact b2'.set 0 _
      · rw [HTK.out, encB_app]
        refine ownsRow_ext hown' ((Ext.refl [w.heap.size + 1] w').setCell _ _ (.inl (by simp))) (fun b hb => ?_)
        rcases hnew' b hb with h | h
        · have := (hown1 b h).1; have := Hs1.out; simp; omega
        · have := hx.size; simp at h ⊢; have := Hs1.out; have := Hs2.out; have := HsW.out; omega
      · have := Hn.out; simpa using this
  case done =>
    rintro D X W hD hE ⟨v, h1, h2, h3, h4, h5⟩ hx hX
    have hcl := h2.cell 0
    obtain ⟨va, vc, rfl, hvc, hvm⟩ := ownsRow_form h3
    have hlL : L.take most.toNat = L.take (bkVals L).length := by rw [List.take_of_length_le (by have := Hlen.out; omega), List.take_of_length_le (by have := Hlen.out; omega)]
    have HlL := Lib.hid hlL
    clear hlL hb1 hb2 hK hit h1
    gi_wp2
    refine leaves_marks [D] _ (by simpa using hE) (by simp) (fun w' hx' hs' => ⟨_, results_tmp rfl _ _ _, _, rfl, ?_, ?_⟩)
    · rw [HlL.out]
      have hl3 : (List.take (bkVals L).length L).length = (bkVals L).length := by simp; have := Hlen.out; omega
      rw [hl3]
      exact ownsRow_ext h3 hx' (fun b hb => by have := (hX b (h4 ▸ mem_own hb)).2.2; simpa using this)
    · exact (hx0.step hx (fun i hi => .inr (by simp at hi; omega))).step hx' (fun i hi => .inr (by have := Hs1.out; simp at hi; omega))
  case stop =>
    rintro D c i X W hD hE hi ⟨rfl, v, h2, h3, h4⟩ hx hX
    have hcl := h2.cell 0
    obtain ⟨va, vc, rfl, hvc, hvm⟩ := ownsRow_form h3
    obtain ⟨m, hm⟩ : ∃ m, m = (L.take most.toNat).length := ⟨_, rfl⟩
    rw [← hm] at h3 h2 hcl h4 hvc
    have H3 := Lib.hid h3
    have Hm := Lib.hid hm
    clear hb1 hb2 hK hit h3 hm
    gi_wp2
    refine leaves_marks [D] _ (by simpa using hE) (by simp) (fun w' hx' hs' => ⟨_, results_tmp rfl _ _ _, _, rfl, ?_, ?_⟩)
    · rw [← Hm.out]
      exact ownsRow_ext H3.out hx' (fun b hb => by have := (hX b (h4 ▸ mem_own hb)).2.2; simpa using this)
    · exact (hx0.step hx (fun i hi => .inr (by simp at hi; omega))).step hx' (fun i hi => .inr (by have := Hs1.out; simp at hi; omega))

end Go.Proofs.Ytkpnmknkimlnaaa
