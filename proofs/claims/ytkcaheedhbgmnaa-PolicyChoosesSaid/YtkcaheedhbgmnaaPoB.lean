/-
  Policy: the library's slices.Collect over an iterator of numbers.
-/
import Derived.Test.YtkcaheedhbgmnaaPoA
namespace Go.Proofs.Ytkcaheedhbgmnaa
set_option linter.unusedVariables false
set_option linter.unusedSimpArgs false
open Go.RowKit
set_option maxHeartbeats 1000000
set_option maxRecDepth 10000
set_option linter.unusedVariables false
set_option linter.unusedSimpArgs false

def SeqI (B : Nat) (L : List Nat) (i : Nat) (X : List Nat) (W : World) : Prop :=
  ∃ v, Blk W B [v] 67 ∧ W.ownsRow B 3 1 v i (encN (L.take i)) ∧ X = own v

theorem appendSeq_c (g : FuncId) (lb : Array Value) (Kp : List Nat) (L : List Nat) (w0 : World) (hit : Iter Try.prog g lb Kp (ints L) w0) (eg : Enters Try.prog g) (hL : L.length ≤ 4096) (w : World)
    (hs : w0.heap.size ≤ w.heap.size) (hK : ∀ b, b ∈ Kp → b < w0.heap.size ∧ w.heap[b]? = w0.heap[b]?) :
    Calls Try.prog 83 #[.slice none 0 0, .func (.func g) #[] lb] w (RetN w.heap.size L w) := by
  have hlen : (ints L).length = L.length := by simp [ints]
  have Hlen := Lib.hid hlen
  clear hlen
  refine calls_of_callsIn 1000 ?_
  refine callsIn_of_wp_marks Try.func83 rfl trivial ?_ rfl
  simp only [Try.ntmps83, List.size_toArray, List.length_cons, List.length_nil, Nat.reduceAdd, Nat.reduceSub, Array.replicate_succ, Array.replicate_zero, List.push_toArray, List.append_toArray, List.nil_append, List.cons_append]
  gi_wp2
  have hb2 := Blk.new w [.slice none 0 0] 67
  have hx0 : Ext [] w (w.alloc (.cells #[.slice none 0 0] 67)) := (Ext.refl _ _).alloc _
  have hs1 : (w.alloc (.cells #[.slice none 0 0] 67)).heap.size = w.heap.size + 1 := by simp
  generalize w.alloc (.cells #[.slice none 0 0] 67) = w1 at *
  have Hs1 := Lib.hid hs1
  clear hs1
  refine wpIn_range (by omega) rfl eg hit (by simp [ints]) [w.heap.size] (SeqI w.heap.size L) (fun _ _ _ _ => False)
    ?fI ?fIx ?hM (by have := Hs1.out; omega) ?hK ?h0 ?round ?done ?stop
  case fI =>
    rintro i X W W' ⟨v, h2, h3, h4⟩ hk
    exact ⟨v, (hk _ (.inl (by simp)) h2.lt).trans h2, ownsRow_of_block h3 (fun b hb => hk b (.inr (by simp [h4, own, hb])) (h3.lt b hb).2), h4⟩
  case fIx => exact fun c i X A B h hk => h
  case hM => intro b hb; have := Hs1.out; simp at hb; refine ⟨by omega, fun h => ?_⟩; have := (hK b h).1; omega
  case hK => intro b hb; have := hK b hb; exact ⟨this.1, (hx0.block b (by omega) (by simp)).trans this.2⟩
  case h0 => exact ⟨_, hb2, World.ownsRow_nil _ _ _ _, rfl⟩
  case stop => exact fun D c i X Wd hD hE hi h => h.elim
  case round =>
    rintro l i hi X W ⟨v, h2, h3, h4⟩ hx hX hl hlW
    subst h4
    have hiL : i < L.length := by have := Hlen.out; omega
    rw [show (ints L)[i] = #[.int .i64 (L[i] : Int)] by simp [ints]]
    unfold RoundX
    gi_wp2
    refine ⟨Ext.refl _ _, fun W₂ r hx2 hs2 hr => ?_⟩
    have Hs2 := Lib.hid hs2
    have Hr := Lib.hid hr
    clear hs2 hr
    have n2 : w.heap.size ≠ l := by have := Hs1.out; omega
    have b2 := h2.ext hx2 (by simpa using n2)
    have hcl := b2.cell 0
    have hfl := b2.frozen 0
    have ho2 := ownsRow_ext h3 hx2 (fun b hb => by have := (hX b (by simp [own, hb])).2.2; simpa using this)
    have hlv := ownsRow_form h3
    have hown1 : ∀ b, v.ownBlock = some b → w1.heap.size ≤ b ∧ b < W.heap.size ∧ b ≠ l := fun b hb => hX b (by simp [own, hb])
    have hw2 : w.heap.size ≤ W₂.heap.size := by have := hx.size; have := Hs1.out; have := Hs2.out; omega
    obtain ⟨va, vc, rfl, hvc, hvm⟩ := hlv
    have hi2 : i ≤ 4096 := by omega
    clear h2 h3 hb2 hK hx0 hit
    gi_wp2_with (gi_at_builtin; refine wpListIn_app T_int (ownsRow_ext ho2 ((Ext.refl [] _).alloc _) (by simp)) (Sl.lit W₂ 1 1 [.int .i64 (L[i] : Int)] 3 (by decide) rfl) rfl rfl rfl rfl rfl (by simp [Value.oneCell']) (by unfold maxLen; omega) (by omega) (by simp; omega) ?_; intro v' w' hown' hext' hnew'; obtain ⟨va', vc', rfl, hvc', hvm'⟩ := ownsRow_form hown'; have b2' := (b2.alloc (.cells #[.int .i64 (L[i] : Int)] 3)).ext hext' (by simp [own]; intro h; have := (hown1 _ h).1; have := Hs1.out; omega); have hcl' := b2'.cell 0; have hfl' := b2'.frozen 0)
    refine ⟨own (.slice va' (i + 1) vc'), RoundEnd.of (N := w.heap.size :: own (.slice va i vc)) (Ext.refl _ _) hx2 Hr.out
      (((((Ext.refl _ W₂).alloc _)).step hext' (fun k hk => .inl (by simp [hk]))).setCell _ _ (.inl (by simp))) (fun k hk => ?_) (fun b hb => ?_), .slice va' (i + 1) vc', ?_, ?_, rfl⟩
    · rcases List.mem_cons.1 hk with rfl | hk
      · exact ⟨.inl (by simp), n2⟩
      · exact ⟨.inr (.inl hk), (hown1 k (by simpa [own] using hk)).2.2⟩
    · have hb' : (Value.slice va' (i + 1) vc').ownBlock = some b := by simpa [own] using hb
      refine ⟨?_, by have := hown'.lt b hb'; simp [World.setCell]; omega⟩
      rcases hnew' b hb' with h | h
      · exact .inl (by simp [own, h])
      · exact .inr (by simp at h; have := Hs2.out; omega)
    · exact b2'.set 0 _
    · have ht : L.take (i + 1) = L.take i ++ [L[i]] := List.take_succ_eq_append_getElem hiL
      rw [ht, show encN (L.take i ++ [L[i]]) = encN (L.take i) ++ [.int .i64 (L[i] : Int)] from (encN_snoc _ _).symm]
      refine ownsRow_ext hown' ((Ext.refl [w.heap.size] w').setCell _ _ (.inl (by simp))) (fun b hb => ?_)
      rcases hnew' b hb with h | h
      · have := (hown1 b h).1; have := Hs1.out; simp; omega
      · have := hx.size; simp at h ⊢; have := Hs1.out; have := Hs2.out; omega
  case done =>
    rintro D X W hD hE ⟨v, h2, h3, h4⟩ hx hX
    have hcl := h2.cell 0
    obtain ⟨va, vc, rfl, hvc, hvm⟩ := ownsRow_form h3
    have hlL : L.take (ints L).length = L := by rw [List.take_of_length_le (by have := Hlen.out; omega)]
    rw [hlL] at h3
    have HlL := Lib.hid hlL
    clear hlL hb2 hK hit
    gi_wp2
    refine leaves_marks [D] _ (by simpa using hE) (by simp) (fun w' hx' hs' => ⟨_, results_tmp rfl _ _ _, _, rfl, ?_, ?_⟩)
    · rw [← Hlen.out]
      exact ownsRow_ext h3 hx' (fun b hb => by have := (hX b (h4 ▸ mem_own hb)).2.2; simpa using this)
    · exact (hx0.step hx (fun i hi => .inr (by simp at hi; omega))).step hx' (fun i hi => .inr (by have := Hs1.out; simp at hi; omega))

theorem collect_c (mask : Int) (w1 w : World) (h : Ext [] (w1.alloc (.cells #[.int .i64 mask] 3)) w) :
    Calls Try.prog 66 #[.func (.func 84) #[] #[.pointer (some ⟨w1.heap.size, 0, none⟩)]] w (RetN w.heap.size (upto (bitB mask) 8) w) := by
  have C := Lib.hid (appendSeq_c 84 _ _ _ _ (nodes_it mask w1) (Go.Proofs.enters_of Try.func84 (by kernel_rfl) rfl) (by have := upto_le (bitB mask) 8; omega) w h.size
    (fun b hb => by have hb' : b = w1.heap.size := by simpa using hb
                    have hlt : b < (w1.alloc (.cells #[.int .i64 mask] 3)).heap.size := by simp; omega
                    exact ⟨hlt, h.block b hlt (by simp)⟩))
  clear h
  go_enter Try.func66, Try.ntmps66
  go_wp2_with (go_at_call 83; refine (C.out).mono ?_; rintro e w' ⟨v, rfl, ho, hx⟩; have HO := Lib.hid ho; have HX := Lib.hid hx; clear ho hx)
  go_ret
  exact ⟨_, rfl, HO.out, HX.out⟩

end Go.Proofs.Ytkcaheedhbgmnaa
