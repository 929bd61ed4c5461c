/-
  Region's laws: Regions, what a space tells of itself.
-/
import Derived.Test.YtjicpblncfgiaaaRgQ
namespace Go.Proofs.Ytjicpblncfgiaaa
set_option linter.unusedVariables false
set_option linter.unusedSimpArgs false
open Go.RowKit RgT SpT
set_option maxHeartbeats 4000000
set_option maxRecDepth 100000
set_option linter.unusedVariables false
set_option linter.unusedSimpArgs false

theorem fn_nilR (g : FuncId) (lb : Array Value) (w : World) : (binOp .eql 86 (.func (.func g) #[] lb) .nilFunc).run Try.prog w = .ok (.bool false) w := by kernel_rfl
def RegI (B : Nat) (L : List (Sp U)) (i : Nat) (X : List Nat) (W : World) : Prop := ∃ v, Blk W B [v] 28 ∧ W.ownsRow B 37 5 v i (SpU.encS (L.take i)) ∧ X = own v

theorem regions_gen (w : World) (m : Option Addr) (L : List (Sp U)) (hL : L.length ≤ 4096) (Kq : List Nat) (hKq : ∀ q, q ∈ Kq → q < w.heap.size)
    (hit : Iter Try.prog 59 #[.pointer (some ⟨w.heap.size + 1, 0, none⟩)] ((w.heap.size + 1) :: Kq) (SpU.vals L) ((w.alloc (.cells #[.slice none 0 0] 28)).alloc (.cells #[.pointer m] 23))) :
    Calls Try.prog 16 #[.pointer m] w (GNew w L) := by
  have hlen : (SpU.vals L).length = L.length := by simp [SpU.vals]
  have Hlen := Lib.hid hlen
  clear hlen
  have hfn := fn_nilR 59 #[.pointer (some ⟨w.heap.size + 1, 0, none⟩)]
  refine calls_of_callsIn 1000 ?_
  refine callsIn_of_wp_marks Try.func16 rfl trivial ?_ rfl
  simp only [Try.ntmps16, List.size_toArray, List.length_cons, List.length_nil, Nat.reduceAdd, Nat.reduceSub, Array.replicate_succ, Array.replicate_zero, List.push_toArray, List.append_toArray, List.nil_append, List.cons_append]
  gi_wp2_with (gi_at_call 39; refine CallsIn.mono (callsIn_of_calls (sall_c _ _)) ?_; rintro e w' ⟨rfl, rfl⟩)
  have hb2 := (Blk.new w [.slice none 0 0] 28).alloc (.cells #[.pointer m] 23)
  have hx0 : Ext [] w ((w.alloc (.cells #[.slice none 0 0] 28)).alloc (.cells #[.pointer m] 23)) := ((Ext.refl _ _).alloc _).alloc _
  have hs1 : ((w.alloc (.cells #[.slice none 0 0] 28)).alloc (.cells #[.pointer m] 23)).heap.size = w.heap.size + 2 := by simp
  generalize hw1 : ((w.alloc (.cells #[.slice none 0 0] 28)).alloc (.cells #[.pointer m] 23)) = w1 at *
  clear hw1
  have Hs1 := Lib.hid hs1
  clear hs1 hfn
  refine wpIn_range (by omega) rfl (Go.Proofs.enters_of Try.func59 (by kernel_rfl) rfl) hit (by simp [SpU.vals]) [w.heap.size]
    (RegI w.heap.size L) (fun _ _ _ _ => False) ?fI no_foot ?hM (by have := Hs1.out; omega) ?hK ?h0 ?round ?done ?stop
  case fI =>
    rintro i X W W' ⟨v, h2, h3, h4⟩ hk
    exact ⟨v, (hk _ (.inl (by simp)) h2.lt).trans h2, ownsRow_of_block h3 (fun b hb => hk b (.inr (by simp [h4, own, hb])) (h3.lt b hb).2), h4⟩
  case hM =>
    intro b hb
    have := Hs1.out
    simp at hb
    refine ⟨by omega, fun h => ?_⟩
    rcases List.mem_cons.1 h with h | h
    · omega
    · have := hKq b h; omega
  case hK =>
    intro b hb
    have := Hs1.out
    rcases List.mem_cons.1 hb with rfl | h
    · exact ⟨by omega, rfl⟩
    · have := hKq b h; exact ⟨by omega, rfl⟩
  case h0 => exact ⟨_, hb2, World.ownsRow_nil _ _ _ _, rfl⟩
  case round =>
    rintro l i hi X W ⟨v, h2, h3, h4⟩ hx hX hl hlW
    subst h4
    have hiL : i < L.length := by have := Hlen.out; omega
    rw [show (SpU.vals L)[i] = #[.agg (SpU.cells L[i]).toArray] by simp [SpU.vals]]
    have htk : SpU.encS (L.take (i + 1)) = SpU.encS (L.take i) ++ SpU.cells L[i] := by rw [List.take_succ_eq_append_getElem hiL, SpU.encS_snoc]
    have HTK := Lib.hid htk
    clear htk
    generalize L[i] = x at *
    obtain ⟨xf, xt, xp, xk, xn⟩ := x
    unfold SpU.cells at HTK ⊢
    simp only [] at HTK
    unfold RoundX
    gi_wp2
    refine ⟨(Ext.refl _ _).alloc _, fun W₂ r hx2 hs2 hr => ?_⟩
    have Hs2 := Lib.hid hs2
    have Hr := Lib.hid hr
    clear hs2 hr
    have n2 : w.heap.size ≠ l := by have := Hs1.out; omega
    have b2 := (h2.alloc (.cells #[.int .i64 (xf : Int), .int .i64 (xt : Int), .int .i64 xp, .int .i64 xk, .int .i64 xn] 37)).ext hx2 (by simpa using n2)
    have b3 := (Blk.new W [.int .i64 (xf : Int), .int .i64 (xt : Int), .int .i64 xp, .int .i64 xk, .int .i64 xn] 37).ext hx2 (by simp; omega)
    have q0 := b3.cell 0
    have q1 := b3.cell 1
    have q2 := b3.cell 2
    have q3 := b3.cell 3
    have q4 := b3.cell 4
    have hsW : (W.alloc (.cells #[.int .i64 (xf : Int), .int .i64 (xt : Int), .int .i64 xp, .int .i64 xk, .int .i64 xn] 37)).heap.size = W.heap.size + 1 := by simp
    have HsW := Lib.hid hsW
    clear hsW b3
    have hcl := b2.cell 0
    have hfl := b2.frozen 0
    have ho2 := ownsRow_ext (ownsRow_ext h3 ((Ext.refl [] W).alloc (.cells #[.int .i64 (xf : Int), .int .i64 (xt : Int), .int .i64 xp, .int .i64 xk, .int .i64 xn] 37)) (by simp)) hx2 (fun b hb => by have := (hX b (by simp [own, hb])).2.2; simpa using this)
    have hlv := ownsRow_form h3
    have hown1 : ∀ b, v.ownBlock = some b → w1.heap.size ≤ b ∧ b < W.heap.size ∧ b ≠ l := fun b hb => hX b (by simp [own, hb])
    have hw2 : w.heap.size ≤ W₂.heap.size := by have := hx.size; have := Hs1.out; have := Hs2.out; have := HsW.out; omega
    obtain ⟨va, vc, rfl, hvc, hvm⟩ := hlv
    have hi2 : i ≤ 4096 := by omega
    clear h2 h3 hb2 hx0 hit
    gi_wp2_with (gi_at_builtin; refine wpListIn_app T_reg (ownsRow_ext ho2 ((Ext.refl [] _).alloc _) (by simp)) (Sl.lit W₂ 5 1 [.int .i64 (xf : Int), .int .i64 (xt : Int), .int .i64 xp, .int .i64 xk, .int .i64 xn] 37 (by decide) rfl) rfl rfl rfl rfl rfl (by simp [Value.oneCell']) (by unfold maxLen; omega) (by omega) (by simp; omega) ?_; intro v' w' hown' hext' hnew'; obtain ⟨va', vc', rfl, hvc', hvm'⟩ := ownsRow_form hown'; have b2' := (b2.alloc (.cells #[.int .i64 (xf : Int), .int .i64 (xt : Int), .int .i64 xp, .int .i64 xk, .int .i64 xn] 37)).ext hext' (by simp [own]; intro h; have := (hown1 _ h).1; have := Hs1.out; omega); have hcl' := b2'.cell 0; have hfl' := b2'.frozen 0; skip)
    refine ⟨own (.slice va' (i + 1) vc'), RoundEnd.of (N := (w.heap.size) :: own (.slice va i vc)) ((Ext.refl _ _).alloc _) hx2 Hr.out
      (((((Ext.refl _ W₂).alloc _)).step hext' (fun k hk => .inl (by simp [hk]))).setCell _ _ (.inl (by simp))) (fun k hk => ?_) (fun b hb => ?_), .slice va' (i + 1) vc', ?_, ?_, rfl⟩
    · rcases List.mem_cons.1 hk with rfl | hk
      · exact ⟨.inl (by simp), n2⟩
      · exact ⟨.inr (.inl hk), (hown1 k (by simpa [own] using hk)).2.2⟩
    · have hb' : (Value.slice va' (i + 1) vc').ownBlock = some b := by simpa [own] using hb
      refine ⟨?_, by have := hown'.lt b hb'; simp [World.setCell]; omega⟩
      rcases hnew' b hb' with h | h
      · exact .inl (by simp [own, h])
      · exact .inr (by simp at h; have := Hs2.out; have := HsW.out; omega)
    · exact b2'.set 0 _
    · rw [HTK.out]
      refine ownsRow_ext hown' ((Ext.refl [w.heap.size] w').setCell _ _ (.inl (by simp))) (fun b hb => ?_)
      rcases hnew' b hb with h | h
      · have := (hown1 b h).1; have := Hs1.out; simp; omega
      · have := hx.size; simp at h ⊢; have := Hs1.out; have := Hs2.out; have := HsW.out; omega
  case done =>
    rintro D X W hD hE ⟨v, h2, h3, h4⟩ hx hX
    have hcl := h2.cell 0
    obtain ⟨va, vc, rfl, hvc, hvm⟩ := ownsRow_form h3
    have hlL : L.take (SpU.vals L).length = L := List.take_of_length_le (by have := Hlen.out; omega)
    have HlL := Lib.hid hlL
    clear hlL hb2 hit
    gi_wp2
    refine leaves_marks [D] _ (by simpa using hE) (by simp) (fun w' hx' hs' => ⟨_, results_tmp rfl _ _ _, _, rfl, ?_, ?_⟩)
    · have h5 := ownsRow_ext h3 hx' (fun b hb => by have := (hX b (h4 ▸ mem_own hb)).2.2; simpa using this)
      rw [HlL.out] at h5
      show w'.ownsRow w.heap.size 37 5 _ L.length (SpU.encS L)
      rw [← Hlen.out]
      exact h5
    · exact (hx0.step hx (fun i hi => .inr (by simp at hi; omega))).step hx' (fun i hi => .inr (by have := Hs1.out; simp at hi; omega))
  case stop =>
    rintro D c i X Wd hD hE hi h hx hX
    exact h.elim

theorem regions_c (w : World) (sp mp : Nat) (nodes : Int) (L : List (Sp U)) (h : SpIs w sp mp nodes L) : Calls Try.prog 16 #[.pointer (some ⟨sp, 0, none⟩)] w (GNew w L) := by
  have hx0 : Ext [] w ((w.alloc (.cells #[.slice none 0 0] 28)).alloc (.cells #[.pointer (some ⟨sp, 0, none⟩)] 23)) := ((Ext.refl _ _).alloc _).alloc _
  obtain ⟨Kq, hA⟩ := h.map.all h.len
  have hb := Blk.new (w.alloc (.cells #[.slice none 0 0] 28)) [.pointer (some ⟨sp, 0, none⟩)] 23
  rw [World.size_alloc] at hb
  refine regions_gen w (some ⟨sp, 0, none⟩) L h.len (sp :: Kq) (fun q hq => ?_) (sall1 _ sp mp nodes L Kq _ hb (h.ext0 hx0).head (hA.ext hx0 (by simp)))
  rcases List.mem_cons.1 hq with rfl | hq
  · exact h.head.lt
  · exact hA.lt q hq

theorem TS.regions {w : World} {sp : Nat} {nodes : Int} {f : Nat → Option U} (h : TS w sp nodes f) : Calls Try.prog 16 #[.pointer (some ⟨sp, 0, none⟩)] w (GNew w (allK f 4096)) := by
  obtain ⟨mp, h1, h2, h3⟩ := h
  exact regions_c w sp mp nodes _ h1

end Go.Proofs.Ytjicpblncfgiaaa
