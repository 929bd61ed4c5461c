/-
  The ground of all walks of this seat: how a world grows, what an iterator promises, the statement 'for .. := range' over such an iterator. It names no program.
-/
import Derived.RangeFuncNested
import Derived.RangeFuncLeaves
import Derived.WalkKit
import Derived.WalkSpells
import Derived.TacticsInMore
import Derived.LoopNIn
import Derived.LoopIn
import Derived.OwnWalkIn
import Derived.Deep.Draws
import Derived.Deep.QuietTactic
import Derived.BigQuiet
import Derived.Lib.Hide
import Derived.Shelf.Abstract
namespace Go.Proofs.Ytjicpblncfgiaaa
set_option linter.unusedVariables false
set_option linter.unusedSimpArgs false
open Go.RowKit

/-- The world w' is w with new blocks, and with the blocks of M written. -/
structure Ext (M : List Nat) (w w' : World) : Prop where
  os : w'.os = w.os
  tape : w'.tape = w.tape
  output : w'.output = w.output
  size : w.heap.size ≤ w'.heap.size
  block : ∀ k, k < w.heap.size → k ∉ M → w'.heap[k]? = w.heap[k]?

theorem Ext.refl (M : List Nat) (w : World) : Ext M w w := ⟨rfl, rfl, rfl, Nat.le_refl _, fun _ _ _ => rfl⟩
theorem Ext.mono {M N : List Nat} {w w' : World} (h : Ext M w w') (hs : ∀ k, k ∈ M → k ∈ N ∨ w.heap.size ≤ k) : Ext N w w' :=
  ⟨h.os, h.tape, h.output, h.size, fun k hk hn => h.block k hk (fun hm => (hs k hm).elim hn (fun h => by omega))⟩
theorem Ext.trans {M : List Nat} {a b c : World} (h : Ext M a b) (k : Ext M b c) : Ext M a c :=
  ⟨k.os.trans h.os, k.tape.trans h.tape, k.output.trans h.output, Nat.le_trans h.size k.size,
   fun i hi hm => (k.block i (by have := h.size; omega) hm).trans (h.block i hi hm)⟩
/-- What is written in the second step lies in M, or is new since the first world. -/
theorem Ext.step {M N : List Nat} {a b c : World} (h : Ext M a b) (k : Ext N b c) (hs : ∀ i, i ∈ N → i ∈ M ∨ a.heap.size ≤ i) : Ext M a c :=
  ⟨k.os.trans h.os, k.tape.trans h.tape, k.output.trans h.output, Nat.le_trans h.size k.size,
   fun i hi hm => (k.block i (by have := h.size; omega) (fun hn => (hs i hn).elim hm (fun h => by omega))).trans (h.block i hi hm)⟩
theorem Ext.alloc {M : List Nat} {a w : World} (h : Ext M a w) (o : Obj) : Ext M a (w.alloc o) :=
  h.step (N := []) ⟨rfl, rfl, rfl, by simp, fun k hk _ => Below.heap_alloc _ _ _ hk⟩ (by simp)
theorem Ext.drew {M : List Nat} {a w : World} (h : Ext M a w) : Ext M a w.drew := ⟨h.os, h.tape, h.output, h.size, h.block⟩
theorem Ext.drewN {M : List Nat} {a w : World} (h : Ext M a w) (n : Nat) : Ext M a (w.drewN n) := ⟨h.os, h.tape, h.output, h.size, h.block⟩
theorem Ext.setCell {M : List Nat} {a w : World} (h : Ext M a w) (p : Addr) (u : Value) (hp : p.block ∈ M ∨ a.heap.size ≤ p.block) : Ext M a (w.setCell p u) :=
  h.step (N := [p.block]) ⟨rfl, rfl, rfl, by simp [World.setCell], fun k _ hk => Below.heap_setCell _ _ _ _ (by simpa using hk)⟩ (by simpa using hp)
theorem Ext.putObj {M : List Nat} {a w : World} (h : Ext M a w) (l : Nat) (o : Obj) (hp : l ∈ M ∨ a.heap.size ≤ l) : Ext M a (w.putObj l o) :=
  h.step (N := [l]) ⟨rfl, rfl, rfl, by simp, fun k _ hk => World.putObj_heap_other (by simpa using hk)⟩ (by simpa using hp)
theorem Ext.grown {M : List Nat} {a w w' : World} {row : Option Nat} (h : Ext M a w) (hg : w.grownBy w' row) (hr : ∀ k, row = some k → k ∈ M ∨ a.heap.size ≤ k) : Ext M a w' :=
  h.step (N := row.toList) ⟨hg.os, hg.tape, hg.output, hg.size, fun k hk hn => hg.block k hk (fun e => hn (by simp [← e]))⟩ (fun i hi => hr i (by simpa using hi))
theorem Ext.below {w w' : World} (h : Ext [] w w') : Below w.heap.size w w' := ⟨h.os, h.tape, h.output, h.size, fun k hk => h.block k hk (by simp)⟩
theorem Below.ext {w w' : World} (h : Below w.heap.size w w') (M : List Nat) : Ext M w w' := ⟨h.os, h.tape, h.output, h.size, fun k hk _ => h.block k hk⟩
theorem Ext.cell {M : List Nat} {w w' : World} (h : Ext M w w') {p : Addr} (hp : p.block < w.heap.size) (hm : p.block ∉ M) : w'.cell? p = w.cell? p := World.cell?_of_block (w := w) (h.block p.block hp hm)
theorem Ext.frozen {M : List Nat} {w w' : World} (h : Ext M w w') {p : Addr} (hp : p.block < w.heap.size) (hm : p.block ∉ M) : w'.frozen? p = w.frozen? p := World.frozen?_of_block (w := w) (h.block p.block hp hm)

theorem heap_lt {w : World} {b : Nat} {o : Obj} (h : w.heap[b]? = some o) : b < w.heap.size := (Array.getElem?_eq_some_iff.1 h).1
theorem Ext.keep {M : List Nat} {w w' : World} (h : Ext M w w') {b : Nat} {o : Obj} (hb : w.heap[b]? = some o) (hm : b ∉ M) : w'.heap[b]? = some o := (h.block b (heap_lt hb) hm).trans hb

/-- A block of cells. -/
def Blk (w : World) (b : Nat) (cs : List Value) (t : TypeId) : Prop := w.heap[b]? = some (.cells cs.toArray t (0, 0))
theorem Blk.lt {w : World} {b : Nat} {cs : List Value} {t : TypeId} (h : Blk w b cs t) : b < w.heap.size := heap_lt h
theorem Blk.cell {w : World} {b : Nat} {cs : List Value} {t : TypeId} (h : Blk w b cs t) (i : Nat) : w.cell? ⟨b, i, none⟩ = cs[i]? := by
  unfold Blk at h; simp [World.cell?, h]
theorem Blk.frozen {w : World} {b : Nat} {cs : List Value} {t : TypeId} (h : Blk w b cs t) (i : Nat) : w.frozen? ⟨b, i, none⟩ = false := by
  unfold Blk at h; simp [World.frozen?, h]
theorem Blk.ext {M : List Nat} {w w' : World} {b : Nat} {cs : List Value} {t : TypeId} (h : Blk w b cs t) (e : Ext M w w') (hm : b ∉ M) : Blk w' b cs t := e.keep h hm
theorem Blk.new (w : World) (cs : List Value) (t : TypeId) : Blk (w.alloc (.cells cs.toArray t)) w.heap.size cs t := World.alloc_heap_new w _
theorem Blk.alloc {w : World} {b : Nat} {cs : List Value} {t : TypeId} (h : Blk w b cs t) (o : Obj) : Blk (w.alloc o) b cs t := ((Ext.refl [] w).alloc o).keep h (by simp)
theorem Blk.set {w : World} {b : Nat} {cs : List Value} {t : TypeId} (h : Blk w b cs t) (i : Nat) (u : Value) : Blk (w.setCell ⟨b, i, none⟩ u) b (cs.set i u) t := by
  unfold Blk at *
  obtain ⟨hlt, he⟩ := Array.getElem?_eq_some_iff.1 h
  simp [World.setCell, Array.getElem?_modify, h]
theorem Blk.set_ne {w : World} {b : Nat} {cs : List Value} {t : TypeId} (h : Blk w b cs t) {p : Addr} (u : Value) (hp : b ≠ p.block) : Blk (w.setCell p u) b cs t :=
  (Below.heap_setCell w p u b hp).trans h

/-! ### Iterators -/

/-- What J says hangs on the blocks of M and of its second argument alone. -/
def Foot (M : List Nat) (J : Nat → List Nat → World → Prop) : Prop :=
  ∀ i X W W', J i X W → (∀ b, b ∈ M ∨ b ∈ X → b < W.heap.size → W'.heap[b]? = W.heap[b]?) → J i X W'

/-- The function value (g, lb) goes through xs, one by one. It leans on the blocks Kp, as they are in w0. -/
def Iter (P : Program) (g : FuncId) (lb : Array Value) (Kp : List Nat) (xs : List (Array Value)) (w0 : World) : Prop :=
  ∀ (n l : Nat) (M : List Nat) (J Jx : Nat → List Nat → World → Prop) (W : World),
    10 ≤ n → w0.heap.size ≤ W.heap.size → (∀ b, b ∈ Kp → b < w0.heap.size ∧ W.heap[b]? = w0.heap[b]?) → (∀ b, b ∈ M → b ∉ Kp ∧ b < W.heap.size) →
    Foot M J → Foot M Jx →
    (∀ i (h : i < xs.length) X W1, J i X W1 → Ext M W W1 → (∀ b, b ∈ X → W.heap.size ≤ b ∧ b < W1.heap.size) →
      YieldAt Fence.wide (n - 1) P l xs[i] W1 fun e W' => Ext (M ++ X) W1 W' ∧ ∃ X', (∀ b, b ∈ X' → (b ∈ X ∨ W1.heap.size ≤ b) ∧ b < W'.heap.size) ∧
        ((e = .returned (.bool true) ∧ J (i + 1) X' W') ∨ (e = .returned (.bool false) ∧ Jx (i + 1) X' W'))) →
    J 0 [] W →
    CallsIn Fence.wide n P g (#[.func (.yield l) #[] #[]] ++ lb) W fun e W' => (∃ v, e = .returned v) ∧ Ext M W W' ∧
      ∃ X, (∀ b, b ∈ X → W.heap.size ≤ b ∧ b < W'.heap.size) ∧ (J xs.length X W' ∨ ∃ i, i ≤ xs.length ∧ Jx i X W')

theorem Iter.later {P : Program} {g : FuncId} {lb : Array Value} {Kp : List Nat} {xs : List (Array Value)} {w0 w1 : World} (h : Iter P g lb Kp xs w0)
    (hK : ∀ b, b ∈ Kp → b < w0.heap.size ∧ w1.heap[b]? = w0.heap[b]?) (hs : w0.heap.size ≤ w1.heap.size) : Iter P g lb Kp xs w1 :=
  fun n l M J Jx W hn hs' hK' => h n l M J Jx W hn (Nat.le_trans hs hs') (fun b hb => ⟨(hK b hb).1, (hK' b hb).2.trans (hK b hb).2⟩)

/-! ### The statement 'for .. := range' -/

abbrev WR (l : Nat) : Fence := Fence.wide.inRound l

/-- What a round leaves: the blocks of M and X, and new ones, may have turned; its loop's record has not. -/
structure RoundEnd (l : Nat) (r : Loop) (M X X' : List Nat) (W W' : World) : Prop where
  ext : Ext (l :: (M ++ X)) W W'
  lrec : W'.heap[l]? = some (.loop r)
  new : ∀ b, b ∈ X' → (b ∈ X ∨ W.heap.size ≤ b) ∧ b < W'.heap.size

/-- How a round's body may be left. -/
def bodyX (l : Nat) (r : Loop) (M X : List Nat) (I : Nat → List Nat → World → Prop) (Ix : Code → Nat → List Nat → World → Prop) (i : Nat) (W : World) : Exit → Act → World → Prop
  | .normal, _, W' => ∃ X', RoundEnd l r M X X' W W' ∧ I i X' W'
  | .ret, _, W' => ∃ X', RoundEnd l r M X X' W W' ∧ Ix .ret i X' W'
  | .exit id, _, W' => ∃ X', RoundEnd l r M X X' W W' ∧ Ix (.exit id) i X' W'
  | .goto t, _, W' => ∃ X', RoundEnd l r M X X' W W' ∧ Ix (.goto t) i X' W'
  | .panic _, _, _ => False
  | .outgrown, _, _ => False

/-- A round: the assignment, then the body. -/
def RoundX (P : Program) (n l : Nat) (assign body : Code) (tmps : Array Value) (M X : List Nat) (I : Nat → List Nat → World → Prop) (Ix : Code → Nat → List Nat → World → Prop) (i : Nat) (W : World) : Prop :=
  assign.wpIn (WR l) n P (Exit.then (fun a₁ W₁ => Ext [] W W₁ ∧ ∀ W₂ r, Ext [l] W₁ W₂ → W₂.heap.size = W₁.heap.size → W₂.heap[l]? = some (.loop r) → body.wpIn (WR l) n P (bodyX l r M X I Ix i W) a₁ W₂) (fun _ _ _ => False)) { tmps := tmps, defers := [] } W

theorem wpIn_range_core {P : Program} {F : Fence} (hFw : F = Fence.wide ∨ ∃ l₀, F = WR l₀) {n : Nat} (hn : 20 ≤ n) {g : Operand} {ps : Array Tmp} {assign body : Code} {Q : Exit → Act → World → Prop} {a : Act} {w w₀ : World}
    {gf : Nat} {lb : Array Value} (hg : a.eval g = .func (.func gf) #[] lb) (eg : ∀ args w, (callFunc gf args).run P w = .ok (.enter gf args) w)
    {Kp : List Nat} {xs : List (Array Value)} (hit : Iter P gf lb Kp xs w₀) (hps : ∀ x, x ∈ xs → x.size = ps.size)
    (M : List Nat) (I : Nat → List Nat → World → Prop) (Ix : Code → Nat → List Nat → World → Prop) (fI : Foot M I) (fIx : ∀ c, Foot M (Ix c))
    (l D : Nat) (mark : List Deferred) (hent : ∀ fn, ∃ W1', (Instr.enterLoop fn a.tmps ps assign body F.round).run P w = .ok (l, mark) W1' ∧ Ext [] w W1' ∧ l < W1'.heap.size ∧ w.heap.size ≤ l ∧
      W1'.heap[l]? = some (.loop { state := .ready, pending := none, fn, tmps := a.tmps, params := ps, assign, body, defers := D }) ∧ (∀ b, b ∈ M → b < W1'.heap.size ∧ b ∉ Kp ∧ b ≠ l) ∧ I 0 [] W1')
    (hw₀ : w₀.heap.size ≤ w.heap.size) (hK : ∀ b, b ∈ Kp → b < w₀.heap.size ∧ w.heap[b]? = w₀.heap[b]?)
    (hround : ∀ i (h : i < xs.length) X W, I i X W → Ext (l :: M) w W → (∀ b, b ∈ X → w.heap.size ≤ b ∧ b < W.heap.size ∧ b ≠ l) → l < W.heap.size →
      RoundX P (n - 2) l assign body ((ps.zip xs[i]).foldl (fun t (p, v) => t.setIfInBounds p v) a.tmps) M X I Ix (i + 1) W)
    (hdone : ∀ X W, I xs.length X W → Ext M w W → (∀ b, b ∈ X → w.heap.size ≤ b ∧ b < W.heap.size) → Q .normal { a with defers := mark ++ a.defers } W)
    (hstop : ∀ c i X W, i ≤ xs.length → Ix c i X W → Ext M w W → (∀ b, b ∈ X → w.heap.size ≤ b ∧ b < W.heap.size) → c.wpIn F n P Q { a with defers := mark ++ a.defers } W) :
    (Code.rangeFunc g ps assign body).wpIn F n P Q a w := by
  have hfnall : ∀ f, F.fn f := by rcases hFw with rfl | ⟨l₀, rfl⟩ <;> exact fun _ => trivial
  refine wpIn_rangeFunc ?_
  intro fn hfn
  obtain ⟨W1, he, hx1, hl1, hlw, hrec, hM, hI0⟩ := hent fn
  obtain ⟨rec, hrecd⟩ : ∃ rec : LoopState → Option Code → Loop, rec = fun st pe => { state := st, pending := pe, fn, tmps := a.tmps, params := ps, assign, body, defers := D } := ⟨_, rfl⟩
  have hL1 : W1.heap[l]? = some (.loop (rec .ready none)) := by rw [hrecd]; exact hrec
  refine ⟨l, mark, W1, { target := .fn (.func gf) lb, args := #[.func (.yield l) #[] #[]] }, W1, gf, #[.func (.yield l) #[] #[]] ++ lb, W1, he, ?_, ?_, ?_, ?_, ?_⟩
  · simp only [resolve, hg]
    simp [go_sem]
  · intro f' hf'; exact hfnall _
  · simp [invoke, go_sem, eg]
  · rcases hFw with rfl | ⟨l₀, rfl⟩ <;> simp [Fence.wide, Fence.inRound]
  · have hlX : ∀ {X : List Nat} {W : World}, (∀ b, b ∈ X → W1.heap.size ≤ b ∧ b < W.heap.size) → ∀ b, b ∈ X → w.heap.size ≤ b ∧ b < W.heap.size ∧ b ≠ l := fun h b hb => by
      have := h b hb; have := hx1.size; exact ⟨by omega, by omega, by omega⟩
    have hcall := hit (n - 1) l (l :: M)
      (fun i X W => I i X W ∧ W.heap[l]? = some (.loop (rec .ready none)) ∧ (∀ b, b ∈ X → b ≠ l))
      (fun i X W => ∃ c, Ix c i X W ∧ W.heap[l]? = some (.loop (rec .done (some c))) ∧ (∀ b, b ∈ X → b ≠ l))
      W1 (by omega) (by have := hx1.size; omega)
      (fun b hb => ⟨(hK b hb).1, (hx1.block b (by have := (hK b hb).1; omega) (by simp)).trans (hK b hb).2⟩)
      (fun b hb => by
        rcases List.mem_cons.1 hb with rfl | hb
        · exact ⟨fun h => by have := (hK _ h).1; omega, hl1⟩
        · exact ⟨(hM b hb).2.1, (hM b hb).1⟩)
      (fun i X W W' hs hb => ⟨fI i X W W' hs.1 (fun b hm => hb b (hm.imp (List.mem_cons_of_mem _) id)), (hb l (.inl (by simp)) (heap_lt hs.2.1)).trans hs.2.1, hs.2.2⟩)
      (fun i X W W' hs hb => by
        obtain ⟨c, h1, h2, h3⟩ := hs
        exact ⟨c, fIx c i X W W' h1 (fun b hm => hb b (hm.imp (List.mem_cons_of_mem _) id)), (hb l (.inl (by simp)) (heap_lt h2)).trans h2, h3⟩)
      ?_ ⟨hI0, hL1, by simp⟩
    · refine CallsIn.mono (F := F) (by rcases hFw with rfl | ⟨l₀, rfl⟩ <;> exact hcall) ?_
      rintro e W2 ⟨⟨v, rfl⟩, hext, X, hX, (⟨hi, hl, hXl⟩ | ⟨i, hi, c, hix, hl, hXl⟩)⟩
      · refine ⟨none, _, by have := run_endLoop (P := P) hl (by rw [hrecd]; simp); rw [hrecd] at this; exact this, ?_⟩
        refine hdone X _ (fI _ _ _ _ hi (fun b hb hlt => World.putObj_heap_other (by rintro rfl; rcases hb with hb | hb; exact (hM _ hb).2.2 rfl; exact hXl _ hb rfl))) ?_ ?_
        · exact (((hx1.mono (N := M) (by simp)).step hext (fun b hb => by rcases List.mem_cons.1 hb with rfl | hb; exact .inr hlw; exact .inl hb))).putObj _ _ (.inr hlw)
        · intro b hb; have := hX b hb; have := hx1.size; simp; omega
      · refine ⟨some c, _, by have := run_endLoop (P := P) hl (by rw [hrecd]; simp); rw [hrecd] at this; exact this, ?_⟩
        refine hstop c i X _ hi (fIx c _ _ _ _ hix (fun b hb hlt => World.putObj_heap_other (by rintro rfl; rcases hb with hb | hb; exact (hM _ hb).2.2 rfl; exact hXl _ hb rfl))) ?_ ?_
        · exact (((hx1.mono (N := M) (by simp)).step hext (fun b hb => by rcases List.mem_cons.1 hb with rfl | hb; exact .inr hlw; exact .inl hb))).putObj _ _ (.inr hlw)
        · intro b hb; have := hX b hb; have := hx1.size; simp; omega
    · -- one round
      rintro i hi X W ⟨hIi, hl, hXl⟩ hext hX
      have hlt : l < W.heap.size := heap_lt hl
      have hy := run_yield (P := P) (args := xs[i]) hl (by rw [hrecd]; exact hps _ (List.getElem_mem hi))
      rw [hrecd] at hy
      refine ⟨fn, _, assign, body, hy, roundIn_of_wpIn trivial ?_⟩
      have hrd := hround i hi X W hIi (((hx1.mono (N := l :: M) (by simp)).trans hext)) (hlX hX) hlt
      unfold RoundX at hrd
      have hn2 : n - 1 - 1 = n - 2 := by omega
      rw [hn2]
      refine wpIn_mono hrd ?_
      intro e a₁ Wa hp
      cases e with
      | normal =>
        obtain ⟨hxa, hbody⟩ := hp
        have hla : Wa.heap[l]? = some (.loop (rec .ready none)) := hxa.keep hl (by simp)
        have hlta : l < Wa.heap.size := heap_lt hla
        refine ⟨_, run_beginRound hla (by rw [hrecd]), ?_⟩
        have hl2 : (Wa.putObj l (.loop { rec .ready none with state := .busy })).heap[l]? = some (.loop { rec .ready none with state := .busy }) := World.putObj_heap_same hlta
        have hbw := hbody _ _ ((Ext.refl [l] Wa).putObj l _ (.inl (by simp))) (by simp) hl2
        refine wpIn_mono hbw ?_
        have fin : ∀ (jump : Option Code) (X' : List Nat) (W3 : World), RoundEnd l { rec .ready none with state := .busy } M X X' W W3 →
            (Instr.endRound l jump).run P W3 = .ok (.bool jump.isNone) (W3.putObj l (.loop (rec (if jump.isNone then .ready else .done) jump))) ∧
            (W3.putObj l (.loop (rec (if jump.isNone then .ready else .done) jump))).heap[l]? = some (.loop (rec (if jump.isNone then .ready else .done) jump)) ∧
            Ext ((l :: M) ++ X) W (W3.putObj l (.loop (rec (if jump.isNone then .ready else .done) jump))) ∧ (∀ b, b ∈ X' → b ≠ l) ∧
            (∀ b, b ∈ X' → (b ∈ X ∨ W.heap.size ≤ b) ∧ b < (W3.putObj l (.loop (rec (if jump.isNone then .ready else .done) jump))).heap.size) := fun jump X' W3 h3 => by
          have hr := run_endRound (P := P) jump h3.lrec
          rw [hrecd] at hr ⊢
          refine ⟨hr, World.putObj_heap_same (heap_lt h3.lrec), (h3.ext).putObj _ _ (.inl (by simp)), fun b hb => ?_, fun b hb => ?_⟩
          · rcases (h3.new b hb).1 with h | h
            · exact hXl b h
            · omega
          · have := h3.new b hb; simpa using this
        rintro e a3 W3 hp3
        have hxl : ∀ {X' : List Nat} (o : Obj), (∀ b, b ∈ X' → b ≠ l) → ∀ b, b ∈ M ∨ b ∈ X' → b < W3.heap.size → (W3.putObj l o).heap[b]? = W3.heap[b]? := fun o h b hb _ =>
          World.putObj_heap_other (by rintro rfl; rcases hb with hb | hb; exact (hM _ hb).2.2 rfl; exact h _ hb rfl)
        cases e with
        | normal =>
          obtain ⟨X', h3, hi3⟩ := hp3
          obtain ⟨hr, hl4, hx4, hne, hnew⟩ := fin none X' W3 h3
          exact ⟨_, _, hr, hx4, X', hnew, .inl ⟨rfl, fI _ _ _ _ hi3 (hxl _ hne), hl4, hne⟩⟩
        | ret =>
          obtain ⟨X', h3, hi3⟩ := hp3
          obtain ⟨hr, hl4, hx4, hne, hnew⟩ := fin (some .ret) X' W3 h3
          exact ⟨_, _, hr, hx4, X', hnew, .inr ⟨rfl, .ret, fIx _ _ _ _ _ hi3 (hxl _ hne), hl4, hne⟩⟩
        | exit id =>
          obtain ⟨X', h3, hi3⟩ := hp3
          obtain ⟨hr, hl4, hx4, hne, hnew⟩ := fin (some (.exit id)) X' W3 h3
          exact ⟨_, _, hr, hx4, X', hnew, .inr ⟨rfl, .exit id, fIx _ _ _ _ _ hi3 (hxl _ hne), hl4, hne⟩⟩
        | goto t =>
          obtain ⟨X', h3, hi3⟩ := hp3
          obtain ⟨hr, hl4, hx4, hne, hnew⟩ := fin (some (.goto t)) X' W3 h3
          exact ⟨_, _, hr, hx4, X', hnew, .inr ⟨rfl, .goto t, fIx _ _ _ _ _ hi3 (hxl _ hne), hl4, hne⟩⟩
        | panic ch => exact hp3.elim
        | outgrown => exact hp3.elim
      | exit id => exact hp.elim
      | goto t => exact hp.elim
      | ret => exact hp.elim
      | panic ch => exact hp.elim
      | outgrown => exact hp.elim

/-- The mark of a loop's block for its rounds' deferred calls. -/
abbrev mk (D : Nat) : Deferred := { target := .collected D, args := #[] }
/-- The block is empty. -/
abbrev Emp (w : World) (D : Nat) : Prop := w.heap[D]? = some (.deferred (some []))

/-- The statement, outside of rounds. -/
theorem wpIn_range {P : Program} {n : Nat} (hn : 20 ≤ n) {g : Operand} {ps : Array Tmp} {assign body : Code} {Q : Exit → Act → World → Prop} {a : Act} {w w₀ : World}
    {gf : Nat} {lb : Array Value} (hg : a.eval g = .func (.func gf) #[] lb) (eg : ∀ args w, (callFunc gf args).run P w = .ok (.enter gf args) w)
    {Kp : List Nat} {xs : List (Array Value)} (hit : Iter P gf lb Kp xs w₀) (hps : ∀ x, x ∈ xs → x.size = ps.size)
    (M : List Nat) (I : Nat → List Nat → World → Prop) (Ix : Code → Nat → List Nat → World → Prop) (fI : Foot M I) (fIx : ∀ c, Foot M (Ix c))
    (hM : ∀ b, b ∈ M → b < w.heap.size ∧ b ∉ Kp) (hw₀ : w₀.heap.size ≤ w.heap.size) (hK : ∀ b, b ∈ Kp → b < w₀.heap.size ∧ w.heap[b]? = w₀.heap[b]?) (h0 : I 0 [] w)
    (hround : ∀ l i (h : i < xs.length) X W, I i X W → Ext M w W → (∀ b, b ∈ X → w.heap.size ≤ b ∧ b < W.heap.size ∧ b ≠ l) → w.heap.size ≤ l → l < W.heap.size →
      RoundX P (n - 2) l assign body ((ps.zip xs[i]).foldl (fun t (p, v) => t.setIfInBounds p v) a.tmps) M X I Ix (i + 1) W)
    (hdone : ∀ D X W, w.heap.size ≤ D → Emp W D → I xs.length X W → Ext M w W → (∀ b, b ∈ X → w.heap.size ≤ b ∧ b < W.heap.size ∧ b ≠ D) → Q .normal { a with defers := mk D :: a.defers } W)
    (hstop : ∀ D c i X W, w.heap.size ≤ D → Emp W D → i ≤ xs.length → Ix c i X W → Ext M w W → (∀ b, b ∈ X → w.heap.size ≤ b ∧ b < W.heap.size ∧ b ≠ D) → c.wpIn Fence.wide n P Q { a with defers := mk D :: a.defers } W) :
    (Code.rangeFunc g ps assign body).wpIn Fence.wide n P Q a w := by
  have hd : ∀ (X : List Nat), (∀ b, b ∈ X → b ≠ w.heap.size) → ∀ b, b ∈ X → w.heap.size ≠ b := fun X h b hb e => h b hb e.symm
  refine wpIn_range_core (.inl rfl) hn hg eg hit hps (w.heap.size :: M) (fun i X W => I i X W ∧ Emp W w.heap.size ∧ ∀ b, b ∈ X → b ≠ w.heap.size) (fun c i X W => Ix c i X W ∧ Emp W w.heap.size ∧ ∀ b, b ∈ X → b ≠ w.heap.size)
    (fun i X W W' h hb => ⟨fI i X W W' h.1 (fun b hm => hb b (hm.imp (List.mem_cons_of_mem _) id)), (hb _ (.inl (by simp)) (heap_lt h.2.1)).trans h.2.1, h.2.2⟩)
    (fun c i X W W' h hb => ⟨fIx c i X W W' h.1 (fun b hm => hb b (hm.imp (List.mem_cons_of_mem _) id)), (hb _ (.inl (by simp)) (heap_lt h.2.1)).trans h.2.1, h.2.2⟩)
    (w.heap.size + 1) w.heap.size [mk w.heap.size] ?_ hw₀ hK ?_ ?_ ?_
  · intro fn
    refine ⟨_, run_enterLoop_outer _ _ _ _ _, ((Ext.refl [] w).alloc _).alloc _, by simp, by omega, ?_, ?_, ?_⟩
    · have := World.alloc_heap_new (w.alloc (.deferred (some []))) (.loop { state := .ready, pending := none, fn, tmps := a.tmps, params := ps, assign, body, defers := w.heap.size }); rwa [World.size_alloc] at this
    · intro b hb
      rcases List.mem_cons.1 hb with rfl | hb
      · exact ⟨by simp; omega, fun h => by have := (hK _ h).1; omega, by omega⟩
      · have := hM b hb; exact ⟨by simp; omega, this.2, by omega⟩
    · refine ⟨fI 0 [] w _ h0 (fun b hb hlt => ((((Ext.refl [] w).alloc _).alloc _)).block b hlt (by simp)), ?_, by simp⟩
      exact (Below.heap_alloc _ _ _ (by simp)).trans (World.alloc_heap_new w _)
  · rintro i hi X W ⟨h1, h2, h3⟩ hx hX hl
    have hxM : Ext M w W := hx.mono (fun k hk => by simp at hk; rcases hk with rfl | rfl | hk <;> first | exact .inl hk | exact .inr (by omega))
    refine wpIn_mono (hround (w.heap.size + 1) i hi X W h1 hxM hX (by omega) hl) ?_
    intro e a₁ W₁ hp
    cases e with
    | normal =>
      refine ⟨hp.1, fun W₂ r hx2 hs hr => wpIn_mono (hp.2 W₂ r hx2 hs hr) ?_⟩
      intro e a₂ W₃ hb
      have key : ∀ {X'}, RoundEnd (w.heap.size + 1) r M X X' W W₃ → RoundEnd (w.heap.size + 1) r (w.heap.size :: M) X X' W W₃ ∧ Emp W₃ w.heap.size ∧ ∀ b, b ∈ X' → b ≠ w.heap.size := fun {X'} h =>
        ⟨⟨h.ext.mono (fun k hk => by simp at hk ⊢; rcases hk with rfl | hk | hk <;> simp [*]), h.lrec, h.new⟩,
         h.ext.keep h2 (by simp; exact ⟨fun hm => by have := (hM _ hm).1; omega, fun hm => h3 _ hm rfl⟩),
         fun b hb => by rcases (h.new b hb).1 with h' | h'; exact h3 b h'; have := heap_lt h2; omega⟩
      cases e with
      | normal => obtain ⟨X', h, hi'⟩ := hb; exact ⟨X', (key h).1, hi', (key h).2⟩
      | ret => obtain ⟨X', h, hi'⟩ := hb; exact ⟨X', (key h).1, hi', (key h).2⟩
      | exit id => obtain ⟨X', h, hi'⟩ := hb; exact ⟨X', (key h).1, hi', (key h).2⟩
      | goto t => obtain ⟨X', h, hi'⟩ := hb; exact ⟨X', (key h).1, hi', (key h).2⟩
      | panic ch => exact hb.elim
      | outgrown => exact hb.elim
    | exit id => exact hp.elim
    | goto t => exact hp.elim
    | ret => exact hp.elim
    | panic ch => exact hp.elim
    | outgrown => exact hp.elim
  · rintro X W ⟨h1, h2, h3⟩ hx hX
    exact hdone _ X W (Nat.le_refl _) h2 h1 (hx.mono (fun k hk => by simp at hk; rcases hk with rfl | hk <;> first | exact .inl hk | exact .inr (by omega))) (fun b hb => ⟨(hX b hb).1, (hX b hb).2, h3 b hb⟩)
  · rintro c i X W hi ⟨h1, h2, h3⟩ hx hX
    exact hstop _ c i X W (Nat.le_refl _) h2 hi h1 (hx.mono (fun k hk => by simp at hk; rcases hk with rfl | hk <;> first | exact .inl hk | exact .inr (by omega))) (fun b hb => ⟨(hX b hb).1, (hX b hb).2, h3 b hb⟩)

/-- The statement, within a round of loop l₀. -/
theorem wpIn_range_in {P : Program} {n : Nat} (hn : 20 ≤ n) {g : Operand} {ps : Array Tmp} {assign body : Code} {Q : Exit → Act → World → Prop} {a : Act} {w w₀ : World} {l₀ : Nat} {r₀ : Loop} (hl₀ : w.heap[l₀]? = some (.loop r₀))
    {gf : Nat} {lb : Array Value} (hg : a.eval g = .func (.func gf) #[] lb) (eg : ∀ args w, (callFunc gf args).run P w = .ok (.enter gf args) w)
    {Kp : List Nat} {xs : List (Array Value)} (hit : Iter P gf lb Kp xs w₀) (hps : ∀ x, x ∈ xs → x.size = ps.size)
    (M : List Nat) (I : Nat → List Nat → World → Prop) (Ix : Code → Nat → List Nat → World → Prop) (fI : Foot M I) (fIx : ∀ c, Foot M (Ix c))
    (hM : ∀ b, b ∈ M → b < w.heap.size ∧ b ∉ Kp) (hw₀ : w₀.heap.size ≤ w.heap.size) (hK : ∀ b, b ∈ Kp → b < w₀.heap.size ∧ w.heap[b]? = w₀.heap[b]?) (h0 : I 0 [] w)
    (hround : ∀ l i (h : i < xs.length) X W, I i X W → Ext M w W → (∀ b, b ∈ X → w.heap.size ≤ b ∧ b < W.heap.size ∧ b ≠ l) → w.heap.size ≤ l → l < W.heap.size →
      RoundX P (n - 2) l assign body ((ps.zip xs[i]).foldl (fun t (p, v) => t.setIfInBounds p v) a.tmps) M X I Ix (i + 1) W)
    (hdone : ∀ X W, I xs.length X W → Ext M w W → (∀ b, b ∈ X → w.heap.size ≤ b ∧ b < W.heap.size) → Q .normal a W)
    (hstop : ∀ c i X W, i ≤ xs.length → Ix c i X W → Ext M w W → (∀ b, b ∈ X → w.heap.size ≤ b ∧ b < W.heap.size) → c.wpIn (WR l₀) n P Q a W) :
    (Code.rangeFunc g ps assign body).wpIn (WR l₀) n P Q a w := by
  refine wpIn_range_core (.inr ⟨l₀, rfl⟩) hn hg eg hit hps M I Ix fI fIx w.heap.size r₀.defers [] ?_ hw₀ hK ?_ hdone hstop
  · intro fn
    refine ⟨_, run_enterLoop_inner hl₀ _ _ _ _ _, (Ext.refl [] w).alloc _, by simp, by omega, World.alloc_heap_new w _, ?_, ?_⟩
    · intro b hb; have := hM b hb; exact ⟨by simp; omega, this.2, by omega⟩
    · exact fI 0 [] w _ h0 (fun b hb hlt => ((Ext.refl [] w).alloc _).block b hlt (by simp))
  · intro i hi X W h1 hx hX hl
    exact hround w.heap.size i hi X W h1 (hx.mono (fun k hk => by simp at hk; rcases hk with rfl | hk <;> first | exact .inl hk | exact .inr (by omega))) hX (by omega) hl

/-- A function's end, with the marks of its loops. -/
theorem leaves_marks {F : Fence} {n : Nat} {P : Program} {fn : Func} {tmps : Array Value} {R : Ending → World → Prop} : ∀ (Ds : List Nat) (w : World), (∀ D, D ∈ Ds → Emp w D) → Ds.Nodup →
    (∀ w', Ext Ds w w' → w'.heap.size = w.heap.size → ∃ v, (results fn tmps).run P w' = .ok v w' ∧ R (.returned v) w') → LeavesInM F n P fn tmps R (Ds.map mk) .returning w
  | [], w, _, _, h => h w (Ext.refl _ w) rfl
  | D :: Ds, w, hd, hnd, h => by
    obtain ⟨hn1, hn2⟩ := List.nodup_cons.1 hnd
    have hD := hd D (by simp)
    refine ⟨by simp, .inl ⟨D, _, rfl, run_takeDeferred hD, ?_⟩⟩
    refine leaves_marks Ds _ (fun D' h' => (World.putObj_heap_other (by rintro rfl; exact hn1 h')).trans (hd D' (by simp [h']))) hn2 (fun w' hx hs => ?_)
    exact h w' (((Ext.refl (D :: Ds) w).putObj D _ (.inl (by simp))).trans (hx.mono (fun k hk => .inl (by simp [hk])))) (by rw [hs]; simp)

theorem callsIn_of_calls {P : Program} {f : FuncId} {args : Array Value} {w : World} {R : Ending → World → Prop} {n : Nat} (h : Calls P f args w R) : CallsIn Fence.wide n P f args w R := callsIn_wide.2 h
theorem callsR_of_calls {P : Program} {f : FuncId} {args : Array Value} {w : World} {R : Ending → World → Prop} {n l : Nat} (h : Calls P f args w R) : CallsIn (WR l) n P f args w R := (callsIn_wide (n := n)).2 h
theorem calls_of_callsIn {P : Program} {f : FuncId} {args : Array Value} {w : World} {R : Ending → World → Prop} (n : Nat) (h : CallsIn Fence.wide n P f args w R) : Calls P f args w R := callsIn_wide.1 h

@[simp, go_sem] theorem wide_fn (f : FuncId) : Fence.wide.fn f = True := rfl
@[simp, go_sem] theorem wide_depth : Fence.wide.depth = none := rfl
attribute [go_sem] Oper.semAt_some

/-- max and min of two numbers, as one number each. -/
def mxI (x y : Int) : Int := max x y
def mnI (x y : Int) : Int := min x y
@[go_sem high] theorem run_max_mx {P : Program} {w : World} (ts : Array TypeId) (t : TypeId) (k k' : IntKind) (x y : Int) : (Builtin.max_ ts t #[.int k x, .int k' y]).run P w = .ok (.int k (mxI x y)) w := by
  rw [run_max_int2]; have : (if y > x then y else x) = mxI x y := by unfold mxI; split <;> omega
  rw [this]
@[go_sem high] theorem run_min_mn {P : Program} {w : World} (ts : Array TypeId) (t : TypeId) (k k' : IntKind) (x y : Int) : (Builtin.min_ ts t #[.int k x, .int k' y]).run P w = .ok (.int k (mnI x y)) w := by
  rw [run_min_int2]; have : (if y < x then y else x) = mnI x y := by unfold mnI; split <;> omega
  rw [this]

/-- An iterator's own book-keeping: W is the world in which it began. -/
structure It (M X : List Nat) (W wr : World) : Prop where
  ext : Ext M W wr
  new : ∀ b, b ∈ X → W.heap.size ≤ b ∧ b < wr.heap.size
theorem It.refl (M : List Nat) (W : World) : It M [] W W := ⟨Ext.refl _ _, by simp⟩
theorem It.yield {M X X' : List Nat} {W wr W' : World} (h : It M X W wr) (hx : Ext (M ++ X) wr W') (hX : ∀ b, b ∈ X' → (b ∈ X ∨ wr.heap.size ≤ b) ∧ b < W'.heap.size) : It M X' W W' :=
  ⟨h.ext.step hx (fun b hb => by rcases List.mem_append.1 hb with hb | hb; exact .inl hb; exact .inr (h.new b hb).1),
   fun b hb => ⟨by rcases (hX b hb).1 with hb | hb; exact (h.new b hb).1; have := h.ext.size; omega, (hX b hb).2⟩⟩
/-- What the iterator itself makes or writes: D. -/
theorem It.step {M X D : List Nat} {W wr w' : World} (h : It M X W wr) (hx : Ext D wr w') (hD : ∀ d, d ∈ D → W.heap.size ≤ d) : It M X W w' :=
  ⟨h.ext.step hx (fun i hi => .inr (hD i hi)), fun b hb => ⟨(h.new b hb).1, by have := (h.new b hb).2; have := hx.size; omega⟩⟩
/-- A block that the iterator leans on. -/
theorem It.kept {Kp M X : List Nat} {w0 W wr : World} (h : It M X W wr) (hK : ∀ b, b ∈ Kp → b < w0.heap.size ∧ W.heap[b]? = w0.heap[b]?) (hM : ∀ b, b ∈ M → b ∉ Kp ∧ b < W.heap.size)
    {b : Nat} {o : Obj} (hb : b ∈ Kp) (ho : w0.heap[b]? = some o) : wr.heap[b]? = some o :=
  h.ext.keep ((hK b hb).2.trans ho) (fun hm => (hM b hm).1 hb)
theorem It.blk {Kp M X : List Nat} {w0 W wr : World} (h : It M X W wr) (hK : ∀ b, b ∈ Kp → b < w0.heap.size ∧ W.heap[b]? = w0.heap[b]?) (hM : ∀ b, b ∈ M → b ∉ Kp ∧ b < W.heap.size)
    {b : Nat} {cs : List Value} {t : TypeId} (hb : b ∈ Kp) (ho : Blk w0 b cs t) : Blk wr b cs t := h.kept hK hM hb ho

/-- The nodes below k for which p holds. -/
def upto (p : Nat → Bool) (k : Nat) : List Nat := (List.range k).filter p
theorem upto_succ (p : Nat → Bool) (k : Nat) : upto p (k + 1) = if p k then upto p k ++ [k] else upto p k := by
  unfold upto; rw [List.range_succ, List.filter_append]; cases h : p k <;> simp [h]
theorem upto_prefix (p : Nat → Bool) {j k : Nat} (h : j ≤ k) : upto p j <+: upto p k := by
  induction k with
  | zero => obtain rfl : j = 0 := by omega
            exact List.prefix_refl _
  | succ k ih =>
    rcases Nat.lt_or_ge j (k + 1) with h' | h'
    · refine (ih (by omega)).trans ?_
      rw [upto_succ]; split <;> simp
    · obtain rfl : j = k + 1 := by omega
      exact List.prefix_refl _
theorem upto_at (p : Nat → Bool) {j k : Nat} (hp : p j = true) (h : j < k) : (upto p k)[(upto p j).length]? = some j := by
  have h1 : upto p (j + 1) <+: upto p k := upto_prefix p h
  rw [upto_succ, if_pos hp] at h1
  obtain ⟨t, ht⟩ := h1
  rw [← ht]; simp
theorem upto_len (p : Nat → Bool) {j k : Nat} (h : j ≤ k) : (upto p j).length ≤ (upto p k).length := (upto_prefix p h).length_le

theorem yield_at {P : Program} {l n : Nat} {xs : List (Array Value)} {i : Nat} {a : Array Value} {W : World} {R : Ending → World → Prop} (hx : xs[i]? = some a)
    (h : ∀ (h : i < xs.length), YieldAt Fence.wide n P l xs[i] W R) : YieldAt Fence.wide n P l a W R := by
  obtain ⟨hi, rfl⟩ := List.getElem?_eq_some_iff.1 hx
  exact h hi

theorem blk_foot {M : List Nat} {b : Nat} {cs : Nat → List Value} {t : TypeId} (hb : b ∈ M) : Foot M (fun i _ W => Blk W b (cs i) t) :=
  fun _ _ _ _ h hk => (hk b (.inl hb) h.lt).trans h
theorem no_foot {M : List Nat} : ∀ _ : Code, Foot M (fun _ _ _ => False) := fun _ _ _ _ _ h => h.elim

/-- A round's end out of what the body has written: N. -/
theorem RoundEnd.of {l : Nat} {r : Loop} {M X X' N : List Nat} {W W₁ W₂ W' : World} (h1 : Ext [] W W₁) (h2 : Ext [l] W₁ W₂) (hr : W₂.heap[l]? = some (.loop r)) (h3 : Ext N W₂ W')
    (hN : ∀ k, k ∈ N → (k ∈ M ∨ k ∈ X ∨ W.heap.size ≤ k) ∧ k ≠ l) (hX : ∀ b, b ∈ X' → (b ∈ X ∨ W.heap.size ≤ b) ∧ b < W'.heap.size) : RoundEnd l r M X X' W W' :=
  ⟨((h1.mono (N := l :: (M ++ X)) (by simp)).step h2 (fun k hk => .inl (by simp at hk; simp [hk]))).step h3 (fun k hk => by rcases (hN k hk).1 with h | h | h <;> simp [h]),
   h3.keep hr (fun h => (hN l h).2 rfl), hX⟩

theorem wrap64_of {x : Int} (h0 : -9223372036854775808 ≤ x) (h : x < 9223372036854775808) : wrap64 x = x := by unfold wrap64; omega
theorem int_eq {k : IntKind} {a b : Int} (h : a = b) : Value.int k a = Value.int k b := by rw [h]
theorem ret_int {k : IntKind} {a b : Int} (h : a = b) : Ending.returned (.int k a) = .returned (.int k b) := by rw [h]
theorem ret_bool {a b : Bool} (h : a = b) : Ending.returned (.bool a) = .returned (.bool b) := by rw [h]

/-- A function whose one result lies in a cell. -/
theorem results_cell1 {fn : Func} {p : Tmp} {ty : TypeId} (h : fn.results = #[.cell p ty]) (tmps : Array Value) (P : Program) (w : World) :
    (results fn tmps).run P w = ((asAddr (tmps.getD p undef)).run P w).andThen fun a w₁ => (loadVar ty a).run P w₁ := by
  simp only [results, h]
  simp [Sem.run_bind, Result.andThen]

end Go.Proofs.Ytjicpblncfgiaaa
