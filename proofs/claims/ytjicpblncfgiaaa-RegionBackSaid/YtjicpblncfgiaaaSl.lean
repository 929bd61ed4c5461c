/-
  Slices: what is read of one, and what a call owns of one. It names no program.
-/
import Derived.Test.YtjicpblncfgiaaaBase
namespace Go.Proofs.Ytjicpblncfgiaaa
set_option linter.unusedVariables false
set_option linter.unusedSimpArgs false
open Go.RowKit

/-- v is a slice whose elements, cell by cell (sz cells an element), are xs. -/
def Sl (w : World) (sz : Nat) (v : Value) (xs : List Value) : Prop :=
  (v = .slice none 0 0 ∧ xs = []) ∨
  ∃ b o n cap, v = .slice (some ⟨b, o, none⟩) n cap ∧ n ≤ cap ∧ cap ≤ maxLen ∧ b < w.heap.size ∧ xs.length = n * sz ∧ ∀ j, j < n * sz → w.cell? ⟨b, o + j, none⟩ = xs[j]?

theorem Sl.nil (w : World) (sz : Nat) : Sl w sz (.slice none 0 0) [] := .inl ⟨rfl, rfl⟩
theorem Sl.ext {M : List Nat} {w w' : World} {sz : Nat} {v : Value} {xs : List Value} (h : Sl w sz v xs) (hx : Ext M w w') (hm : ∀ b, v.ownBlock = some b → b ∉ M) : Sl w' sz v xs := by
  rcases h with h | ⟨b, o, n, cap, rfl, h0, h00, h1, h2, h3⟩
  · exact .inl h
  · exact .inr ⟨b, o, n, cap, rfl, h0, h00, Nat.lt_of_lt_of_le h1 hx.size, h2, fun j hj => (hx.cell (p := ⟨b, o + j, none⟩) h1 (hm b rfl)).trans (h3 j hj)⟩
theorem Sl.own_lt {w : World} {sz : Nat} {v : Value} {xs : List Value} (h : Sl w sz v xs) {b : Nat} (hb : v.ownBlock = some b) : b < w.heap.size := by
  rcases h with ⟨rfl, _⟩ | ⟨b', o, n, cap, rfl, h0, h00, h1, h2, h3⟩
  · cases hb
  · cases hb; exact h1
/-- Its form: a number of elements that a walk can see. -/
theorem Sl.form {w : World} {sz : Nat} {v : Value} {xs : List Value} (h : Sl w sz v xs) : ∃ a n cap, v = .slice a n cap ∧ xs.length = n * sz ∧ n ≤ cap ∧ n ≤ maxLen ∧
    (0 < n → ∃ b o, a = some ⟨b, o, none⟩ ∧ b < w.heap.size ∧ ∀ j, j < n * sz → w.cell? ⟨b, o + j, none⟩ = xs[j]?) := by
  rcases h with ⟨rfl, rfl⟩ | ⟨b, o, n, cap, rfl, h0, h00, h1, h2, h3⟩
  · exact ⟨none, 0, 0, rfl, by simp, Nat.le_refl _, Nat.zero_le _, by simp⟩
  · exact ⟨_, n, cap, rfl, h2, h0, Nat.le_trans h0 h00, fun _ => ⟨b, o, rfl, h1, h3⟩⟩
theorem Sl.of_own {w : World} {base e sz n : Nat} {v : Value} {xs : List Value} (h : w.ownsRow base e sz v n xs) : Sl w sz v xs := by
  obtain ⟨hl, h | ⟨g, cap, cur, hv, hg, hb, hn, hc, hs, ht⟩⟩ := h
  · obtain ⟨h1, h2⟩ := h
    exact .inl ⟨h1, by rw [h2] at hl; simpa using hl⟩
  · refine .inr ⟨g, 0, n, cap, hv, hn, hc, heap_lt hb, hl, fun j hj => ?_⟩
    rw [← ht]
    simp [World.cell?, hb, List.getElem?_take_of_lt hj]
theorem ownsRow_of_block {w w' : World} {base e sz n : Nat} {v : Value} {xs : List Value} (h : w.ownsRow base e sz v n xs) (hb : ∀ b, v.ownBlock = some b → w'.heap[b]? = w.heap[b]?) : w'.ownsRow base e sz v n xs := by
  obtain ⟨h1, h | ⟨g, cap, cur, hv, hg, hh, r⟩⟩ := h
  · exact ⟨h1, .inl h⟩
  · exact ⟨h1, .inr ⟨g, cap, cur, hv, hg, (hb g (by rw [hv]; rfl)).trans hh, r⟩⟩
theorem ownsRow_ext {M : List Nat} {w w' : World} {base e sz n : Nat} {v : Value} {xs : List Value} (h : w.ownsRow base e sz v n xs) (hx : Ext M w w') (hm : ∀ b, v.ownBlock = some b → b ∉ M) : w'.ownsRow base e sz v n xs :=
  ownsRow_of_block h (fun b hb => hx.block b (h.lt b hb).2 (hm b hb))
theorem ownsRow_base {W : World} {base base' : Nat} {e : TypeId} {size : Nat} {v : Value} {k : Nat} {xs : List Value} (h : W.ownsRow base e size v k xs) (hb : base' ≤ base) : W.ownsRow base' e size v k xs := by
  refine ⟨h.1, ?_⟩
  rcases h.2 with hn | ⟨g, cap, cur, hv, hbg, rest⟩
  · exact .inl hn
  · exact .inr ⟨g, cap, cur, hv, Nat.le_trans hb hbg, rest⟩
/-- The blocks of one that is owned, as a list. -/
abbrev own (v : Value) : List Nat := v.ownBlock.toList
theorem mem_own {v : Value} {b : Nat} (h : v.ownBlock = some b) : b ∈ own v := by simp [own, h]
theorem of_mem_own {v : Value} {b : Nat} (h : b ∈ own v) : v.ownBlock = some b := by simpa [own] using h
theorem encN_snoc (l : List Nat) (x : Nat) : l.map (fun x => Value.int .i64 ((x : Nat) : Int)) ++ [.int .i64 (x : Int)] = (l ++ [x]).map (fun x => Value.int .i64 ((x : Nat) : Int)) := by rw [List.map_append]; rfl
theorem ownsRow_form {w : World} {base e sz n : Nat} {v : Value} {xs : List Value} (h : w.ownsRow base e sz v n xs) : ∃ a cap, v = .slice a n cap ∧ n ≤ cap ∧ cap ≤ maxLen := by
  obtain ⟨_, ⟨rfl, rfl⟩ | ⟨g, cap, cur, hv, hg, hh, hn, hc, r⟩⟩ := h
  · exact ⟨none, 0, rfl, Nat.le_refl _, Nat.zero_le _⟩
  · exact ⟨_, cap, hv, hn, hc⟩
theorem Ext.append {M : List Nat} {a w w' : World} {v : Value} (h : Ext M a w) (hg : w.grownBy w' v.ownBlock) (hr : ∀ k, v.ownBlock = some k → k ∈ M ∨ a.heap.size ≤ k) : Ext M a w' := h.grown hg hr
/-- A slice's beginning. -/
theorem Sl.take {w : World} {a : Option Addr} {n cap k : Nat} {xs : List Value} (h : Sl w 1 (.slice a n cap) xs) (hk : k ≤ n) : Sl w 1 (.slice a k cap) (xs.take k) ∨ (a = none ∧ k = 0) := by
  rcases h with ⟨h, rfl⟩ | ⟨b, o, n', cap', h, h0, h00, h1, h2, h3⟩
  · cases h; exact .inr ⟨rfl, by omega⟩
  · cases h
    exact .inl (.inr ⟨b, o, k, cap, rfl, by omega, h00, h1, by simp; omega, fun j hj => by rw [h3 j (by omega), List.getElem?_take_of_lt (by omega)]⟩)
theorem Sl.take_own {w : World} {base e n k cap : Nat} {a : Option Addr} {xs : List Value} (h : w.ownsRow base e 1 (.slice a n cap) n xs) (hk : k ≤ n) : Sl w 1 (.slice a k cap) (xs.take k) := by
  rcases Sl.take (Sl.of_own h) hk with h' | ⟨rfl, rfl⟩
  · exact h'
  · obtain ⟨_, ⟨h1, h2⟩ | ⟨g, cap', cur, hv, _⟩⟩ := h
    · cases h1; exact .inl ⟨rfl, by simp⟩
    · cases hv

/-- Numbers as cells. -/
def encI (l : List Int) : List Value := l.map (.int .i64)
def encN (l : List Nat) : List Value := l.map fun x => .int .i64 ((x : Nat) : Int)
@[simp] theorem encN_length (l : List Nat) : (encN l).length = l.length := by simp [encN]
@[simp] theorem encI_length (l : List Int) : (encI l).length = l.length := by simp [encI]
theorem encN_get (l : List Nat) (i : Nat) : (encN l)[i]? = (l[i]?).map fun x => .int .i64 ((x : Nat) : Int) := by simp [encN]
theorem encI_get (l : List Int) (i : Nat) : (encI l)[i]? = (l[i]?).map (.int .i64) := by simp [encI]
theorem encN_take (l : List Nat) (k : Nat) : encN (l.take k) = (encN l).take k := by simp [encN, List.map_take]
theorem encN_eq (l : List Nat) : encN l = encI (l.map Int.ofNat) := by simp [encN, encI]

theorem grownBy_ext {w w' : World} {v : Value} (h : w.grownBy w' v.ownBlock) : Ext (own v) w w' := (Ext.refl (own v) w).grown h (fun k hk => .inl (by simp [own, hk]))

/-- What append does onto a slice that the call owns, whatever is appended. -/
theorem run_append_x {P : Program} (w : World) (base : Nat) (t ty e : TypeId) (i : TypeInfo) (z : Value) (size bytes : Nat) (ht : P.underlying t = some (.slice e)) (hi : P.info? e = some i) (hz : i.zero = some z)
    (hsize : i.size = size) (hby : i.bytes = bytes) (hzs : z.cells.size = size) (hsz : 0 < size)
    (v : Value) (n : Nat) (xs : List Value) (hown : w.ownsRow base e size v n xs)
    (x : Value) (m : Nat) (news : List Value) (hx : Sl w size x news) (hl : news.length = m * size) (h1 : ∀ u ∈ news, u.oneCell' = true)
    (h63 : n + m ≤ maxLen) (hbytes : (n + m) * bytes ≤ 140737488355328) (hbase : base ≤ w.heap.size) :
    ∃ v' w', (Builtin.append_ #[t, t] ty #[v, x]).run P w = .ok v' w' ∧ w'.ownsRow base e size v' (n + m) (xs ++ news) ∧ Ext (own v) w w' ∧ (∀ b, v'.ownBlock = some b → v.ownBlock = some b ∨ w.heap.size ≤ b) := by
  rcases hx with ⟨rfl, rfl⟩ | ⟨b, o, m', c, rfl, h0, h00, hb, h2, h3⟩
  · have hm0 : m = 0 := by
      have h : 0 = m * size := by simpa using hl
      rcases Nat.mul_eq_zero.1 h.symm with h | h
      · exact h
      · omega
    subst hm0
    refine ⟨v, w, run_append_owned_none w base t ty e i size ht hi v n xs hown, by simpa using hown, Ext.refl _ _, fun b hb => .inl hb⟩
  · have hmm : m' = m := Nat.eq_of_mul_eq_mul_right hsz (h2.symm.trans hl)
    subst hmm
    have hnews : ∀ j u, news[j]? = some u → w.cell? ((⟨b, o, none⟩ : Addr).add j) = some u := by
      intro j u hu
      have hj : j < m' * size := by have := (List.getElem?_eq_some_iff.1 hu).1; omega
      rw [← hu, ← h3 j hj]
      simp only [Addr.add]
      split
      · rename_i h; subst h; simp
      · rfl
    obtain ⟨v', w', hr, ho, hg, hn⟩ := run_append_own (P := P) w base t ty e i z size bytes ht hi hz hsize hby hzs hsz v n xs hown ⟨b, o, none⟩ m' c news hl hnews h1 h63 hbytes hbase
    refine ⟨v', w', hr, ho, grownBy_ext hg, ?_⟩
    rcases hown.2 with ⟨rfl, rfl⟩ | ⟨g, cap, cur, rfl, hbg, hgc, hnc, hcm, hcs, htake⟩
    · have hx : xs = [] := List.eq_nil_of_length_eq_zero (by simpa using hown.1)
      subst hx
      obtain ⟨v2, w2, hr2, ho2, _, _⟩ := run_append_own (P := P) w w.heap.size t ty e i z size bytes ht hi hz hsize hby hzs hsz (.slice none 0 0) 0 [] (World.ownsRow_nil _ _ _ _) ⟨b, o, none⟩ m' c news hl hnews h1 h63 hbytes (Nat.le_refl _)
      rw [hr] at hr2
      cases hr2
      exact fun k hk => .inr (ho2.lt k hk).1
    · by_cases hroom : n + m' ≤ cap
      · obtain ⟨w2, hr2, _, _⟩ := run_append_fits (P := P) w base t ty e i size ht hi hsize g n cap xs hown ⟨b, o, none⟩ m' c news hl hnews h1 hroom
        rw [hr] at hr2
        cases hr2
        exact fun k hk => .inl hk
      · subst hsize
        subst hby
        have holds : ∀ j u, xs[j]? = some u → w.cell? ((⟨g, 0, none⟩ : Addr).add j) = some u := hown.cells (g := g) rfl
        have hr2 := run_append_grow (P := P) w t ty e i z ht hi hz ⟨g, 0, none⟩ n cap xs hown.1 holds ⟨b, o, none⟩ m' c news hl hnews (by omega) (by simp only [maxLen] at h63; omega) (growslice_fits (by omega) hbytes)
        rw [hr] at hr2
        cases hr2
        exact fun k hk => .inr (by cases hk; exact Nat.le_refl _)

theorem wpList_append_x {P : Program} (w : World) {ops : Array Oper} {rest : List Oper} {o : Oper} {a : Act} {Q : Exit → Act → World → Prop}
    (hgd : o.guard = none) (s x : Operand) (t : TypeId) (ho : o.op = .call { callee := .builtin .append, args := #[s, x], argTypes := #[t, t] })
    (base : Nat) (e : TypeId) (i : TypeInfo) (z : Value) (size bytes : Nat) (ht : P.underlying t = some (.slice e)) (hi : P.info? e = some i) (hz : i.zero = some z)
    (hsize : i.size = size) (hby : i.bytes = bytes) (hzs : z.cells.size = size) (hsz : 0 < size)
    (v : Value) (n : Nat) (xs : List Value) (hs : a.eval s = v) (hown : w.ownsRow base e size v n xs)
    (xv : Value) (m : Nat) (news : List Value) (hxv : a.eval x = xv) (hx : Sl w size xv news) (hl : news.length = m * size) (h1 : ∀ u ∈ news, u.oneCell' = true)
    (h63 : n + m ≤ maxLen) (hbytes : (n + m) * bytes ≤ 140737488355328) (hbase : base ≤ w.heap.size)
    (h : ∀ v' w', w'.ownsRow base e size v' (n + m) (xs ++ news) → Ext (own v) w w' → (∀ b, v'.ownBlock = some b → v.ownBlock = some b ∨ w.heap.size ≤ b) → wpList P ops Q rest (a.put o.dst v') w') : wpList P ops Q (o :: rest) a w := by
  refine wpList_plain hgd fun K hK => ?_
  obtain ⟨v', w', hrun, r1, r2, r3⟩ := run_append_x (P := P) w base t o.type e i z size bytes ht hi hz hsize hby hzs hsz v n xs hown xv m news hx hl h1 h63 hbytes hbase
  simp [Oper.wp, execOp, ho, resolve, invoke, builtin, hs, hxv, hrun, Result.andThen, Oper.upon]
  exact hK _ _ (h v' w' r1 r2 r3)

theorem wpListIn_append_x {F : Fence} {k : Nat} {P : Program} (w : World) {ops : Array Oper} {rest : List Oper} {o : Oper} {a : Act} {Q : Exit → Act → World → Prop}
    (hgd : o.guard = none) (s x : Operand) (t : TypeId) (ho : o.op = .call { callee := .builtin .append, args := #[s, x], argTypes := #[t, t] })
    (base : Nat) (e : TypeId) (i : TypeInfo) (z : Value) (size bytes : Nat) (ht : P.underlying t = some (.slice e)) (hi : P.info? e = some i) (hz : i.zero = some z)
    (hsize : i.size = size) (hby : i.bytes = bytes) (hzs : z.cells.size = size) (hsz : 0 < size)
    (v : Value) (n : Nat) (xs : List Value) (hs : a.eval s = v) (hown : w.ownsRow base e size v n xs)
    (xv : Value) (m : Nat) (news : List Value) (hxv : a.eval x = xv) (hx : Sl w size xv news) (hl : news.length = m * size) (h1 : ∀ u ∈ news, u.oneCell' = true)
    (h63 : n + m ≤ maxLen) (hbytes : (n + m) * bytes ≤ 140737488355328) (hbase : base ≤ w.heap.size)
    (h : ∀ v' w', w'.ownsRow base e size v' (n + m) (xs ++ news) → Ext (own v) w w' → (∀ b, v'.ownBlock = some b → v.ownBlock = some b ∨ w.heap.size ≤ b) → wpListIn F k P ops Q rest (a.put o.dst v') w') : wpListIn F k P ops Q (o :: rest) a w := by
  refine wpListIn_plain hgd fun K hK => ?_
  obtain ⟨v', w', hrun, r1, r2, r3⟩ := run_append_x (P := P) w base t o.type e i z size bytes ht hi hz hsize hby hzs hsz v n xs hown xv m news hx hl h1 h63 hbytes hbase
  unfold Oper.wpIn
  refine ⟨?_, ?_⟩
  · simp [Oper.about, ho, resolve, Target.leads, Sem.run_pure]
  · rw [Oper.semAt_plain F _ _ (by rw [ho]; intro c hc'; cases hc')]
    simp [execOp, ho, resolve, invoke, builtin, hs, hxv, hrun, Result.andThen]
    exact hK _ _ (h v' w' r1 r2 r3)

/-- A slice literal, just made. -/
theorem Sl.lit (w : World) (sz n : Nat) (cs : List Value) (e : TypeId) (hm : n ≤ maxLen) (hs : cs.length = n * sz) : Sl (w.alloc (.cells cs.toArray e)) sz (.slice (some ⟨w.heap.size, 0, none⟩) n n) cs :=
  .inr ⟨w.heap.size, 0, n, n, rfl, Nat.le_refl _, hm, by simp, hs, fun j _ => by rw [Nat.zero_add]; exact (Blk.new w cs e).cell j⟩
theorem ownsRow_lit {w : World} {base sz n : Nat} {cs : List Value} {e : TypeId} (hb : base ≤ w.heap.size) (hm : n ≤ maxLen) (hs : cs.length = n * sz) :
    (w.alloc (.cells cs.toArray e)).ownsRow base e sz (.slice (some ⟨w.heap.size, 0, none⟩) n n) n cs := by
  have := World.ownsRow_lit (base := base) (e := e) (size := sz) w cs.toArray n hb hm (by simpa using hs)
  simpa using this

/-- What the table of types says of a slice type t with elements e: a zero of `size` cells and `bytes` bytes. -/
structure SlT (P : Program) (t e : TypeId) (z : Value) (size bytes : Nat) : Prop where
  und : P.underlying t = some (.slice e)
  info : (P.info? e).map (fun i => (i.zero, i.size, i.bytes)) = some (some z, size, bytes)
  cells : z.cells.size = size
  pos : 0 < size

/-- Append in a walk: the short form. -/
theorem wpList_app {P : Program} {w : World} {ops : Array Oper} {rest : List Oper} {o : Oper} {a : Act} {Q : Exit → Act → World → Prop} {s x : Operand} {t e : TypeId} {z : Value} {size bytes base n m : Nat} {v xv : Value} {xs news : List Value}
    (T : SlT P t e z size bytes) (hown : w.ownsRow base e size v n xs) (hx : Sl w size xv news) (hgd : o.guard = none) (ho : o.op = .call { callee := .builtin .append, args := #[s, x], argTypes := #[t, t] })
    (hs : a.eval s = v) (hxv : a.eval x = xv) (hl : news.length = m * size) (h1 : ∀ u ∈ news, u.oneCell' = true)
    (h63 : n + m ≤ maxLen) (hbytes : (n + m) * bytes ≤ 140737488355328) (hbase : base ≤ w.heap.size)
    (h : ∀ v' w', w'.ownsRow base e size v' (n + m) (xs ++ news) → Ext (own v) w w' → (∀ b, v'.ownBlock = some b → v.ownBlock = some b ∨ w.heap.size ≤ b) → wpList P ops Q rest (a.put o.dst v') w') : wpList P ops Q (o :: rest) a w := by
  obtain ⟨i, hi, hz0, hz1, hz2⟩ := info_parts T.info
  exact wpList_append_x w hgd s x t ho base e i z size bytes T.und hi hz0 hz1 hz2 T.cells T.pos v n xs hs hown xv m news hxv hx hl h1 h63 hbytes hbase h
theorem wpListIn_app {F : Fence} {k : Nat} {P : Program} {w : World} {ops : Array Oper} {rest : List Oper} {o : Oper} {a : Act} {Q : Exit → Act → World → Prop} {s x : Operand} {t e : TypeId} {z : Value} {size bytes base n m : Nat} {v xv : Value} {xs news : List Value}
    (T : SlT P t e z size bytes) (hown : w.ownsRow base e size v n xs) (hx : Sl w size xv news) (hgd : o.guard = none) (ho : o.op = .call { callee := .builtin .append, args := #[s, x], argTypes := #[t, t] })
    (hs : a.eval s = v) (hxv : a.eval x = xv) (hl : news.length = m * size) (h1 : ∀ u ∈ news, u.oneCell' = true)
    (h63 : n + m ≤ maxLen) (hbytes : (n + m) * bytes ≤ 140737488355328) (hbase : base ≤ w.heap.size)
    (h : ∀ v' w', w'.ownsRow base e size v' (n + m) (xs ++ news) → Ext (own v) w w' → (∀ b, v'.ownBlock = some b → v.ownBlock = some b ∨ w.heap.size ≤ b) → wpListIn F k P ops Q rest (a.put o.dst v') w') : wpListIn F k P ops Q (o :: rest) a w := by
  obtain ⟨i, hi, hz0, hz1, hz2⟩ := info_parts T.info
  exact wpListIn_append_x w hgd s x t ho base e i z size bytes T.und hi hz0 hz1 hz2 T.cells T.pos v n xs hs hown xv m news hxv hx hl h1 h63 hbytes hbase h

end Go.Proofs.Ytjicpblncfgiaaa
