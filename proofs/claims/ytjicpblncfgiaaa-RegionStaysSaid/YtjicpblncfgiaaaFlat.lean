/-
  Arguments whose cells are numbers, truth values and texts, and slices of such: opened in one step. It names no program.
-/
import Derived.Test.YtjicpblncfgiaaaBase
import Derived.ProofKit
import Derived.OpenShut
import Derived.ChangeOld
import Derived.Below
import Derived.SizedLaws
import Derived.Carry
import Derived.Deep.Slices
namespace Go.Proofs.Ytjicpblncfgiaaa
set_option linter.unusedVariables false
set_option linter.unusedSimpArgs false
open Go.ChangeShapes Go.WideShapes Go.RowKit Go.Deep

/-- What a cell may hold. -/
inductive SK where
  | b
  | i (k : IntKind)
  | s
def SK.is : SK → Value → Prop
  | .b, v => ∃ x, v = .bool x
  | .i k, v => ∃ n, v = .int k n ∧ k.min ≤ n ∧ n ≤ k.max
  | .s, v => ∃ x : ByteArray, v = .string x ∧ x.size ≤ maxLen
def FlatS : List SK → List Value → Prop
  | [], [] => True
  | k :: ks, v :: vs => k.is v ∧ FlatS ks vs
  | _, _ => False
theorem FlatS.len : ∀ {ks : List SK} {vs : List Value}, FlatS ks vs → vs.length = ks.length
  | [], [], _ => rfl
  | _ :: _, _ :: _, h => by simp [FlatS.len h.2]
  | [], _ :: _, h => h.elim
  | _ :: _, [], h => h.elim

/-- A slice, row by row (sz cells a row). -/
def SlC (w : World) (sz : Nat) (v : Value) (rows : List (List Value)) : Prop :=
  ∃ a cap, v = .slice a rows.length cap ∧ rows.length ≤ cap ∧ cap ≤ maxLen ∧ (∀ r, r ∈ rows → r.length = sz) ∧
    (0 < rows.length → ∃ b o, a = some ⟨b, o, none⟩ ∧ b < w.heap.size ∧ ∀ (i : Nat) (r : List Value), rows[i]? = some r → ∀ (j : Nat) (u : Value), r[j]? = some u → w.cell? ⟨b, o + i * sz + j, none⟩ = some u)
theorem SlC.ext_new {M : List Nat} {w w' : World} {sz : Nat} {v : Value} {rows : List (List Value)} (h : SlC w sz v rows) (hx : Ext M w w') (hm : ∀ b, b ∈ M → w.heap.size ≤ b) : SlC w' sz v rows := by
  obtain ⟨a, cap, h1, h2, h3, h4, h5⟩ := h
  refine ⟨a, cap, h1, h2, h3, h4, fun hn => ?_⟩
  obtain ⟨b, o, ha, hb, hc⟩ := h5 hn
  exact ⟨b, o, ha, Nat.lt_of_lt_of_le hb hx.size, fun i r hr j u hu => (hx.cell (p := ⟨b, o + i * sz + j, none⟩) hb (fun e => by have := hm b e; omega)).trans (hc i r hr j u hu)⟩

inductive FK where
  | c (k : SK)
  | sl (ks : List SK)
def FK.is (w : World) : FK → Value → Prop
  | .c k, v => k.is v
  | .sl ks, v => ∃ rows, SlC w ks.length v rows ∧ ∀ r, r ∈ rows → FlatS ks r
def FlatIs (w : World) : List FK → List Value → Prop
  | [], [] => True
  | k :: ks, v :: vs => k.is w v ∧ FlatIs w ks vs
  | _, _ => False
theorem FlatIs.len {w : World} : ∀ {ks : List FK} {vs : List Value}, FlatIs w ks vs → vs.length = ks.length
  | [], [], _ => rfl
  | _ :: _, _ :: _, h => by simp [FlatIs.len h.2]
  | [], _ :: _, h => h.elim
  | _ :: _, [], h => h.elim
theorem FlatIs.app {w : World} : ∀ {ks : List FK} {vs : List Value} {ks' : List FK} {vs' : List Value}, FlatIs w ks vs → FlatIs w ks' vs' → FlatIs w (ks ++ ks') (vs ++ vs')
  | [], [], _, _, _, h => h
  | _ :: _, _ :: _, _, _, h, h' => ⟨h.1, FlatIs.app h.2 h'⟩
  | [], _ :: _, _, _, h, _ => h.elim
  | _ :: _, [], _, _, h, _ => h.elim

def FK.sk : FK → Option SK
  | .c k => some k
  | .sl _ => none
def allSk : List FK → Option (List SK)
  | [] => some []
  | k :: ks => match k.sk, allSk ks with
    | some k, some l => some (k :: l)
    | _, _ => none
theorem FlatIs.flatS {w : World} : ∀ {ks : List FK} {vs : List Value} {ss : List SK}, FlatIs w ks vs → allSk ks = some ss → FlatS ss vs
  | [], [], ss, _, h => by simp [allSk] at h; subst h; trivial
  | k :: ks, v :: vs, ss, h, hs => by
    unfold allSk at hs
    cases k with
    | sl l => simp [FK.sk] at hs
    | c k =>
      simp only [FK.sk] at hs
      cases h2 : allSk ks with
      | none => rw [h2] at hs; simp at hs
      | some l =>
        rw [h2] at hs
        simp at hs
        subst hs
        exact ⟨h.1, FlatIs.flatS h.2 h2⟩
  | [], _ :: _, _, h, _ => h.elim
  | _ :: _, [], _, h, _ => h.elim

def flatFs (F : TypeId → Option (List FK)) (P : Program) : List Field → Nat → Option (List FK)
  | [], _ => some []
  | f :: fs, off => if f.offset = off then (match F f.type with
      | some ks => if P.cellsOf f.type = ks.length then (flatFs F P fs (off + ks.length)).map (ks ++ ·) else none
      | none => none) else none
def flatRep (ks : List FK) : Nat → List FK
  | 0 => []
  | n + 1 => ks ++ flatRep ks n
def flatT (P : Program) : Nat → TypeId → Option (List FK)
  | 0, _ => none
  | n + 1, t => match P.underlying t with
    | some .bool => some [.c .b]
    | some (.int k) => some [.c (.i k)]
    | some .string => some [.c .s]
    | some (.slice e) => (match flatT P n e with
      | some ks => (match allSk ks with
        | some ss => if P.cellsOf e = ss.length ∧ 0 < ss.length then some [.sl ss] else none
        | none => none)
      | none => none)
    | some (.struct fs) => (match flatFs (flatT P n) P fs.toList 0 with
      | some ks => if P.cellsOf t = ks.length then some ks else none
      | none => none)
    | some (.array m e) => (match flatT P n e with
      | some ks => if P.cellsOf e = ks.length ∧ P.cellsOf t = m * ks.length then some (flatRep ks m) else none
      | none => none)
    | _ => none

theorem flatFs_is {w : World} {P : Program} {F : TypeId → Option (List FK)} {cs : List Value} : ∀ (fs : List Field) (off : Nat) (ks : List FK), flatFs F P fs off = some ks → cs.length = off + ks.length →
    (∀ f, f ∈ fs → ∀ ks', F f.type = some ks' → FlatIs w ks' ((cs.drop f.offset).take (P.cellsOf f.type))) → FlatIs w ks (cs.drop off)
  | [], off, ks, h, hl, _ => by
    simp [flatFs] at h
    subst h
    simp at hl
    rw [List.drop_of_length_le (by omega)]
    trivial
  | f :: fs, off, ks, h, hl, hf => by
    unfold flatFs at h
    by_cases ho : f.offset = off
    · rw [if_pos ho] at h
      cases hF : F f.type with
      | none => rw [hF] at h; simp at h
      | some k1 =>
        rw [hF] at h
        by_cases hc : P.cellsOf f.type = k1.length
        · simp only [hc, if_true] at h
          cases hr : flatFs F P fs (off + k1.length) with
          | none => rw [hr] at h; simp at h
          | some k2 =>
            rw [hr] at h
            simp at h
            subst h
            have h1 := hf f (by simp) k1 hF
            rw [ho, hc] at h1
            have h2 := flatFs_is fs (off + k1.length) k2 hr (by simp at hl; omega) (fun g hg => hf g (by simp [hg]))
            have e : cs.drop off = (cs.drop off).take k1.length ++ cs.drop (off + k1.length) := by rw [← List.drop_drop, List.take_append_drop]
            rw [e]
            exact h1.app h2
        · simp only [hc, if_false] at h
          cases h
    · rw [if_neg ho] at h; cases h

theorem flatRep_is {w : World} {ks : List FK} {cs : List Value} : ∀ (m i : Nat), cs.length = (i + m) * ks.length → (∀ j, j < i + m → FlatIs w ks ((cs.drop (j * ks.length)).take ks.length)) → FlatIs w (flatRep ks m) (cs.drop (i * ks.length))
  | 0, i, hl, _ => by
    rw [List.drop_of_length_le (by simp at hl; omega)]
    trivial
  | m + 1, i, hl, h => by
    have h1 := h i (by omega)
    have h2 := flatRep_is m (i + 1) (by rw [hl]; congr 1; omega) (fun j hj => h j (by omega))
    have e : cs.drop (i * ks.length) = (cs.drop (i * ks.length)).take ks.length ++ cs.drop ((i + 1) * ks.length) := by
      have : (i + 1) * ks.length = i * ks.length + ks.length := by rw [Nat.add_mul, Nat.one_mul]
      rw [this, ← List.drop_drop, List.take_append_drop]
    rw [e]
    exact h1.app h2

theorem cells?_lt {w : World} {base : Nat} {a : Addr} {n : Nat} {cs : List Value} (h : w.cells? base a n = some cs) (hn : 0 < n) : a.spot = none ∧ a.block < w.heap.size := by
  obtain ⟨_, hcl, hat⟩ := World.cells?_some h
  have h0 := hat 0 hn
  rw [List.getElem?_eq_getElem (by omega)] at h0
  have h1 : w.cell? a = some cs[0] := by simpa [Addr.add] using h0
  unfold World.cell? at h1
  cases hh : w.heap[a.block]? with
  | none => rw [hh] at h1; cases h1
  | some o =>
    rw [hh] at h1
    refine ⟨?_, heap_lt hh⟩
    cases o with
    | cells c t f =>
      simp only at h1
      cases hs : a.spot with
      | none => rfl
      | some x => rw [hs] at h1; simp at h1
    | _ => cases h1

theorem addr_add (b o k : Nat) : (⟨b, o, none⟩ : Addr).add k = ⟨b, o + k, none⟩ := by
  unfold Addr.add; split
  · next h => subst h; rfl
  · rfl

theorem trod_flat {H : Type} {enc : TypeId × Value → H} {P : Program} {w : World} {base : Nat} {spare : Nat → Bool} {held : Bool} :
    ∀ (n : Nat) {t : TypeId} {fuel : Nat} {cs : List Value} {x : DataW H × List MemPlace} {ks : List FK}, flatT P n t = some ks → DataW.trod enc P w base spare held fuel t cs = some x → FlatIs w ks cs
  | 0, _, _, _, _, _, h, _ => by cases h
  | n + 1, t, fuel, cs, x, ks, h, ht => by
    unfold flatT at h
    cases hu : P.underlying t with
    | none => rw [hu] at h; simp at h
    | some u =>
      rw [hu] at h
      cases u with
      | bool =>
        simp at h; subst h
        obtain ⟨b, rfl, _⟩ := DataW.trod_bool hu ht
        exact ⟨⟨b, rfl⟩, trivial⟩
      | int k =>
        simp at h; subst h
        obtain ⟨m, rfl, _, hw⟩ := DataW.trod_int hu ht
        simp [Lit.wf] at hw
        exact ⟨⟨m, rfl, hw.1, hw.2⟩, trivial⟩
      | string =>
        simp at h; subst h
        obtain ⟨s, rfl, _, hs⟩ := DataW.trod_string hu ht
        exact ⟨⟨s, rfl, hs⟩, trivial⟩
      | slice e =>
        simp only at h
        cases he : flatT P n e with
        | none => rw [he] at h; simp at h
        | some ke =>
          rw [he] at h
          simp only at h
          cases hs : allSk ke with
          | none => rw [hs] at h; simp at h
          | some ss =>
            rw [hs] at h
            simp only at h
            by_cases hc : P.cellsOf e = ss.length ∧ 0 < ss.length
            · rw [if_pos hc] at h
              simp at h; subst h
              obtain ⟨hc, hp⟩ := hc
              rcases open_slice hu ht with ⟨rfl, _⟩ | ⟨a, len, cap, m, k, D, Pl, rfl, hb, hl, hm, hmm, _, hi⟩
              · exact ⟨⟨[], ⟨none, 0, rfl, Nat.le_refl _, Nat.zero_le _, by simp, by simp⟩, by simp⟩, trivial⟩
              · have hlm : len ≤ m := by rw [hmm]; split <;> omega
                have hch : ∀ i : Nat, ∃ r : List Value, i < len → w.cells? base (a.add (i * P.cellsOf e)) (P.cellsOf e) = some r ∧ FlatS ss r := fun i => by
                  by_cases h : i < len
                  · obtain ⟨r, h1, h2⟩ := hi i (by omega)
                    exact ⟨r, fun _ => ⟨h1, (trod_flat n he h2).flatS hs⟩⟩
                  · exact ⟨[], fun h' => absurd h' h⟩
                have hr' : ∀ i, i < len → w.cells? base (a.add (i * P.cellsOf e)) (P.cellsOf e) = some (Classical.choose (hch i)) ∧ FlatS ss (Classical.choose (hch i)) := fun i => Classical.choose_spec (hch i)
                refine ⟨⟨(List.range len).map (fun i => Classical.choose (hch i)), ⟨some a, cap, by simp, by simpa using hl, hm, ?_, ?_⟩, ?_⟩, trivial⟩
                · intro r hrm
                  obtain ⟨i, hi', rfl⟩ := List.mem_map.1 hrm
                  exact (hr' i (by simpa using hi')).2.len
                · intro h0
                  simp only [List.length_map, List.length_range] at h0
                  obtain ⟨hsp, hlt⟩ := cells?_lt (hr' 0 h0).1 (by omega)
                  obtain ⟨b, o, spot⟩ := a
                  have hsp : spot = none := by simpa [Addr.add] using hsp
                  subst hsp
                  refine ⟨b, o, rfl, by simpa [Addr.add] using hlt, fun i r hrr j u hu' => ?_⟩
                  have hil : i < len := by
                    have := (List.getElem?_eq_some_iff.1 hrr).1
                    simpa using this
                  simp only [List.getElem?_map, List.getElem?_range hil, Option.map_some, Option.some.injEq] at hrr
                  subst hrr
                  obtain ⟨_, hcl, hat⟩ := World.cells?_some (hr' i hil).1
                  have hj : j < P.cellsOf e := by have := (List.getElem?_eq_some_iff.1 hu').1; omega
                  have h3 := hat j hj
                  rw [Go.Deep.add_add, addr_add, hu'] at h3
                  rw [Nat.add_assoc, ← hc]
                  exact h3
                · intro r hrm
                  obtain ⟨i, hi', rfl⟩ := List.mem_map.1 hrm
                  exact (hr' i (by simpa using hi')).2
            · rw [if_neg hc] at h; cases h
      | struct fs =>
        simp only at h
        cases hf : flatFs (flatT P n) P fs.toList 0 with
        | none => rw [hf] at h; simp at h
        | some kf =>
          rw [hf] at h
          simp only at h
          by_cases hc : P.cellsOf t = kf.length
          · rw [if_pos hc] at h
            simp at h; subst h
            obtain ⟨xs, m, _, _, hl, hlen, hk⟩ := DataW.trod_struct hu ht
            have := flatFs_is (w := w) (cs := cs) fs.toList 0 kf hf (by omega) (fun f hm ks' hks => by
              obtain ⟨i, hi, rfl⟩ := List.getElem_of_mem hm
              have h1 := hk i fs.toList[i] (by simp at hi; simp [hi])
              have hi' : i < xs.length := by rw [hlen]; simpa using hi
              rw [List.getElem?_eq_getElem hi'] at h1
              exact trod_flat n hks h1)
            simpa using this
          · rw [if_neg hc] at h; cases h
      | array m e =>
        simp only at h
        cases he : flatT P n e with
        | none => rw [he] at h; simp at h
        | some ke =>
          rw [he] at h
          simp only at h
          by_cases hc : P.cellsOf e = ke.length ∧ P.cellsOf t = m * ke.length
          · rw [if_pos hc] at h
            simp at h; subst h
            obtain ⟨xs, k, _, _, hl, hlen, hk⟩ := DataW.trod_array hu ht
            have := flatRep_is (w := w) (ks := ke) (cs := cs) m 0 (by rw [hl, hc.2]; simp) (fun j hj => by
              have h1 := hk j (by omega)
              rw [hc.1] at h1
              rw [List.getElem?_eq_getElem (by omega)] at h1
              exact trod_flat n he h1)
            simpa using this
          · rw [if_neg hc] at h; cases h
      | _ => simp at h

theorem open_flat_struct {H : Type} {enc : TypeId × Value → H} {P : Program} {w : World} {base : Nat} {spare : Nat → Bool} {held : Bool} {r : Reach} {b0 : Nat} {t : TypeId} {fs : Array Field} {v : Value} {d : DataW H} {p : List MemPlace} (n : Nat) {ks : List FK}
    (hs : P.underlying t = some (.struct fs)) (hk : flatT P n t = some ks) (hv : Value.okWide P w r b0 t v) (h : DataW.Trod enc P w base spare held t v d p) : ∃ cs : Array Value, v = .agg cs ∧ FlatIs w ks cs.toList := by
  obtain ⟨cs, rfl, hsz⟩ := okWide_struct hs hv
  obtain ⟨fuel, hf⟩ := h
  exact ⟨cs, rfl, trod_flat n hk hf⟩
theorem open_flat_array {H : Type} {enc : TypeId × Value → H} {P : Program} {w : World} {base : Nat} {spare : Nat → Bool} {held : Bool} {r : Reach} {b0 : Nat} {t e : TypeId} {m : Nat} {v : Value} {d : DataW H} {p : List MemPlace} (n : Nat) {ks : List FK}
    (hs : P.underlying t = some (.array m e)) (hk : flatT P n t = some ks) (hv : Value.okWide P w r b0 t v) (h : DataW.Trod enc P w base spare held t v d p) : ∃ cs : Array Value, v = .agg cs ∧ FlatIs w ks cs.toList := by
  simp only [Value.okWide, hs] at hv
  obtain ⟨cs, rfl, _⟩ := hv
  obtain ⟨fuel, hf⟩ := h
  exact ⟨cs, rfl, trod_flat n hk hf⟩
theorem open_flat_slice {H : Type} {enc : TypeId × Value → H} {P : Program} {w : World} {base : Nat} {spare : Nat → Bool} {held : Bool} {r : Reach} {b0 : Nat} {t e : TypeId} {v : Value} {d : DataW H} {p : List MemPlace} (n : Nat) {ks : List SK}
    (hs : P.underlying t = some (.slice e)) (hk : flatT P n t = some [.sl ks]) (hv : Value.okWide P w r b0 t v) (h : DataW.Trod enc P w base spare held t v d p) : ∃ rows, SlC w ks.length v rows ∧ ∀ r, r ∈ rows → FlatS ks r := by
  obtain ⟨a, len, cap, rfl⟩ := okWide_slice hs hv
  obtain ⟨fuel, hf⟩ := h
  exact (trod_flat n hk hf).1
theorem FlatIs.cons {w : World} {k : FK} {ks : List FK} {vs : List Value} (h : FlatIs w (k :: ks) vs) : ∃ v l, vs = v :: l ∧ k.is w v ∧ FlatIs w ks l := by
  cases vs with
  | nil => exact h.elim
  | cons v l => exact ⟨v, l, rfl, h.1, h.2⟩
theorem FlatIs.nil_ {w : World} {vs : List Value} (h : FlatIs w [] vs) : vs = [] := by
  cases vs with
  | nil => rfl
  | cons v l => exact h.elim
theorem FlatIs.int {w : World} {k : IntKind} {ks : List FK} {vs : List Value} (h : FlatIs w (.c (.i k) :: ks) vs) : ∃ x l, vs = .int k x :: l ∧ (k.min ≤ x ∧ x ≤ k.max) ∧ FlatIs w ks l := by
  obtain ⟨v, l, rfl, ⟨x, rfl, hx⟩, h'⟩ := h.cons
  exact ⟨x, l, rfl, hx, h'⟩
theorem FlatIs.bool {w : World} {ks : List FK} {vs : List Value} (h : FlatIs w (.c .b :: ks) vs) : ∃ x l, vs = .bool x :: l ∧ FlatIs w ks l := by
  obtain ⟨v, l, rfl, ⟨x, rfl⟩, h'⟩ := h.cons
  exact ⟨x, l, rfl, h'⟩
theorem FlatS.cons {k : SK} {ks : List SK} {vs : List Value} (h : FlatS (k :: ks) vs) : ∃ v l, vs = v :: l ∧ k.is v ∧ FlatS ks l := by
  cases vs with
  | nil => exact h.elim
  | cons v l => exact ⟨v, l, rfl, h.1, h.2⟩
theorem FlatS.nil_ {vs : List Value} (h : FlatS [] vs) : vs = [] := by
  cases vs with
  | nil => rfl
  | cons v l => exact h.elim
theorem FlatS.int {k : IntKind} {ks : List SK} {vs : List Value} (h : FlatS (.i k :: ks) vs) : ∃ x l, vs = .int k x :: l ∧ (k.min ≤ x ∧ x ≤ k.max) ∧ FlatS ks l := by
  obtain ⟨v, l, rfl, ⟨x, rfl, hx⟩, h'⟩ := h.cons
  exact ⟨x, l, rfl, hx, h'⟩
theorem FlatS.bool {ks : List SK} {vs : List Value} (h : FlatS (.b :: ks) vs) : ∃ x l, vs = .bool x :: l ∧ FlatS ks l := by
  obtain ⟨v, l, rfl, ⟨x, rfl⟩, h'⟩ := h.cons
  exact ⟨x, l, rfl, h'⟩
theorem array_of {α : Type} {cs : Array α} {l : List α} (h : cs.toList = l) : cs = l.toArray := by rw [← h]
/-- Rows as what they stand for. -/
theorem rows_as {α : Type} {ks : List SK} {enc : α → List Value} {Q : α → Prop} (hd : ∀ r, FlatS ks r → ∃ a, r = enc a ∧ Q a) : ∀ (rows : List (List Value)), (∀ r, r ∈ rows → FlatS ks r) → ∃ l : List α, rows = l.map enc ∧ ∀ a, a ∈ l → Q a
  | [], _ => ⟨[], rfl, by simp⟩
  | r :: rows, h => by
    obtain ⟨a, rfl, ha⟩ := hd r (h r (by simp))
    obtain ⟨l, rfl, hl⟩ := rows_as hd rows (fun r' h' => h r' (by simp [h']))
    exact ⟨a :: l, rfl, by simpa using ⟨ha, hl⟩⟩

end Go.Proofs.Ytjicpblncfgiaaa
