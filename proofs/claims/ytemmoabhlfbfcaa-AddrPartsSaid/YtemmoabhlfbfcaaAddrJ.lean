/-
  Walks: parts of ranges, cut at huge pages: the iterator, the reference's list; the law AddrParts.
-/
import Derived.Test.YtemmoabhlfbfcaaAddrH
namespace Go.Proofs.Ytemmoabhlfbfcaa
set_option linter.unusedVariables false
set_option linter.unusedSimpArgs false
open Go.RowKit
set_option maxHeartbeats 400000
set_option maxRecDepth 100000

/-- Does a part begin at page k? -/
def stB (lo k : Nat) : Bool := decide (lo ≤ k) && (decide (k = lo) || decide (k % 8 = 0))
def partN (hi s : Nat) : Nat := min (8 - s % 8) (hi - s)
def partsL (lo hi : Nat) : List (Nat × Nat) := (upto (stB lo) hi).map fun s => (s, partN hi s)
def encP (l : List (Nat × Nat)) : List Value := l.flatMap fun x => [.int .i64 ((x.1 : Nat) : Int), .int .i64 ((x.2 : Nat) : Int)]
def pairs (l : List (Nat × Nat)) : List (Array Value) := l.map fun x => #[.int .i64 ((x.1 : Nat) : Int), .int .i64 ((x.2 : Nat) : Int)]

theorem mem_upto {p : Nat → Bool} {k s : Nat} : s ∈ upto p k ↔ s < k ∧ p s = true := by simp [upto]

theorem parts_new {lo p : Nat} (h : stB lo p = true) : partsL lo (p + 1) = partsL lo p ++ [(p, 1)] := by
  unfold partsL
  rw [upto_succ, if_pos h, List.map_append]
  have h' : lo ≤ p ∧ (p = lo ∨ p % 8 = 0) := by simpa [stB] using h
  congr 1
  · apply List.map_congr_left
    intro s hs
    have hs' := (mem_upto.1 hs)
    have h2 : lo ≤ s ∧ (s = lo ∨ s % 8 = 0) := by simpa [stB] using hs'.2
    have : partN (p + 1) s = partN p s := by unfold partN; omega
    rw [this]
  · simp only [List.map_cons, List.map_nil, partN]
    rw [show min (8 - p % 8) (p + 1 - p) = 1 by omega]

theorem upto_last {lo p : Nat} (hlo : lo < p) (h : stB lo p = false) : ∃ s, upto (stB lo) p = upto (stB lo) s ++ [s] ∧ s < p ∧ stB lo s = true ∧ p < s + (8 - s % 8) := by
  have h' : ¬ (p = lo ∨ p % 8 = 0) := by
    intro h1; simp [stB] at h; exact (h (by omega)).elim (fun a b => h1.elim a b)
  refine ⟨max lo (p - p % 8), ?_, by omega, by simp [stB]; omega, by omega⟩
  have hs : stB lo (max lo (p - p % 8)) = true := by simp [stB]; omega
  rw [upto_same (stB lo) (max lo (p - p % 8) + 1) p (by omega) (fun i h1 h2 => by simp [stB]; omega), upto_succ, if_pos hs]

theorem parts_more {lo p : Nat} (hlo : lo < p) (h : stB lo p = false) : ∃ l s n, partsL lo p = l ++ [(s, n)] ∧ partsL lo (p + 1) = l ++ [(s, n + 1)] ∧ n < 8 := by
  obtain ⟨s, he, hs, hst, hp⟩ := upto_last hlo h
  refine ⟨(upto (stB lo) s).map (fun k => (k, partN p k)), s, partN p s, ?_, ?_, by unfold partN; omega⟩
  · unfold partsL; rw [he, List.map_append]; rfl
  · unfold partsL; rw [upto_succ, if_neg (by simp [h]), he, List.map_append]
    congr 1
    · apply List.map_congr_left
      intro k hk
      have hk' := (mem_upto.1 hk)
      have h2 : lo ≤ k ∧ (k = lo ∨ k % 8 = 0) := by simpa [stB] using hk'.2
      have h3 : lo ≤ s ∧ (s = lo ∨ s % 8 = 0) := by simpa [stB] using hst
      have : partN (p + 1) k = partN p k := by unfold partN; omega
      rw [this]
    · simp only [List.map_cons, List.map_nil, partN]
      rw [show min (8 - s % 8) (p + 1 - s) = min (8 - s % 8) (p - s) + 1 by omega]

theorem parts_at {lo hi p : Nat} (h : stB lo p = true) (hp : p < hi) : (partsL lo hi)[(upto (stB lo) p).length]? = some (p, partN hi p) := by
  unfold partsL; rw [List.getElem?_map, upto_at _ h hp]; rfl
theorem parts_next {lo hi p : Nat} (h : stB lo p = true) (hp : p < hi) : upto (stB lo) (p + partN hi p) = upto (stB lo) p ++ [p] := by
  have h' : lo ≤ p ∧ (p = lo ∨ p % 8 = 0) := by simpa [stB] using h
  have hn : 1 ≤ partN hi p := by unfold partN; omega
  rw [upto_same (stB lo) (p + 1) (p + partN hi p) (by omega) (fun i h1 h2 => by unfold partN at h2; simp [stB]; omega), upto_succ, if_pos h]
theorem parts_st {lo hi p : Nat} (h : stB lo p = true) (hp : p < hi) : stB lo (p + partN hi p) = true ∨ p + partN hi p = hi := by
  have h' : lo ≤ p ∧ (p = lo ∨ p % 8 = 0) := by simpa [stB] using h
  unfold partN
  rcases Nat.lt_or_ge (hi - p) (8 - p % 8) with h2 | h2
  · right; omega
  · left; simp [stB]; omega
theorem parts_len (lo hi : Nat) : (partsL lo hi).length = (upto (stB lo) hi).length := by simp [partsL]

theorem parts1 (Bf Bt : Nat) (from_ to : Int) (lo hi : Nat) (hlo : (lo : Int) = max from_ 0) (hhi : hi = (min to 4096).toNat) (w0 : World) (hf : Blk w0 Bf [.int .i64 from_] 3) (ht : Blk w0 Bt [.int .i64 to] 3) :
    Iter Try.prog 54 #[.pointer (some ⟨Bt, 0, none⟩), .pointer (some ⟨Bf, 0, none⟩)] [Bf, Bt] (pairs (partsL lo hi)) w0 := by
  intro n l M J Jx W hn hs hK hM fJ fJx hY h0
  refine callsIn_of_wp Try.func54 rfl trivial ?_ rfl
  simp only [Try.ntmps54, List.size_toArray, List.length_cons, List.length_nil, Nat.reduceAdd, Nat.reduceSub, Array.replicate_succ, Array.replicate_zero, List.push_toArray, List.append_toArray, List.nil_append, List.cons_append]
  have hcf := ((It.refl M W).blk hK hM (by simp) hf).cell 0
  have hct := ((It.refl M W).blk hK hM (by simp) ht).cell 0
  gi_wp2
  have hmx : mxI from_ 0 = (lo : Int) := hlo.symm
  have hmn : mnI to 4096 = min to 4096 := rfl
  rw [hmx]
  generalize mnI to 4096 = q at *
  have hq : (q ≤ hi ∧ 0 < hi → q = hi) := by omega
  have hq2 : q ≤ 4096 := by omega
  have Hq := Lib.hid (show ∀ k : Nat, (k : Int) < q ↔ k < hi by intro k; omega)
  have hhi2 : hi ≤ 4096 := by omega
  have Hlo := Lib.hid hlo
  clear hmx hmn hhi hcf hct hq hlo
  gi_loopw [5] (fun v wr => ∃ (p : Nat) (X : List Nat), (p = lo ∨ (lo ≤ p ∧ p ≤ hi)) ∧ (stB lo p = true ∨ p = hi) ∧ v = .int .i64 p ∧ J (upto (stB lo) p).length X wr ∧ It M X W wr) (fun v _ => hi - (intOf v).toNat)
  case atStart => exact ⟨lo, [], .inl rfl, .inl (by simp [stB]), rfl, by rw [upto_same _ 0 lo (by omega) (fun i _ h => by simp [stB]; omega)]; exact h0, It.refl _ _⟩
  case round =>
    obtain ⟨p, X, hp1, hp2, rfl, hJ, hit⟩ := hrel
    by_cases hlt : p < hi
    · have hst : stB lo p = true := hp2.resolve_right (by omega)
      have hltq : (p : Int) < q := (Hq.out p).2 hlt
      have hql : q = hi := by have h1 := (Hq.out hi); have h2 := Hq.out (hi - 1); omega
      subst hql
      obtain ⟨fn, tmps, assign, body, hy, hR⟩ := yield_at (a := #[.int .i64 p, .int .i64 (partN hi p : Nat)]) (by unfold pairs; rw [List.getElem?_map, parts_at hst hlt]; rfl) (fun h => hY _ h X wr hJ hit.ext hit.new)
      have Hn := Lib.hid (parts_next hst hlt)
      have Hs := Lib.hid (parts_st hst hlt)
      have hmn : mnI (8 - (p : Int) % 8) ((hi : Int) - p) = (partN hi p : Nat) := by unfold mnI partN; omega
      have hpn : 1 ≤ partN hi p ∧ partN hi p ≤ hi - p := by unfold partN; omega
      have Hst := Lib.hid hst
      have Hlen := Lib.hid (show (upto (stB lo) p).length + 1 ≤ (pairs (partsL lo hi)).length by
        have := (List.getElem?_eq_some_iff.1 (parts_at hst hlt)).1; simp only [pairs, List.length_map]; omega)
      clear hK hM fJ fJx hY hJ hst hp2 Hq hq2
      generalize partN hi p = m at *
      gi_wp2
      refine hR.mono ?_
      clear hR hy
      rintro e W' ⟨hx', X', hX', (⟨rfl, hJ'⟩ | ⟨rfl, hJ'⟩)⟩
      · gi_wp2
        go_roundw
        case rel => exact ⟨p + m, X', by omega, Hs.out, int_eq (by simp), by rw [Hn.out]; simpa using hJ', hit.yield hx' hX'⟩
        case measure => simp [intOf]; omega
      · gi_wp2
        refine bodyPost_ret (results_none rfl _ _ _) rfl ?_
        exact ⟨⟨_, rfl⟩, (hit.yield hx' hX').ext, X', (hit.yield hx' hX').new, .inr ⟨_, Hlen.out, hJ'⟩⟩
    · have hltq : ¬ (p : Int) < q := fun h => hlt ((Hq.out p).1 h)
      have He := Lib.hid (show (pairs (partsL lo hi)).length = (upto (stB lo) p).length by
        simp only [pairs, List.length_map, parts_len]
        rcases hp1 with rfl | hp1
        · rw [upto_same _ 0 hi (by omega) (fun i _ h => by simp [stB]; omega), upto_same _ 0 p (by omega) (fun i _ h => by simp [stB]; omega)]
        · rw [show p = hi by omega])
      clear hK hM fJ fJx hY Hq
      gi_wp2
      go_end0
      exact ⟨⟨_, rfl⟩, hit.ext, X, hit.new, .inl (by rw [He.out]; exact hJ)⟩

theorem parts_c (from_ to : Int) (w : World) :
    Calls Try.prog 30 #[.int .i64 from_, .int .i64 to] w fun e w' => e = .returned (.func (.func 54) #[] #[.pointer (some ⟨w.heap.size + 1, 0, none⟩), .pointer (some ⟨w.heap.size, 0, none⟩)]) ∧
      w' = (w.alloc (.cells #[.int .i64 from_] 3)).alloc (.cells #[.int .i64 to] 3) := by
  go_enter Try.func30, Try.ntmps30
  go_wp2
  go_ret
  exact ⟨rfl, rfl⟩
theorem parts_it (from_ to : Int) (lo hi : Nat) (hlo : (lo : Int) = max from_ 0) (hhi : hi = (min to 4096).toNat) (w : World) :
    Iter Try.prog 54 #[.pointer (some ⟨w.heap.size + 1, 0, none⟩), .pointer (some ⟨w.heap.size, 0, none⟩)] [w.heap.size, w.heap.size + 1] (pairs (partsL lo hi))
    ((w.alloc (.cells #[.int .i64 from_] 3)).alloc (.cells #[.int .i64 to] 3)) :=
  parts1 _ _ _ _ lo hi hlo hhi _ ((Blk.new w [.int .i64 from_] 3).alloc _) (by have := Blk.new (w.alloc (.cells #[.int .i64 from_] 3)) [.int .i64 to] 3; rwa [World.size_alloc] at this)

theorem T_part : SlT Try.prog 48 51 (.agg #[.int .i64 0, .int .i64 0]) 2 16 := ⟨Try.underlying48, by kernel_rfl, rfl, by decide⟩

/-- The pages of a range, one by one. -/
theorem pagesL_get {from_ to : Int} {lo hi i : Nat} (hlo : (lo : Int) = max from_ 0) (hhi : hi = (min to 4096).toNat) (hi' : i < (pagesL from_ to).length) : (pagesL from_ to)[i]? = some (lo + i) ∧ lo + i < hi := by
  have hlen : ∀ k, lo ≤ k → k ≤ hi → (upto (inR from_ to) k).length = k - lo := by
    intro k
    induction k with
    | zero => intro h1 _; obtain rfl : lo = 0 := by omega
              rfl
    | succ k ih =>
      intro h1 h2
      rcases Nat.lt_or_ge k lo with h | h
      · obtain rfl : lo = k + 1 := by omega
        rw [upto_same _ 0 (k + 1) (by omega) (fun i _ h => by simp [inR]; omega)]; simp [upto]
      · rw [inR_step (by omega) (by omega)]; simp [ih h (by omega)]; omega
  have ht : (pagesL from_ to).length = hi - lo := by
    rcases Nat.lt_or_ge hi lo with h | h
    · unfold pagesL
      rw [upto_same _ 0 NP (by omega) (fun i _ h => by unfold NP at h; simp [inR]; omega)]; simp [upto]; omega
    · unfold pagesL
      rw [upto_same _ hi NP (by unfold NP; omega) (fun i h1 h2 => by unfold NP at h2; simp [inR]; omega)]
      exact hlen hi h (Nat.le_refl _)
  have h1 : lo + i < hi := by omega
  refine ⟨?_, h1⟩
  have := pagesL_at (from_ := from_) (to := to) (k := lo + i) (by omega) (by omega) (by omega)
  rwa [hlen (lo + i) (by omega) (by omega), show lo + i - lo = i by omega] at this

def RetP (B : Nat) (L : List (Nat × Nat)) (w : World) (e : Ending) (w' : World) : Prop :=
  ∃ v, e = .returned v ∧ w'.ownsRow B 51 2 v L.length (encP L) ∧ Ext [] w w'
theorem encP_append (l : List (Nat × Nat)) (a b : Nat) : encP (l ++ [(a, b)]) = encP l ++ [.int .i64 (a : Int), .int .i64 (b : Int)] := by simp [encP]
theorem encP_length (l : List (Nat × Nat)) : (encP l).length = l.length * 2 := by induction l with
  | nil => rfl
  | cons x l ih => simp [encP] at ih ⊢; omega

theorem rparts_c (from_ to : Int) (lo hi : Nat) (hlo : (lo : Int) = max from_ 0) (hhi : hi = (min to 4096).toNat) (w : World) :
    Calls Try.prog 31 #[.int .i64 from_, .int .i64 to] w (RetP w.heap.size (partsL lo hi) w) := by
  have hg := fun i h => pagesL_get (i := i) hlo hhi h
  have hL := pagesL_le from_ to
  have Hr := Lib.hid (fun w => rpages_c from_ to w)
  have hlen : (pagesL from_ to).length = hi - lo := by
    have h1 := fun i h => (hg i h).2
    rcases Nat.eq_zero_or_pos (pagesL from_ to).length with h | h
    · rw [h]
      rcases Nat.lt_or_ge lo hi with h2 | h2
      · have := pagesL_at (from_ := from_) (to := to) (k := lo) (by omega) (by omega) (by omega)
        have := (List.getElem?_eq_some_iff.1 this).1; omega
      · omega
    · have h2 := h1 ((pagesL from_ to).length - 1) (by omega)
      rcases Nat.lt_or_ge (lo + (pagesL from_ to).length) hi with h3 | h3
      · have h4 := pagesL_at (from_ := from_) (to := to) (k := lo + (pagesL from_ to).length) (by omega) (by omega) (by omega)
        have h5 := (List.getElem?_eq_some_iff.1 h4)
        obtain ⟨h6, h7⟩ := h5
        have h8 := (hg _ h6).1
        rw [h4] at h8
        simp at h8
        omega
      · omega
  generalize pagesL from_ to = L at *
  have Hg := Lib.hid hg
  have Hlen := Lib.hid hlen
  have hhi2 : hi ≤ 4096 := by omega
  clear hg hlen hlo hhi
  go_enter Try.func31, Try.ntmps31
  go_wp2_with (go_at_call 24; refine (Hr.out _).mono ?_; rintro e w2 ⟨v, rfl, hown, hx⟩; obtain ⟨va, vc, rfl, hvc, hvm⟩ := ownsRow_form hown)
  have HX := Lib.hid hx
  have HO := Lib.hid (Sl.of_own hown)
  clear hx hown
  go_loopw [5, 7] (fun v i wr => ∃ k : Nat, k ≤ L.length ∧ i = .int .i64 k ∧ wr.ownsRow w2.heap.size 51 2 v (partsL lo (lo + k)).length (encP (partsL lo (lo + k))) ∧ Ext [] w2 wr) (fun _ i _ => L.length - (intOf i).toNat)
  case atStart => exact ⟨0, by omega, rfl, by rw [show partsL lo (lo + 0) = [] by unfold partsL; rw [upto_same _ 0 (lo + 0) (by omega) (fun i _ h => by simp [stB]; omega)]; rfl]; exact World.ownsRow_nil _ _ _ _, Ext.refl _ _⟩
  case round =>
    obtain ⟨k, hk, rfl, ho, hx⟩ := hrel
    by_cases hlt : k < L.length
    · have hs := HO.out.ext hx (by simp)
      obtain ⟨a', n', c', he, _, _, _, hcell⟩ := hs.form
      cases he
      obtain ⟨b, o, rfl, hb, hcell⟩ := hcell (by omega)
      have hck := hcell k (by omega)
      rw [encN_get, (Hg.out k hlt).1] at hck
      simp only [Option.map_some] at hck
      have hpl : (partsL lo (lo + k)).length ≤ lo + k := by rw [parts_len]; exact upto_le _ _
      have hlk := (Hg.out k hlt).2
      have hk0 : (0 : Int) ≤ k := by omega
      have hk1 : (k : Int) < L.length := by omega
      have hsz := hx.size
      clear hcell hs
      have hkz : (lo + k = lo) ↔ k = 0 := by omega
      have Hnew := Lib.hid (show stB lo (lo + k) = true → partsL lo (lo + k + 1) = partsL lo (lo + k) ++ [(lo + k, 1)] from parts_new)
      have Hmore := Lib.hid (show k ≠ 0 → stB lo (lo + k) = false → _ from fun h => parts_more (lo := lo) (p := lo + k) (by omega))
      have Hst := Lib.hid (show stB lo (lo + k) = (decide (k = 0) || decide ((lo + k) % 8 = 0)) by simp [stB])
      have Hk1 := Lib.hid (show lo + (k + 1) = lo + k + 1 from rfl)
      have hpb : lo + k < 4096 := by omega
      generalize lo + k = p at *
      clear hkz
      by_cases hz : ((k : Int) == 0) = true ∨ ((p : Int) % 8 == 0) = true
      · have hst : stB lo p = true := by rw [Hst.out]; simp at hz ⊢; omega
        have Hn := Lib.hid (Hnew.out hst)
        clear hst Hmore
        generalize partsL lo p = ps at *
        have hT := T_part
        have hz' : ((k : Int) == 0) = true ∨ (((k : Int) == 0) = false ∧ ((p : Int) % 8 == 0) = true) := by
          rcases Bool.eq_false_or_eq_true ((k : Int) == 0) with h | h
          · exact .inl h
          · exact .inr ⟨h, hz.resolve_left (by simp [h])⟩
        clear hz
        rcases hz' with hz | ⟨hz, hz2⟩
        all_goals
          go_wp2_with (at_builtin; refine wpList_app hT (ownsRow_ext ho ((Ext.refl [] _).alloc _) (by simp)) (Sl.lit wr 2 1 [.int .i64 (p : Int), .int .i64 0] 51 (by decide) rfl) rfl rfl rfl rfl rfl (by simp [Value.oneCell']) (by unfold maxLen; omega) (by omega) (by simp; omega) ?_; intro v' w' hown' hext' hnew'; obtain ⟨g', vc', rfl⟩ := ownsRow_succ hown'; have hc1 := hown'.cellAt (ps.length * 2 + 1) (by omega); rw [List.getElem?_append_right (by rw [encP_length]; omega), encP_length, Nat.add_sub_cancel_left] at hc1; have hf1 := hown'.frozenAt (ps.length * 2 + 1); have hvc' := (ownsRow_form hown'))
          go_roundw
          case rel =>
            refine ⟨k + 1, by omega, by go_num, ?_, ?_⟩
            · rw [Hk1.out, Hn.out]
              have := (hown'.stored (ps.length * 2 + 1) (.int .i64 1)).1
              rw [show (encP ps ++ [Value.int IntKind.i64 (p : Int), Value.int IntKind.i64 0]).set (ps.length * 2 + 1) (.int .i64 1) = encP (ps ++ [(p, 1)]) by
                rw [encP_append, List.set_append_right _ _ (by rw [encP_length]; omega), encP_length, Nat.add_sub_cancel_left]; rfl] at this
              simpa using this
            · refine (((hx.alloc _).step hext' (fun i hi => .inr (ho.lt i (of_mem_own hi)).1))).setCell _ _ (.inr ?_)
              exact (hown'.lt g' rfl).1
          case measure => simp [intOf]; omega
      · have hz0 : ((k : Int) == 0) = false := by simpa using (fun h => hz (.inl h))
        have hz2 : ((p : Int) % 8 == 0) = false := by simpa using (fun h => hz (.inr h))
        have hst : stB lo p = false := by rw [Hst.out]; simp at hz0 hz2 ⊢; omega
        obtain ⟨l, s, m, e1, e2, hm8⟩ := Hmore.out (by simp at hz0; omega) hst
        have E2 := Lib.hid e2
        rw [e1] at ho hpl
        have hl1 : (l ++ [(s, m)]).length = l.length + 1 := by simp
        rw [hl1] at ho hpl
        obtain ⟨g', vc', rfl⟩ := ownsRow_succ ho
        have hc1 := ho.cellAt (l.length * 2 + 1) (by omega)
        rw [encP_append, List.getElem?_append_right (by rw [encP_length]; omega), encP_length, Nat.add_sub_cancel_left] at hc1
        have hf1 := ho.frozenAt (l.length * 2 + 1)
        have Ho := Lib.hid ho
        clear hz hst e1 e2 Hst Hnew Hmore hl1 ho
        go_wp2
        go_roundw
        case rel =>
          refine ⟨k + 1, by omega, by go_num, ?_, ?_⟩
          · rw [Hk1.out, E2.out]
            have := (Ho.out.stored (l.length * 2 + 1) (.int .i64 ((m : Int) + 1))).1
            rw [show (encP (l ++ [(s, m)])).set (l.length * 2 + 1) (.int .i64 ((m : Int) + 1)) = encP (l ++ [(s, m + 1)]) by
              rw [encP_append, encP_append, List.set_append_right _ _ (by rw [encP_length]; omega), encP_length, Nat.add_sub_cancel_left]; rfl] at this
            simpa using this
          · exact hx.setCell _ _ (.inr (Ho.out.lt g' rfl).1)
        case measure => simp [intOf]; omega
    · obtain rfl : k = L.length := by omega
      have Hf := Lib.hid (show partsL lo (lo + L.length) = partsL lo hi by
        have := Hlen.out
        rcases Nat.lt_or_ge hi lo with h | h
        · unfold partsL; rw [upto_same _ 0 (lo + L.length) (by omega) (fun i _ h => by simp [stB]; omega), upto_same _ 0 hi (by omega) (fun i _ h => by simp [stB]; omega)]; rfl
        · rw [show lo + L.length = hi by omega])
      go_wp2
      go_ret
      exact ⟨_, rfl, by rw [← Hf.out]; exact ownsRow_base ho HX.out.size, HX.out.trans hx⟩

end Go.Proofs.Ytemmoabhlfbfcaa
