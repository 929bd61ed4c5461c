/-
  Region's reference: what lies in memory; its stores; New.
-/
import Derived.Test.YtjicpblncfgiaaaRgA
import Derived.Test.YtjicpblncfgiaaaMake
import Derived.Deep.RegionHeld3
namespace Go.Proofs.Ytjicpblncfgiaaa
set_option linter.unusedVariables false
set_option linter.unusedSimpArgs false
open Go.RowKit RgT
set_option maxHeartbeats 4000000
set_option maxRecDepth 100000
set_option linter.unusedVariables false
set_option linter.unusedSimpArgs false

/-- The policies' cells. -/
def polF (c : Nat → Int × Int) : Nat → Value := fun q => if q % 2 = 0 then .int .i64 (c (q / 2)).1 else .int .i64 (c (q / 2)).2
theorem polF_0 (c : Nat → Int × Int) (i : Nat) : polF c (i * 2) = .int .i64 (c i).1 := by
  unfold polF; rw [if_pos (by omega), show i * 2 / 2 = i by omega]
theorem polF_1 (c : Nat → Int × Int) (i : Nat) : polF c (i * 2 + 1) = .int .i64 (c i).2 := by
  unfold polF; rw [if_neg (by omega), show (i * 2 + 1) / 2 = i by omega]
/-- The reference's space: three rows of pages. -/
structure RefC (w : World) (rp bi bp bq : Nat) (nodes : Int) (a : Nat → Bool) (b : Nat → Int) (c : Nat → Int × Int) : Prop where
  head : Blk w rp [.int .i64 nodes, .slice (some ⟨bi, 0, none⟩) 4096 4096, .slice (some ⟨bp, 0, none⟩) 4096 4096, .slice (some ⟨bq, 0, none⟩) 4096 4096] 91
  is_ : Cells w bi 4096 (fun p => .bool (a p))
  perm : Cells w bp 4096 (fun p => .int .i64 (b p))
  pol : Cells w bq 8192 (polF c)
  d1 : rp ≠ bi ∧ rp ≠ bp ∧ rp ≠ bq
  d2 : bi ≠ bp ∧ bi ≠ bq ∧ bp ≠ bq
section
variable {w w' : World} {rp bi bp bq : Nat} {nodes : Int} {a : Nat → Bool} {b : Nat → Int} {c : Nat → Int × Int}
theorem RefC.ext {M : List Nat} (h : RefC w rp bi bp bq nodes a b c) (e : Ext M w w') (h0 : rp ∉ M) (h1 : bi ∉ M) (h2 : bp ∉ M) (h3 : bq ∉ M) : RefC w' rp bi bp bq nodes a b c :=
  ⟨h.head.ext e h0, h.is_.ext e h1, h.perm.ext e h2, h.pol.ext e h3, h.d1, h.d2⟩
theorem RefC.ext0 (h : RefC w rp bi bp bq nodes a b c) (e : Ext [] w w') : RefC w' rp bi bp bq nodes a b c := h.ext e (by simp) (by simp) (by simp) (by simp)
theorem RefC.congr {a' : Nat → Bool} {b' : Nat → Int} {c' : Nat → Int × Int} (h : RefC w rp bi bp bq nodes a b c) (e1 : ∀ p, a p = a' p) (e2 : ∀ p, b p = b' p) (e3 : ∀ p, c p = c' p) : RefC w rp bi bp bq nodes a' b' c' := by
  obtain rfl : a = a' := funext e1
  obtain rfl : b = b' := funext e2
  obtain rfl : c = c' := funext e3
  exact h
theorem RefC.setI (h : RefC w rp bi bp bq nodes a b c) {p : Nat} (hp : p < 4096) (v : Bool) : RefC (w.setCell ⟨bi, p, none⟩ (.bool v)) rp bi bp bq nodes (upd a p v) b c :=
  ⟨h.head.set_ne _ (by simpa using h.d1.1), (h.is_.set hp _).congr (fun k hk => by unfold upd; split <;> rfl), h.perm.set_ne (by simpa using h.d2.1) _, h.pol.set_ne (by simpa using h.d2.2.1) _, h.d1, h.d2⟩
theorem RefC.setP (h : RefC w rp bi bp bq nodes a b c) {p : Nat} (hp : p < 4096) (v : Int) : RefC (w.setCell ⟨bp, p, none⟩ (.int .i64 v)) rp bi bp bq nodes a (upd b p v) c :=
  ⟨h.head.set_ne _ (by simpa using h.d1.2.1), h.is_.set_ne (by simpa using h.d2.1.symm) _, (h.perm.set hp _).congr (fun k hk => by unfold upd; split <;> rfl), h.pol.set_ne (by simpa using h.d2.2.2) _, h.d1, h.d2⟩
theorem RefC.setQ (h : RefC w rp bi bp bq nodes a b c) {p : Nat} (hp : p < 4096) (k n : Int) : RefC ((w.setCell ⟨bq, p * 2, none⟩ (.int .i64 k)).setCell ⟨bq, p * 2 + 1, none⟩ (.int .i64 n)) rp bi bp bq nodes a b (upd c p (k, n)) :=
  ⟨(h.head.set_ne _ (by simpa using h.d1.2.2)).set_ne _ (by simpa using h.d1.2.2), (h.is_.set_ne (by simpa using h.d2.2.1.symm) _).set_ne (by simpa using h.d2.2.1.symm) _, (h.perm.set_ne (by simpa using h.d2.2.2.symm) _).set_ne (by simpa using h.d2.2.2.symm) _,
   ((h.pol.set (j := p * 2) (by omega) _).set (j := p * 2 + 1) (by omega) _).congr (fun q hq => by
    unfold upd polF
    dsimp only
    by_cases e1 : q = p * 2 + 1
    · rw [if_pos e1, if_neg (by omega), if_pos (by omega)]
    · rw [if_neg e1]
      by_cases e2 : q = p * 2
      · rw [if_pos e2, if_pos (by omega), if_pos (by omega)]
      · rw [if_neg e2]
        by_cases e3 : q % 2 = 0
        · rw [if_pos e3, if_pos e3, if_neg (by omega)]
        · rw [if_neg e3, if_neg e3, if_neg (by omega)]), h.d1, h.d2⟩
end
def isB (f : Nat → Option U) : Nat → Bool := fun p => (f p).isSome
def pmI (f : Nat → Option U) : Nat → Int := fun p => ((f p).getD (0, 0, 0)).1
def plI (f : Nat → Option U) : Nat → Int × Int := fun p => ((f p).getD (0, 0, 0)).2
/-- The reference's space tells of each page this. -/
abbrev RefIs (w : World) (rp bi bp bq : Nat) (nodes : Int) (f : Nat → Option U) : Prop := RefC w rp bi bp bq nodes (isB f) (pmI f) (plI f)

/-- Four blocks, one behind the other. -/
theorem four4 (w : World) (o1 o2 o3 o4 : Obj) : (((((w.alloc o1).alloc o2).alloc o3).alloc o4).drew).heap[w.heap.size + 1 + 1 + 1]? = some o4 := by
  have h := World.alloc_heap_new (((w.alloc o1).alloc o2).alloc o3) o4
  simp only [World.size_alloc] at h
  exact h
theorem four3 (w : World) (o1 o2 o3 o4 : Obj) : (((((w.alloc o1).alloc o2).alloc o3).alloc o4).drew).heap[w.heap.size + 1 + 1]? = some o3 := by
  have h := World.alloc_heap_new ((w.alloc o1).alloc o2) o3
  simp only [World.size_alloc] at h
  exact (Below.heap_alloc _ _ _ (by simp only [World.size_alloc]; omega)).trans h
theorem four2 (w : World) (o1 o2 o3 o4 : Obj) : (((((w.alloc o1).alloc o2).alloc o3).alloc o4).drew).heap[w.heap.size + 1]? = some o2 := by
  have h := World.alloc_heap_new (w.alloc o1) o2
  simp only [World.size_alloc] at h
  exact (Below.heap_alloc _ _ _ (by simp only [World.size_alloc]; omega)).trans ((Below.heap_alloc _ _ _ (by simp only [World.size_alloc]; omega)).trans h)
theorem four1 (w : World) (o1 o2 o3 o4 : Obj) : (((((w.alloc o1).alloc o2).alloc o3).alloc o4).drew).heap[w.heap.size]? = some o1 :=
  (Below.heap_alloc _ _ _ (by simp only [World.size_alloc]; omega)).trans ((Below.heap_alloc _ _ _ (by simp only [World.size_alloc]; omega)).trans ((Below.heap_alloc _ _ _ (by simp only [World.size_alloc]; omega)).trans (World.alloc_heap_new w o1)))
theorem Cells.of_made {w : World} {b m : Nat} {z : Array Value} {t : TypeId} (h : w.heap[b]? = some (.cells (madeCells z m) t (0, 0))) : Cells w b m (fun k => z[k % z.size]!) :=
  ⟨heap_lt h, fun k hk => ⟨by simp [World.cell?, h, madeCells_at z hk], by simp [World.frozen?, h]⟩⟩
theorem zI {w : World} {b : Nat} {t : TypeId} (h : w.heap[b]? = some (.cells (madeCells #[.bool false] 4096) t (0, 0))) : Cells w b 4096 (fun p => .bool (isB (fun _ => none) p)) :=
  (Cells.of_made h).congr fun k hk => by have : k % (#[Value.bool false] : Array Value).size = 0 := by simp [Nat.mod_one]
                                         rw [this]; rfl
theorem zP {w : World} {b : Nat} {t : TypeId} (h : w.heap[b]? = some (.cells (madeCells #[.int .i64 0] 4096) t (0, 0))) : Cells w b 4096 (fun p => .int .i64 (pmI (fun _ => none) p)) :=
  (Cells.of_made h).congr fun k hk => by have : k % (#[Value.int .i64 0] : Array Value).size = 0 := by simp [Nat.mod_one]
                                         rw [this]; rfl
theorem zQ {w : World} {b : Nat} {t : TypeId} (h : w.heap[b]? = some (.cells (madeCells #[.int .i64 0, .int .i64 0] 8192) t (0, 0))) : Cells w b 8192 (polF (plI (fun _ => none))) :=
  (Cells.of_made h).congr fun k hk => by
    unfold polF
    have e : k % (#[Value.int .i64 0, Value.int .i64 0] : Array Value).size = k % 2 := rfl
    rw [e]
    rcases Nat.mod_two_eq_zero_or_one k with e | e
    · rw [e, if_pos rfl]; rfl
    · rw [e, if_neg (by omega)]; rfl

theorem rnew_bad (nodes : Int) (w : World) (h : nodes < 1 ∨ 8 < nodes) : Calls Try.prog 36 #[.int .i64 nodes] w fun e w' => e = .returned (.tuple #[.pointer none, .int .i64 1]) ∧ w = w' := by
  rcases h with h | h
  · go_enter Try.func36, Try.ntmps36
    go_wp2
    go_ret2
    exact ⟨rfl, rfl⟩
  · have h1 : 1 ≤ nodes := by omega
    go_enter Try.func36, Try.ntmps36
    go_wp2
    go_ret2
    exact ⟨rfl, rfl⟩
/-- A new one. -/
def RNew9 (w : World) (nodes : Int) (e : Ending) (w' : World) : Prop :=
  ∃ rp bi bp bq, e = .returned (.tuple #[.pointer (some ⟨rp, 0, none⟩), .int .i64 0]) ∧ Ext [] w w' ∧ RefIs w' rp bi bp bq nodes (fun _ => none) ∧ w.heap.size ≤ rp ∧ w.heap.size ≤ bi ∧ w.heap.size ≤ bp ∧ w.heap.size ≤ bq
theorem rnew_is (nodes : Int) (w : World) (h1 : 1 ≤ nodes) (h8 : nodes ≤ 8) : Calls Try.prog 36 #[.int .i64 nodes] w (RNew9 w nodes) := by
  have m1 : ∀ w : World, (Instr.makeSlice 88 (.int .i64 4096) (.int .i64 4096)).run Try.prog w = .ok (.slice (some ⟨w.heap.size, 0, none⟩) 4096 4096) (w.alloc (.cells (madeCells #[.bool false] 4096) 4)) :=
    mk_of (size := 1) (bytes := 1) (z := .bool false) Try.underlying88 (by kernel_rfl) 4096 (by omega) (by omega)
  have m2 : ∀ w : World, (Instr.makeSlice 66 (.int .i64 4096) (.int .i64 4096)).run Try.prog w = .ok (.slice (some ⟨w.heap.size, 0, none⟩) 4096 4096) (w.alloc (.cells (madeCells #[.int .i64 0] 4096) 3)) :=
    mk_of (size := 1) (bytes := 8) (z := .int .i64 0) Try.underlying66 (by kernel_rfl) 4096 (by omega) (by omega)
  have m3 : ∀ w : World, (Instr.makeSlice 89 (.int .i64 4096) (.int .i64 4096)).run Try.prog w = .ok (.slice (some ⟨w.heap.size, 0, none⟩) 4096 4096) (w.alloc (.cells (madeCells #[.int .i64 0, .int .i64 0] 8192) 35)) :=
    mk_of (size := 2) (bytes := 16) (z := .agg #[.int .i64 0, .int .i64 0]) Try.underlying89 (by kernel_rfl) 4096 (by omega) (by omega)
  go_enter Try.func36, Try.ntmps36
  go_wp2
  go_region_with (fail)
  all_goals
    go_wp2
  all_goals
    go_ret2
    refine ⟨_, _, _, _, rfl, ?_, ⟨four4 _ _ _ _ _, ?_, ?_, ?_, ?_, ?_⟩, ?_, ?_, ?_, ?_⟩
    · exact (((((Ext.refl _ _).alloc _).alloc _).alloc _).alloc _).drew
    · first | exact zI (four1 _ _ _ _ _) | exact zI (four2 _ _ _ _ _) | exact zI (four3 _ _ _ _ _)
    · first | exact zP (four1 _ _ _ _ _) | exact zP (four2 _ _ _ _ _) | exact zP (four3 _ _ _ _ _)
    · first | exact zQ (four1 _ _ _ _ _) | exact zQ (four2 _ _ _ _ _) | exact zQ (four3 _ _ _ _ _)
    all_goals omega

end Go.Proofs.Ytjicpblncfgiaaa
