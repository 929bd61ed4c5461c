/-
  Blocks whose cells a function tells: reads, writes, growth; what a made slice holds.
-/
import Derived.Test.YtjicpblncfgiaaaBase
import Derived.Laws.MakeOwn
import Derived.Laws.World
import Derived.Laws.NewBlocks
import Derived.Laws.IdiomCopy
import Derived.Lib.SliceRun
namespace Go.Proofs.Ytjicpblncfgiaaa
set_option linter.unusedVariables false
set_option linter.unusedSimpArgs false
open Go.RowKit

/-- Block b has (at least) n cells, and these are f's; none is a string's. -/
def Cells (w : World) (b n : Nat) (f : Nat → Value) : Prop := b < w.heap.size ∧ ∀ k, k < n → w.cell? ⟨b, k, none⟩ = some (f k) ∧ w.frozen? ⟨b, k, none⟩ = false

def upd {α : Type} (f : Nat → α) (j : Nat) (u : α) : Nat → α := fun k => if k = j then u else f k
theorem upd_at {α : Type} (f : Nat → α) (j : Nat) (u : α) : upd f j u j = u := by simp [upd]
theorem upd_ne {α : Type} (f : Nat → α) {j k : Nat} (u : α) (h : k ≠ j) : upd f j u k = f k := by simp [upd, h]

section
variable {w w' : World} {b n : Nat} {f g : Nat → Value}
theorem Cells.lt (h : Cells w b n f) : b < w.heap.size := h.1
theorem Cells.cell (h : Cells w b n f) {k : Nat} (hk : k < n) : w.cell? ⟨b, k, none⟩ = some (f k) := (h.2 k hk).1
theorem Cells.fr (h : Cells w b n f) {k : Nat} (hk : k < n) : w.frozen? ⟨b, k, none⟩ = false := (h.2 k hk).2
theorem Cells.ext {M : List Nat} (h : Cells w b n f) (e : Ext M w w') (hm : b ∉ M) : Cells w' b n f :=
  ⟨Nat.lt_of_lt_of_le h.1 e.size, fun k hk => ⟨(e.cell h.1 hm).trans (h.cell hk), (e.frozen h.1 hm).trans (h.fr hk)⟩⟩
theorem Cells.congr (h : Cells w b n f) (e : ∀ k, k < n → f k = g k) : Cells w b n g := ⟨h.1, fun k hk => ⟨by rw [h.cell hk, e k hk], h.fr hk⟩⟩
theorem size_setCell (w : World) (a : Addr) (u : Value) : (w.setCell a u).heap.size = w.heap.size := by simp [World.setCell]
theorem Cells.set (h : Cells w b n f) {j : Nat} (hj : j < n) (u : Value) : Cells (w.setCell ⟨b, j, none⟩ u) b n (upd f j u) :=
  ⟨by rw [size_setCell]; exact h.1, fun k hk => ⟨by
    by_cases e : k = j
    · subst e; rw [upd_at]; exact World.cell?_setCell_same (h := h.cell hk) ..
    · rw [upd_ne _ _ e]; exact (World.cell?_setCell_other (a := ⟨b, j, none⟩) (b := ⟨b, k, none⟩) (h := fun e' => e (by injection e' with _ e2; exact e2.symm)) ..).trans (h.cell hk), by rw [World.frozen?_setCell]; exact h.fr hk⟩⟩
theorem Cells.set_ne (h : Cells w b n f) {p : Addr} (hp : p.block ≠ b) (u : Value) : Cells (w.setCell p u) b n f :=
  ⟨by rw [size_setCell]; exact h.1, fun k hk => ⟨by
    exact (World.cell?_setCell_other (a := p) (b := ⟨b, k, none⟩) (h := fun e => hp (by rw [e])) ..).trans (h.cell hk), by rw [World.frozen?_setCell]; exact h.fr hk⟩⟩
theorem Cells.alloc (h : Cells w b n f) (o : Obj) : Cells (w.alloc o) b n f := h.ext ((Ext.refl [] w).alloc o) (by simp)
theorem Cells.drew (h : Cells w b n f) : Cells w.drew b n f := h.ext (Ext.refl [] w).drew (by simp)

theorem Ext.setCells {M : List Nat} {a w : World} (b : Nat) : ∀ (vs : List Value) (o : Nat) {w : World}, Ext M a w → (b ∈ M ∨ a.heap.size ≤ b) → Ext M a (w.setCells b o vs)
  | [], _, _, h, _ => h
  | v :: r, o, _, h, hb => Ext.setCells (w := w) b r (o + 1) (h.setCell ⟨b, o, none⟩ v hb) hb
theorem size_setCells (b : Nat) : ∀ (vs : List Value) (o : Nat) (w : World), (w.setCells b o vs).heap.size = w.heap.size
  | [], _, _ => rfl
  | v :: r, o, w => by rw [World.setCells, size_setCells b r, size_setCell]
theorem Cells.setCells (h : Cells w b n f) (o : Nat) (vs : List Value) (ho : o + vs.length ≤ n) : Cells (w.setCells b o vs) b n (fun k => if o ≤ k ∧ k < o + vs.length then vs.getD (k - o) default else f k) :=
  ⟨by rw [size_setCells]; exact h.1, fun k hk => ⟨by
    show _ = some (if o ≤ k ∧ k < o + vs.length then vs.getD (k - o) default else f k)
    by_cases e : o ≤ k ∧ k < o + vs.length
    · rw [if_pos e]
      obtain ⟨j, rfl⟩ : ∃ j, k = o + j := ⟨k - o, by omega⟩
      rw [World.cell?_setCells_in b vs o w (fun i hi => by rw [h.cell (by omega)]; rfl) j (by omega)]
      simp [List.getD_eq_getElem?_getD, List.getElem?_eq_getElem (show j < vs.length by omega)]
    · rw [if_neg e, World.cell?_setCells_out b vs o w _ (fun _ _ => by show k < o ∨ o + vs.length ≤ k; omega)]
      exact h.cell hk, by rw [World.frozen?_setCells]; exact h.fr hk⟩⟩

theorem madeCells_at (z : Array Value) {m k : Nat} (hk : k < m) : (madeCells z m)[k]? = some z[k % z.size]! := by
  unfold madeCells
  simp [hk]

/-- A made slice's block. -/
theorem Cells.made (w : World) (z : Array Value) (m : Nat) (t : TypeId) : Cells (w.alloc (.cells (madeCells z m) t)) w.heap.size m (fun k => z[k % z.size]!) :=
  ⟨by simp, fun k hk => ⟨by rw [World.cell?_alloc_at _ _ _ _ rfl]; exact madeCells_at z hk, World.frozen?_alloc_at _ _ _ _ rfl⟩⟩

/-- A block in whole, as cells by a function. -/
theorem Blk.cells {cs : List Value} {t : TypeId} (h : Blk w b cs t) : Cells w b cs.length (fun k => cs.getD k default) :=
  ⟨h.lt, fun k hk => ⟨by rw [h.cell k]; simp [List.getD_eq_getElem?_getD, List.getElem?_eq_getElem hk], h.frozen k⟩⟩
end

end Go.Proofs.Ytjicpblncfgiaaa
