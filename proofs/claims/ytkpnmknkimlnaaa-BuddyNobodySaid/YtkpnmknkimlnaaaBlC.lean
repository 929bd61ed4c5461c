/-
  Buddy's law: an allocator that nobody made.
-/
import Derived.Test.YtkpnmknkimlnaaaBlB
namespace Go.Proofs.Ytkpnmknkimlnaaa
set_option linter.unusedVariables false
set_option linter.unusedSimpArgs false
open Go.RowKit BuT
set_option maxHeartbeats 4000000
set_option maxRecDepth 100000
set_option linter.unusedVariables false
set_option linter.unusedSimpArgs false

def NoB (w : World) (v : Value) (K : List Nat) : Prop := (v = .pointer none ∧ K = []) ∨ ∃ bp, v = .pointer (some ⟨bp, 0, none⟩) ∧ K = [bp] ∧ Blk w bp [.int .i64 0, .slice none 0 0] 87
theorem NoB.ext {w w' : World} {v : Value} {K : List Nat} (h : NoB w v K) (hx : Ext [] w w') : NoB w' v K := by
  rcases h with h | ⟨bp, h1, h2, h3⟩
  · exact .inl h
  · exact .inr ⟨bp, h1, h2, h3.ext hx (by simp)⟩
theorem NoB.is_ {w : World} {v : Value} {K : List Nat} (h : NoB w v K) : Calls Try.prog 67 #[v] w fun e w' => e = .returned (.bool false) ∧ w = w' := by
  rcases h with ⟨rfl, -⟩ | ⟨bp, rfl, -, hb⟩
  · go_enter Try.func67, Try.ntmps67
    go_wp2
    go_ret
    exact ⟨rfl, rfl⟩
  · have c1 := hb.cell 1
    clear hb
    go_enter Try.func67, Try.ntmps67
    go_wp2
    go_ret
    exact ⟨rfl, rfl⟩
theorem NoB.none_ {w : World} {v : Value} {K : List Nat} (h : NoB w v K) : Calls Try.prog 65 #[v] w fun e w' => e = .returned (.int .i64 1) ∧ w = w' := by
  have C := Lib.hid h.is_
  clear h
  go_enter Try.func65, Try.ntmps65
  go_wp2_with (go_at_call 67; refine (C.out).mono ?_; rintro e w' ⟨rfl, rfl⟩)
  go_ret
  exact ⟨rfl, rfl⟩
theorem NoB.alloc_ {w : World} {v : Value} {K : List Nat} (h : NoB w v K) (o : Int) : Calls Try.prog 33 #[v, .int .i64 o] w fun e w' => e = .returned (.tuple #[.int .i64 0, .int .i64 1]) ∧ Ext [] w w' := by
  have C := Lib.hid h.is_
  clear h
  go_enter Try.func33, Try.ntmps33
  go_wp2_with (go_at_call 67; refine (C.out).mono ?_; rintro e w' ⟨rfl, rfl⟩)
  go_ret2
  exact ⟨rfl, Ext.refl _ _⟩
theorem NoB.taken_ {w : World} {v : Value} {K : List Nat} (h : NoB w v K) (f o : Int) : Calls Try.prog 64 #[v, .int .i64 f, .int .i64 o] w fun e w' => e = .returned (.int .i64 (-1)) ∧ Ext [] w w' := by
  have CI := Lib.hid (fun (w' : World) (e : Ext [] w w') => (h.ext e).is_)
  clear h
  go_enter Try.func64, Try.ntmps64
  go_wp2
  go_quiet ((go_at_call 67; exact Calls.quiet_of_same ((CI.out _ (dN _ _ _)).mono fun _ _ h => ⟨h.1, h.2.symm⟩)))
  go_wp2
  go_ret
  exact ⟨rfl, dN _ _ _⟩
theorem NoB.free_ {w : World} {v : Value} {K : List Nat} (h : NoB w v K) (f o : Int) : Calls Try.prog 29 #[v, .int .i64 f, .int .i64 o] w fun e w' => e = .returned (.int .i64 1) ∧ Ext [] w w' := by
  have CT := Lib.hid (h.taken_ f o)
  have CN := Lib.hid (fun w' (e : Ext [] w w') => (h.ext e).none_)
  clear h
  go_enter Try.func29, Try.ntmps29
  go_wp2_with (first
    | (go_at_call 64; refine (CT.out).mono ?_; rintro e w' ⟨rfl, hx⟩; have HX := Lib.hid hx; clear hx)
    | (go_at_call 65; refine (CN.out _ HX.out).mono ?_; rintro e w' ⟨rfl, rfl⟩))
  go_ret
  exact ⟨rfl, HX.out⟩
theorem NoB.shatter_ {w : World} {v : Value} {K : List Nat} (h : NoB w v K) (f o : Int) : Calls Try.prog 34 #[v, .int .i64 f, .int .i64 o] w fun e w' => e = .returned (.int .i64 1) ∧ Ext [] w w' := by
  have CT := Lib.hid (h.taken_ f o)
  have CN := Lib.hid (fun w' (e : Ext [] w w') => (h.ext e).none_)
  clear h
  go_enter Try.func34, Try.ntmps34
  go_wp2_with (first
    | (go_at_call 64; refine (CT.out).mono ?_; rintro e w' ⟨rfl, hx⟩; have HX := Lib.hid hx; clear hx)
    | (go_at_call 65; refine (CN.out _ HX.out).mono ?_; rintro e w' ⟨rfl, rfl⟩))
  go_ret
  exact ⟨rfl, HX.out⟩
theorem NoB.it (Bb Bk : Nat) (v : Value) (K : List Nat) (c : Int) (w0 : World) (h0 : Blk w0 Bb [v] 58) (h : NoB w0 v K) :
    Iter Try.prog 74 #[.pointer (some ⟨Bb, 0, none⟩), .pointer (some ⟨Bk, 0, none⟩)] (Bb :: K) [] w0 := by
  intro nn l M J Jx W hn hs hK hM fJ fJx hY hj0
  refine callsIn_of_wp Try.func74 rfl trivial ?_ rfl
  simp only [Try.ntmps74, List.size_toArray, List.length_cons, List.length_nil, Nat.reduceAdd, Nat.reduceSub, Array.replicate_succ, Array.replicate_zero, List.push_toArray, List.append_toArray, List.nil_append, List.cons_append]
  have hit : It M [] W W := It.refl M W
  have HJ0 := Lib.hid hj0
  rcases h with ⟨rfl, rfl⟩ | ⟨bp, rfl, rfl, hb⟩
  · have c0 := (hit.blk hK hM (by simp) h0).cell 0
    clear hK hM fJ fJx hY hj0 h0
    gi_wp2
    refine bodyPost_ret (results_none rfl _ _ _) rfl ?_
    exact ⟨⟨_, rfl⟩, hit.ext, [], hit.new, .inl HJ0.out⟩
  · have c0 := (hit.blk hK hM (by simp) h0).cell 0
    have c1 := (hit.blk hK hM (by simp) hb).cell 1
    clear hK hM fJ fJx hY hj0 h0 hb
    gi_wp2
    gi_loopw [13] (fun v wr => v = .int .i64 0 ∧ wr = W) (fun v _ => 0)
    case atStart => exact ⟨rfl, rfl⟩
    case round =>
      obtain ⟨rfl, rfl⟩ := hrel
      gi_wp2
      go_end0
      exact ⟨⟨_, rfl⟩, hit.ext, [], hit.new, .inl HJ0.out⟩

end Go.Proofs.Ytkpnmknkimlnaaa
