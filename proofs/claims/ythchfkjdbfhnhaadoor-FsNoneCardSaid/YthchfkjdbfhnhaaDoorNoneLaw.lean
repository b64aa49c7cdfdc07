/- A file system that no call made: the law. -/
import Derived.Test.YthchfkjdbfhnhaaDoorIter2
import Derived.Test.YthchfkjdbfhnhaaDoorBegun
namespace Go.Proofs.YthchfkjdbfhnhaaDoor
open Go Go.RowKit Go.Shelf Go.Lany
attribute [local go_sem] Oper.semAt_some
set_option maxRecDepth 100000
theorem clone_not {w : World} {v : Value} (h : NoneAt w v) : Calls Tryd.prog 24 #[v] w (RetB (.pointer none) w) := by
  have hv : ∃ a, v = .pointer a := by rcases h with rfl | ⟨f, rfl, _⟩ <;> exact ⟨_, rfl⟩
  obtain ⟨a, rfl⟩ := hv
  have hn := none_not (h.alloc (.cells #[.pointer a] 25))
  clear h
  refine (callsIn_wide (n := 5)).1 ?_
  refine callsIn_of_wp_marks Tryd.func24 rfl trivial ?_ rfl
  simp only [Tryd.ntmps24, List.size_toArray, List.length_cons, List.length_nil, Nat.reduceAdd, Nat.reduceSub, Array.replicate_succ, Array.replicate_zero, List.push_toArray, List.append_toArray, List.nil_append, List.cons_append]
  gi_wp2_with (refine ⟨trivial, ?_⟩; gi_at_call 31; refine (callsIn_wide.2 hn).mono ?_; rintro e w' ⟨rfl, rfl⟩)
  exact ⟨_, results_tmp rfl _ _ _, rfl, (Below.refl _ _).alloc (Nat.le_refl _) _⟩
/-- An operation in memory. -/
abbrev opObj (d k kind keep : Int) (path dest : ByteArray) (a : Option Addr) (n c : Nat) : Obj := .cells #[.int .i64 d, .string path, .string dest, .slice a n c, .int .i64 k, .int .i64 kind, .int .i64 keep] 43 (0, 0)
/-- Where the law stands: its own blocks, and the marks of the loops that are over. -/
structure NLaw (w : World) (o : Obj) (z : Nat) (Ds : List Nat) (W : World) : Prop where
  op : W.heap[w.heap.size]? = some o
  res : W.heap[w.heap.size + 1]? = some (.cells #[.bool false] 4 (0, 0))
  zero : W.heap[z]? = some (.cells #[.map none, .int .i64 0, .int .i64 0, .int .i64 0, .pointer none, .bool false] 60 (0, 0))
  both : W.heap[z + 1]? = some (.cells #[.pointer none, fsPtr z] 25 (0, 0))
  bel : Below w.heap.size w W
  marks : Marks (w.heap.size + 2) Ds W
theorem NLaw.below {w : World} {o : Obj} {z : Nat} {Ds : List Nat} {W W' : World} (h : NLaw w o z Ds W) (t : Below W.heap.size W W') : NLaw w o z Ds W' :=
  ⟨(t.block _ (lt_of_block h.op)).trans h.op, (t.block _ (lt_of_block h.res)).trans h.res, (t.block _ (lt_of_block h.zero)).trans h.zero, (t.block _ (lt_of_block h.both)).trans h.both, h.bel.trans (t.mono h.bel.size), h.marks.kept t⟩
theorem NLaw.sees {w : World} {d k kind keep : Int} {path dest : ByteArray} {a : Option Addr} {n c : Nat} {z : Nat} {Ds : List Nat} {W : World} (h : NLaw w (opObj d k kind keep path dest a n c) z Ds W) :
    NoneAt W (.pointer none) ∧ NoneAt W (fsPtr z) ∧ W.cell? ⟨w.heap.size, 1, none⟩ = some (.string path) ∧ W.cell? ⟨w.heap.size, 2, none⟩ = some (.string dest) ∧ W.cell? ⟨w.heap.size, 3, none⟩ = some (.slice a n c) ∧
      W.cell? ⟨w.heap.size, 4, none⟩ = some (.int .i64 k) ∧ W.cell? ⟨w.heap.size, 5, none⟩ = some (.int .i64 kind) ∧ W.cell? ⟨w.heap.size, 6, none⟩ = some (.int .i64 keep) ∧ W.cell? ⟨z + 1, 0, none⟩ = some (.pointer none) ∧ W.cell? ⟨z + 1, 1, none⟩ = some (fsPtr z) := by
  refine ⟨.inl rfl, .inr ⟨z, rfl, by rw [cell_of_block h.zero]; rfl⟩, ?_, ?_, ?_, ?_, ?_, ?_, ?_, ?_⟩
  all_goals first | (rw [cell_of_block h.op]; rfl) | (rw [cell_of_block h.both]; rfl)
theorem NLaw.ranged {w : World} {o : Obj} {z : Nat} {Ds : List Nat} {W W' : World} (h : NLaw w o z Ds W) {D : Nat} (hD : W.heap.size ≤ D) (t : Below W.heap.size W W') (hK : W'.heap[D]? = some (.deferred (some []))) : NLaw w o z (D :: Ds) W' := by
  have h' := h.below t
  exact ⟨h'.op, h'.res, h'.zero, h'.both, h'.bel, h.marks.cons t (by have := lt_of_block h.res; omega) hD hK⟩
set_option maxHeartbeats 8000000 in
theorem fsNone_any (d k kind keep : Int) (path dest : ByteArray) (a : Option Addr) (n c : Nat) {w : World} (hml : Ml w) : Calls Tryd.prog 7 #[.agg #[.int .i64 d, .string path, .string dest, .slice a n c, .int .i64 k, .int .i64 kind, .int .i64 keep]] w (BoolPost true w) := by
  have hm1 := (hml.below ((Below.refl _ _).alloc (Nat.le_refl _) (opObj d k kind keep path dest a n c))).below ((Below.refl _ _).alloc (Nat.le_refl _) (.cells #[.bool false] 4))
  refine (callsIn_wide (n := 5)).1 ?_
  refine callsIn_of_wp_marks Tryd.func7 rfl trivial ?_ rfl
  simp only [Tryd.ntmps7, List.size_toArray, List.length_cons, List.length_nil, Nat.reduceAdd, Nat.reduceSub, Array.replicate_succ, Array.replicate_zero, List.push_toArray, List.append_toArray, List.nil_append, List.cons_append]
  gi_wp2_with (first
    | (refine ⟨trivial, ?_⟩; gi_at_call 8; refine (callsIn_wide.2 (begun_any hm1)).mono ?_; rintro e w1 ⟨rfl, t1⟩; have T1 := Lib.hid t1; clear t1))
  have hL : NLaw w (opObj d k kind keep path dest a n c) w1.heap.size [] ((w1.alloc (.cells #[.map none, .int .i64 0, .int .i64 0, .int .i64 0, .pointer none, .bool false] 60)).alloc (.cells #[.pointer none, fsPtr w1.heap.size] 25)) := by
    have b1 := T1.out
    simp only [size_alloc] at b1
    have hs := b1.size
    simp only [size_alloc] at hs
    have b0 : Below w.heap.size w w1 := (((Below.refl _ _).alloc (Nat.le_refl _) _).alloc (by simp) _).trans (b1.mono (by omega))
    refine ⟨?_, ?_, ?_, ?_, (b0.alloc (by omega) _).alloc (by rw [size_alloc]; omega) _, Marks.nil _ _⟩
    · rw [get_alloc _ _ (by rw [size_alloc]; omega), get_alloc _ _ (by omega), b1.block _ (by omega), get_alloc _ _ (by rw [size_alloc]; omega), get_new]
    · rw [get_alloc _ _ (by rw [size_alloc]; omega), get_alloc _ _ (by omega), b1.block _ (by omega)]
      have h := get_new (w.alloc (opObj d k kind keep path dest a n c)) (.cells #[.bool false] 4)
      rwa [size_alloc] at h
    · rw [get_alloc _ _ (by rw [size_alloc]; omega), get_new]
    · have h := get_new (w1.alloc (.cells #[.map none, .int .i64 0, .int .i64 0, .int .i64 0, .pointer none, .bool false] 60)) (.cells #[.pointer none, fsPtr w1.heap.size] 25)
      rwa [size_alloc] at h
  generalize (w1.alloc (.cells #[.map none, .int .i64 0, .int .i64 0, .int .i64 0, .pointer none, .bool false] 60)).alloc (.cells #[.pointer none, fsPtr w1.heap.size] 25) = W at hL ⊢
  generalize w1.heap.size = z at hL ⊢
  clear T1 hm1
  obtain ⟨n0, n1, c1, c2, c3, c4, c5, c6, s0, s1⟩ := hL.sees
  have HL := Lib.hid hL
  clear hL
  refine wpIn_loop_rounds 3 ?_
  rw [roundsIn_succ]
  gi_wp2_with (first
    | (refine ⟨trivial, ?_⟩; gi_at_call 23; refine (callsIn_wide.2 (read_not n0 _)).mono ?_; rintro e w2 ⟨rfl, t⟩; replace HL := Lib.hid (HL.out.below t); clear t n0 n1 c1 c2 c3 c4 c5 c6 s0 s1; obtain ⟨n0, n1, c1, c2, c3, c4, c5, c6, s0, s1⟩ := HL.out.sees)
    | (refine ⟨trivial, ?_⟩; gi_at_call 16; refine (callsIn_wide.2 (list_not n0 _)).mono ?_; rintro e w2 ⟨rfl, t⟩; replace HL := Lib.hid (HL.out.below t); clear t n0 n1 c1 c2 c3 c4 c5 c6 s0 s1; obtain ⟨n0, n1, c1, c2, c3, c4, c5, c6, s0, s1⟩ := HL.out.sees)
    | (refine ⟨trivial, ?_⟩; gi_at_call 15; refine (callsIn_wide.2 (is_not n0 _)).mono ?_; rintro e w2 ⟨rfl, t⟩; replace HL := Lib.hid (HL.out.below t); clear t n0 n1 c1 c2 c3 c4 c5 c6 s0 s1; obtain ⟨n0, n1, c1, c2, c3, c4, c5, c6, s0, s1⟩ := HL.out.sees)
    | (refine ⟨trivial, ?_⟩; gi_at_call 22; refine (callsIn_wide.2 (write_not n0 _ _)).mono ?_; rintro e w2 ⟨rfl, t⟩; replace HL := Lib.hid (HL.out.below t); clear t n0 n1 c1 c2 c3 c4 c5 c6 s0 s1; obtain ⟨n0, n1, c1, c2, c3, c4, c5, c6, s0, s1⟩ := HL.out.sees)
    | (refine ⟨trivial, ?_⟩; gi_at_call 25; refine (callsIn_wide.2 (append_not n0 _ _)).mono ?_; rintro e w2 ⟨rfl, t⟩; replace HL := Lib.hid (HL.out.below t); clear t n0 n1 c1 c2 c3 c4 c5 c6 s0 s1; obtain ⟨n0, n1, c1, c2, c3, c4, c5, c6, s0, s1⟩ := HL.out.sees)
    | (refine ⟨trivial, ?_⟩; gi_at_call 26; refine (callsIn_wide.2 (rename_not n0 _ _)).mono ?_; rintro e w2 ⟨rfl, t⟩; replace HL := Lib.hid (HL.out.below t); clear t n0 n1 c1 c2 c3 c4 c5 c6 s0 s1; obtain ⟨n0, n1, c1, c2, c3, c4, c5, c6, s0, s1⟩ := HL.out.sees)
    | (refine ⟨trivial, ?_⟩; gi_at_call 27; refine (callsIn_wide.2 (remove_not n0 _)).mono ?_; rintro e w2 ⟨rfl, t⟩; replace HL := Lib.hid (HL.out.below t); clear t n0 n1 c1 c2 c3 c4 c5 c6 s0 s1; obtain ⟨n0, n1, c1, c2, c3, c4, c5, c6, s0, s1⟩ := HL.out.sees)
    | (refine ⟨trivial, ?_⟩; gi_at_call 13; refine (callsIn_wide.2 (setFault_not n0 _ _ _)).mono ?_; rintro e w2 ⟨rfl, t⟩; replace HL := Lib.hid (HL.out.below t); clear t n0 n1 c1 c2 c3 c4 c5 c6 s0 s1; obtain ⟨n0, n1, c1, c2, c3, c4, c5, c6, s0, s1⟩ := HL.out.sees)
    | (refine ⟨trivial, ?_⟩; gi_at_call 12; refine (callsIn_wide.2 (restart_not n0)).mono ?_; rintro e w2 ⟨rfl, t⟩; replace HL := Lib.hid (HL.out.below t); clear t n0 n1 c1 c2 c3 c4 c5 c6 s0 s1; obtain ⟨n0, n1, c1, c2, c3, c4, c5, c6, s0, s1⟩ := HL.out.sees)
    | (refine ⟨trivial, ?_⟩; gi_at_call 28; refine (callsIn_wide.2 (calls_not n0)).mono ?_; rintro e w2 ⟨rfl, t⟩; replace HL := Lib.hid (HL.out.below t); clear t n0 n1 c1 c2 c3 c4 c5 c6 s0 s1; obtain ⟨n0, n1, c1, c2, c3, c4, c5, c6, s0, s1⟩ := HL.out.sees)
    | (refine ⟨trivial, ?_⟩; gi_at_call 29; refine (callsIn_wide.2 (down_not n0)).mono ?_; rintro e w2 ⟨rfl, t⟩; replace HL := Lib.hid (HL.out.below t); clear t n0 n1 c1 c2 c3 c4 c5 c6 s0 s1; obtain ⟨n0, n1, c1, c2, c3, c4, c5, c6, s0, s1⟩ := HL.out.sees)
    | (refine ⟨trivial, ?_⟩; gi_at_call 24; refine (callsIn_wide.2 (clone_not n0)).mono ?_; rintro e w2 ⟨rfl, t⟩; replace HL := Lib.hid (HL.out.below t); clear t n0 n1 c1 c2 c3 c4 c5 c6 s0 s1; obtain ⟨n0, n1, c1, c2, c3, c4, c5, c6, s0, s1⟩ := HL.out.sees)
    | (refine ⟨trivial, ?_⟩; gi_at_call 14; refine (callsIn_wide.2 (paths_not n0)).mono ?_; rintro e w2 ⟨B, rfl, hcb, t⟩; replace HL := Lib.hid (HL.out.below t); clear t n0 n1 c1 c2 c3 c4 c5 c6 s0 s1; obtain ⟨n0, n1, c1, c2, c3, c4, c5, c6, s0, s1⟩ := HL.out.sees))
  refine range_nil (by decide) rfl hcb ?_
  intro D1 WD1 hD t hK
  replace HL := Lib.hid (HL.out.ranged hD t hK)
  clear hcb hD t hK n0 n1 c1 c2 c3 c4 c5 c6 s0 s1
  obtain ⟨n0, n1, c1, c2, c3, c4, c5, c6, s0, s1⟩ := HL.out.sees
  gi_wp2
  rw [roundsIn_succ]
  gi_wp2_with (first
    | (refine ⟨trivial, ?_⟩; gi_at_call 23; refine (callsIn_wide.2 (read_not n1 _)).mono ?_; rintro e w2 ⟨rfl, t⟩; replace HL := Lib.hid (HL.out.below t); clear t n0 n1 c1 c2 c3 c4 c5 c6 s0 s1; obtain ⟨n0, n1, c1, c2, c3, c4, c5, c6, s0, s1⟩ := HL.out.sees)
    | (refine ⟨trivial, ?_⟩; gi_at_call 16; refine (callsIn_wide.2 (list_not n1 _)).mono ?_; rintro e w2 ⟨rfl, t⟩; replace HL := Lib.hid (HL.out.below t); clear t n0 n1 c1 c2 c3 c4 c5 c6 s0 s1; obtain ⟨n0, n1, c1, c2, c3, c4, c5, c6, s0, s1⟩ := HL.out.sees)
    | (refine ⟨trivial, ?_⟩; gi_at_call 15; refine (callsIn_wide.2 (is_not n1 _)).mono ?_; rintro e w2 ⟨rfl, t⟩; replace HL := Lib.hid (HL.out.below t); clear t n0 n1 c1 c2 c3 c4 c5 c6 s0 s1; obtain ⟨n0, n1, c1, c2, c3, c4, c5, c6, s0, s1⟩ := HL.out.sees)
    | (refine ⟨trivial, ?_⟩; gi_at_call 22; refine (callsIn_wide.2 (write_not n1 _ _)).mono ?_; rintro e w2 ⟨rfl, t⟩; replace HL := Lib.hid (HL.out.below t); clear t n0 n1 c1 c2 c3 c4 c5 c6 s0 s1; obtain ⟨n0, n1, c1, c2, c3, c4, c5, c6, s0, s1⟩ := HL.out.sees)
    | (refine ⟨trivial, ?_⟩; gi_at_call 25; refine (callsIn_wide.2 (append_not n1 _ _)).mono ?_; rintro e w2 ⟨rfl, t⟩; replace HL := Lib.hid (HL.out.below t); clear t n0 n1 c1 c2 c3 c4 c5 c6 s0 s1; obtain ⟨n0, n1, c1, c2, c3, c4, c5, c6, s0, s1⟩ := HL.out.sees)
    | (refine ⟨trivial, ?_⟩; gi_at_call 26; refine (callsIn_wide.2 (rename_not n1 _ _)).mono ?_; rintro e w2 ⟨rfl, t⟩; replace HL := Lib.hid (HL.out.below t); clear t n0 n1 c1 c2 c3 c4 c5 c6 s0 s1; obtain ⟨n0, n1, c1, c2, c3, c4, c5, c6, s0, s1⟩ := HL.out.sees)
    | (refine ⟨trivial, ?_⟩; gi_at_call 27; refine (callsIn_wide.2 (remove_not n1 _)).mono ?_; rintro e w2 ⟨rfl, t⟩; replace HL := Lib.hid (HL.out.below t); clear t n0 n1 c1 c2 c3 c4 c5 c6 s0 s1; obtain ⟨n0, n1, c1, c2, c3, c4, c5, c6, s0, s1⟩ := HL.out.sees)
    | (refine ⟨trivial, ?_⟩; gi_at_call 13; refine (callsIn_wide.2 (setFault_not n1 _ _ _)).mono ?_; rintro e w2 ⟨rfl, t⟩; replace HL := Lib.hid (HL.out.below t); clear t n0 n1 c1 c2 c3 c4 c5 c6 s0 s1; obtain ⟨n0, n1, c1, c2, c3, c4, c5, c6, s0, s1⟩ := HL.out.sees)
    | (refine ⟨trivial, ?_⟩; gi_at_call 12; refine (callsIn_wide.2 (restart_not n1)).mono ?_; rintro e w2 ⟨rfl, t⟩; replace HL := Lib.hid (HL.out.below t); clear t n0 n1 c1 c2 c3 c4 c5 c6 s0 s1; obtain ⟨n0, n1, c1, c2, c3, c4, c5, c6, s0, s1⟩ := HL.out.sees)
    | (refine ⟨trivial, ?_⟩; gi_at_call 28; refine (callsIn_wide.2 (calls_not n1)).mono ?_; rintro e w2 ⟨rfl, t⟩; replace HL := Lib.hid (HL.out.below t); clear t n0 n1 c1 c2 c3 c4 c5 c6 s0 s1; obtain ⟨n0, n1, c1, c2, c3, c4, c5, c6, s0, s1⟩ := HL.out.sees)
    | (refine ⟨trivial, ?_⟩; gi_at_call 29; refine (callsIn_wide.2 (down_not n1)).mono ?_; rintro e w2 ⟨rfl, t⟩; replace HL := Lib.hid (HL.out.below t); clear t n0 n1 c1 c2 c3 c4 c5 c6 s0 s1; obtain ⟨n0, n1, c1, c2, c3, c4, c5, c6, s0, s1⟩ := HL.out.sees)
    | (refine ⟨trivial, ?_⟩; gi_at_call 24; refine (callsIn_wide.2 (clone_not n1)).mono ?_; rintro e w2 ⟨rfl, t⟩; replace HL := Lib.hid (HL.out.below t); clear t n0 n1 c1 c2 c3 c4 c5 c6 s0 s1; obtain ⟨n0, n1, c1, c2, c3, c4, c5, c6, s0, s1⟩ := HL.out.sees)
    | (refine ⟨trivial, ?_⟩; gi_at_call 14; refine (callsIn_wide.2 (paths_not n1)).mono ?_; rintro e w2 ⟨B, rfl, hcb, t⟩; replace HL := Lib.hid (HL.out.below t); clear t n0 n1 c1 c2 c3 c4 c5 c6 s0 s1; obtain ⟨n0, n1, c1, c2, c3, c4, c5, c6, s0, s1⟩ := HL.out.sees))
  refine range_nil (by decide) rfl hcb ?_
  intro D2 WD2 hD t hK
  replace HL := Lib.hid (HL.out.ranged hD t hK)
  clear hcb hD t hK n0 n1 c1 c2 c3 c4 c5 c6 s0 s1
  obtain ⟨n0, n1, c1, c2, c3, c4, c5, c6, s0, s1⟩ := HL.out.sees
  gi_wp2
  rw [roundsIn_succ]
  have r0 : WD2.cell? ⟨w.heap.size + 1, 0, none⟩ = some (.bool false) := by rw [cell_of_block HL.out.res]; rfl
  have rf := free_of_block HL.out.res 0
  gi_wp2
  have hm := HL.out.marks
  have hm2 : Marks (w.heap.size + 2) [D2, D1] (WD2.setCell ⟨w.heap.size + 1, 0, none⟩ (.bool true)) := ⟨hm.1, fun D hD => ⟨(hm.2 D hD).1, (get_other _ _ _ (by have := (hm.2 D hD).1; omega)).trans (hm.2 D hD).2⟩⟩
  refine leave_marks [D2, D1] _ hm2 fun W' h1 h2 => ⟨.bool true, ?_, rfl, (HL.out.bel.setCell (p := ⟨w.heap.size + 1, 0, none⟩) (by simp) _).trans (h2.mono (by omega))⟩
  have hr : W'.cell? ⟨w.heap.size + 1, 0, none⟩ = some (.bool true) := by
    rw [cell_of_block ((h1 _ (fun h => by have := (hm.2 _ h).1; omega)).trans (set_block HL.out.res 0 _))]
    rfl
  simp [results, Tryd.f7, go_sem, hr]
end Go.Proofs.YthchfkjdbfhnhaaDoor
