/- One operation of a script, done by the program alone. -/
import Derived.Test.YthchfkjdbfhnhaaDoorWf
namespace Go.Proofs.YthchfkjdbfhnhaaDoor
open Go Go.RowKit Go.Lany
set_option maxRecDepth 100000
def FsSt.one (s : FsSt) (d k kind keep : Int) (path dest b : ByteArray) : Int × FsSt :=
  if (d == 0) = true then ((s.read path).2.1, (s.read path).2.2)
  else if (d == 1) = true then s.write path ByteArray.empty b
  else if (d == 2) = true then s.write path ((aget s.files path).getD ByteArray.empty) b
  else if (d == 3) = true then s.rename path dest
  else if (d == 4) = true then s.remove path
  else if (d == 5) = true then ((s.list path).2.1, (s.list path).2.2)
  else if (d == 6) = true then s.setFault k kind keep
  else if (d == 7) = true then s.restart
  else (0, s)
theorem FsSt.Wf.one {s : FsSt} (h : s.Wf) (d k kind keep : Int) (path dest b : ByteArray) : (s.one d k kind keep path dest b).2.Wf := by
  unfold FsSt.one
  repeat' split
  · exact (h.read path).1
  · exact h.write _ _ _
  · exact h.write _ _ _
  · exact h.rename _ _
  · exact h.remove _
  · exact h.list _
  · exact h.setFault _ _ _
  · exact h.restart
  · exact h
theorem FsAt.grow_le {w : World} {f m c : Nat} {F : Nat → Prop} {s : FsSt} {n n' : Nat} (h : FsAt w f m c (Grow F n') s) (hn : n ≤ n') (hg : ¬ F 0) (hl : 0 < n) : FsAt w f m c (Grow F n) s :=
  h.mono (fun k _ hk => hk.imp id (fun e => by omega)) (by rintro (e | e); exact hg e; omega)
theorem Ml.lt {w : World} (h : Ml w) : 0 < w.heap.size := by
  obtain ⟨n, h⟩ := h
  exact World.block_lt_of_cell? _ _ h
abbrev opObj (d k kind keep : Int) (path dest : ByteArray) (a : Option Addr) (n c : Nat) : Obj := .cells #[.int .i64 d, .string path, .string dest, .slice a n c, .int .i64 k, .int .i64 kind, .int .i64 keep] 43 (0, 0)
set_option maxHeartbeats 4000000 in
theorem one_at {w : World} {f m c : Nat} {F G : Nat → Prop} {s : FsSt} (h : FsAt w f m c F s) (hw : s.Wf) (d k kind keep : Int) (path dest b : ByteArray) (vb : Value) (hb : Bytes G w vb b) (hbs : b.size ≤ 140737488355328) :
    Calls Tryd.prog 19 #[fsPtr f, .agg #[.int .i64 d, .string path, .string dest, vb, .int .i64 k, .int .i64 kind, .int .i64 keep]] w (WritePost f m c F w (s.one d k kind keep path dest b)) := by
  obtain ⟨a, cap, rfl⟩ := hb.len
  have h1 := h.below ((Below.refl _ _).alloc (Nat.le_refl _) (opObj d k kind keep path dest a b.size cap))
  have hb1 := hb.below ((Below.refl _ _).alloc (Nat.le_refl _) (opObj d k kind keep path dest a b.size cap))
  have hfar := h.far
  have hml := h.ml
  have hlt := hml.lt
  have fin : ∀ (w' : World) (t : FsSt), FsAt w' f m c F t → FsAt w' f m c (Grow F w.heap.size) t := fun _ _ h => grow_of h hml
  have finG : ∀ (w' : World) (t : FsSt) (o : Obj), FsAt w' f m c (Grow F (w.alloc o).heap.size) t → FsAt w' f m c (Grow F w.heap.size) t := fun _ _ _ h => h.grow_le (by simp) hfar hlt
  have turns : ∀ (w' : World) (o : Obj), Turns (Own3 f m c) (w.alloc o) w' → Turns (Own3 f m c) w w' := fun _ _ t => Turns.lift ((Below.refl _ _).alloc (Nat.le_refl _) _) t
  have hkeep := hw.keep
  have hsz : ∀ p b, aget s.files p = some b → b.size ≤ 140737488355328 := fun p b hb => by have := hw.size p b hb; omega
  have hold : ((aget s.files path).getD ByteArray.empty).size ≤ 140737488355328 := by have := hw.getD path; omega
  have hks : ∀ k ∈ akeys s.files, k.size ≤ 1024 := fun k hk => good_len (hw.good k hk)
  have hR := read_at h1 path (hsz path)
  have hW := Write_at h1 path _ b hb1 hbs hkeep
  have hA := Append_at h1 path _ b hb1 hbs hkeep hold
  have hN := rename_at h1 path dest
  have hM := remove_at h1 path
  have hL := list_at h1 path hks hw.many
  have hS := setFault_at h1 k kind keep
  have hT := restart_at h1
  have HF := Lib.hid fin
  have HG := Lib.hid finG
  have HT := Lib.hid turns
  have HH := Lib.hid h
  clear h h1 hb hb1 hfar hml hlt fin finG turns hkeep hsz hold hks hw hbs
  unfold FsSt.one
  cases e0 : (d == 0) with
  | true =>
    rw [if_pos rfl]
    clear hW hA hN hM hL hS hT
    go_enter Tryd.func19, Tryd.ntmps19
    go_wp2_with (go_at_call 23; refine hR.mono ?_; rintro e w2 ⟨v, rfl, -, h2, t2⟩)
    go_ret
    exact ⟨rfl, HF.out _ _ h2, HT.out _ _ t2⟩
  | false =>
    cases e1 : (d == 1) with
    | true =>
      rw [if_neg Bool.false_ne_true, if_pos rfl]
      clear hR hA hN hM hL hS hT
      go_enter Tryd.func19, Tryd.ntmps19
      go_wp2_with (go_at_call 22; refine hW.mono ?_; rintro e w2 ⟨rfl, h2, t2⟩)
      go_ret
      exact ⟨rfl, HG.out _ _ _ h2, HT.out _ _ t2⟩
    | false =>
      cases e2 : (d == 2) with
      | true =>
        rw [if_neg Bool.false_ne_true, if_neg Bool.false_ne_true, if_pos rfl]
        clear hR hW hN hM hL hS hT
        go_enter Tryd.func19, Tryd.ntmps19
        go_wp2_with (go_at_call 25; refine hA.mono ?_; rintro e w2 ⟨rfl, h2, t2⟩)
        go_ret
        exact ⟨rfl, HG.out _ _ _ h2, HT.out _ _ t2⟩
      | false =>
        cases e3 : (d == 3) with
        | true =>
          rw [if_neg Bool.false_ne_true, if_neg Bool.false_ne_true, if_neg Bool.false_ne_true, if_pos rfl]
          clear hR hW hA hM hL hS hT
          go_enter Tryd.func19, Tryd.ntmps19
          go_wp2_with (go_at_call 26; refine hN.mono ?_; rintro e w2 ⟨rfl, h2, t2⟩)
          go_ret
          exact ⟨rfl, HF.out _ _ h2, HT.out _ _ t2⟩
        | false =>
          cases e4 : (d == 4) with
          | true =>
            rw [if_neg Bool.false_ne_true, if_neg Bool.false_ne_true, if_neg Bool.false_ne_true, if_neg Bool.false_ne_true, if_pos rfl]
            clear hR hW hA hN hL hS hT
            go_enter Tryd.func19, Tryd.ntmps19
            go_wp2_with (go_at_call 27; refine hM.mono ?_; rintro e w2 ⟨rfl, h2, t2⟩)
            go_ret
            exact ⟨rfl, HF.out _ _ h2, HT.out _ _ t2⟩
          | false =>
            cases e5 : (d == 5) with
            | true =>
              rw [if_neg Bool.false_ne_true, if_neg Bool.false_ne_true, if_neg Bool.false_ne_true, if_neg Bool.false_ne_true, if_neg Bool.false_ne_true, if_pos rfl]
              clear hR hW hA hN hM hS hT
              go_enter Tryd.func19, Tryd.ntmps19
              go_wp2_with (go_at_call 16; refine hL.mono ?_; rintro e w2 ⟨v, rfl, -, h2, t2⟩)
              go_ret
              exact ⟨rfl, HF.out _ _ h2, HT.out _ _ t2⟩
            | false =>
              cases e6 : (d == 6) with
              | true =>
                rw [if_neg Bool.false_ne_true, if_neg Bool.false_ne_true, if_neg Bool.false_ne_true, if_neg Bool.false_ne_true, if_neg Bool.false_ne_true, if_neg Bool.false_ne_true, if_pos rfl]
                clear hR hW hA hN hM hL hT
                go_enter Tryd.func19, Tryd.ntmps19
                go_wp2_with (go_at_call 13; refine hS.mono ?_; rintro e w2 ⟨rfl, h2, t2⟩)
                go_ret
                exact ⟨rfl, HF.out _ _ h2, HT.out _ _ (Own1.three t2)⟩
              | false =>
                cases e7 : (d == 7) with
                | true =>
                  rw [if_neg Bool.false_ne_true, if_neg Bool.false_ne_true, if_neg Bool.false_ne_true, if_neg Bool.false_ne_true, if_neg Bool.false_ne_true, if_neg Bool.false_ne_true, if_neg Bool.false_ne_true, if_pos rfl]
                  clear hR hW hA hN hM hL hS
                  go_enter Tryd.func19, Tryd.ntmps19
                  go_wp2_with (go_at_call 12; refine hT.mono ?_; rintro e w2 ⟨rfl, h2, t2⟩)
                  go_ret
                  exact ⟨rfl, HF.out _ _ h2, HT.out _ _ (Own1.three t2)⟩
                | false =>
                  rw [if_neg Bool.false_ne_true, if_neg Bool.false_ne_true, if_neg Bool.false_ne_true, if_neg Bool.false_ne_true, if_neg Bool.false_ne_true, if_neg Bool.false_ne_true, if_neg Bool.false_ne_true, if_neg Bool.false_ne_true]
                  have h2 := HH.out.below ((Below.refl _ _).alloc (Nat.le_refl _) (opObj d k kind keep path dest a b.size cap))
                  have H2 := Lib.hid h2
                  clear h2 hR hW hA hN hM hL hS hT
                  go_enter Tryd.func19, Tryd.ntmps19
                  go_wp2
                  go_ret
                  exact ⟨rfl, HF.out _ _ H2.out, HT.out _ _ (Turns.refl _ _)⟩
end Go.Proofs.YthchfkjdbfhnhaaDoor
