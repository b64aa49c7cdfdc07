/- Both file systems side by side. -/
import Derived.Test.YthchfkjdbfhnhaaGreatDoorRefK
import Derived.Test.YthchfkjdbfhnhaaGreatDoorOps
import Derived.Test.YthchfkjdbfhnhaaGreatDoorBegun
import Derived.Test.YthchfkjdbfhnhaaGreatDoorClone
import Derived.Test.YthchfkjdbfhnhaaGreatDoorIs
namespace Go.Proofs.YthchfkjdbfhnhaaGreatDoor
open Go Go.RowKit Go.Lany
set_option maxRecDepth 100000
/-- The program's and the document's file system, of one state, in blocks apart, all from block B on. -/
structure JA (B : Nat) (W : World) (f m c r : Nat) (s : FsSt) (F G : Nat → Prop) : Prop where
  p : FsAt W f m c F s
  q : RAt W r G s
  wf : s.Wf
  tree : Tree s
  apart : ∀ k, F k → ¬ G k
  pb : ∀ k, F k → B ≤ k ∧ k < W.heap.size
  qb : ∀ k, G k → B ≤ k ∧ k < W.heap.size
  B : 0 < B ∧ B ≤ W.heap.size
theorem Tree.read {s : FsSt} (h : Tree s) (p : ByteArray) : Tree (s.read p).2.2 := by
  unfold FsSt.read
  repeat' split
  all_goals first | exact h.after | exact h
theorem Tree.remove {s : FsSt} (h : Tree s) (p : ByteArray) : Tree (s.remove p).2 := by
  unfold FsSt.remove
  repeat' split
  all_goals first | exact h.after.del p | exact h.after | exact h
theorem Tree.list {s : FsSt} (h : Tree s) (d : ByteArray) : Tree (s.list d).2.2 := by
  unfold FsSt.list
  repeat' split
  all_goals first | exact h.after | exact h
theorem Tree.setFault {s : FsSt} (h : Tree s) (k kind keep : Int) : Tree (s.setFault k kind keep).2 := by
  unfold FsSt.setFault
  repeat' split
  all_goals exact h
theorem Tree.restart {s : FsSt} (h : Tree s) : Tree s.restart.2 := by
  unfold FsSt.restart
  split
  all_goals exact h
def Cut (F : Nat → Prop) (n m k : Nat) : Prop := (F k ∨ n ≤ k) ∧ k < m
theorem RAt.kept {W W' : World} {r : Nat} {G S : Nat → Prop} {s : FsSt} (h : RAt W r G s) (t : Turns S W W') (hs : ∀ k, G k → ¬ S k) : RAt W' r G s := by
  obtain ⟨v, K, Kp, vs, fs, h⟩ := h
  exact ⟨v, K, Kp, vs, fs, h.kept t hs⟩
theorem RAt.mono {W : World} {r : Nat} {G G' : Nat → Prop} {s : FsSt} (h : RAt W r G s) (hg : ∀ k, k < W.heap.size → G k → G' k) (hf : ¬ G' 0) : RAt W r G' s := by
  obtain ⟨v, K, Kp, vs, fs, h⟩ := h
  exact ⟨v, K, Kp, vs, fs, h.mono hg hf⟩
theorem RAt.grow {W : World} {r : Nat} {G : Nat → Prop} {s : FsSt} (h : RAt W r G s) {n : Nat} (hn : 0 < n) : RAt W r (Grow G n) s := by
  obtain ⟨v, K, Kp, vs, fs, h⟩ := h
  exact (h.grow hn).at_
theorem RAt.far {W : World} {r : Nat} {G : Nat → Prop} {s : FsSt} (h : RAt W r G s) : ¬ G 0 := by
  obtain ⟨v, K, Kp, vs, fs, h⟩ := h
  exact h.far
section
variable {B : Nat} {W : World} {f m c r : Nat} {s : FsSt} {F G : Nat → Prop}
theorem JA.below (J : JA B W f m c r s F G) {W' : World} (t : Below W.heap.size W W') : JA B W' f m c r s F G :=
  ⟨J.p.below t, J.q.kept (S := fun _ => False) (Turns.of_below t) fun _ _ => id, J.wf, J.tree, J.apart, fun k hk => ⟨(J.pb k hk).1, Nat.lt_of_lt_of_le (J.pb k hk).2 t.size⟩, fun k hk => ⟨(J.qb k hk).1, Nat.lt_of_lt_of_le (J.qb k hk).2 t.size⟩, J.B.1, Nat.le_trans J.B.2 t.size⟩
theorem JA.drew (J : JA B W f m c r s F G) : JA B W.drew f m c r s F G := J.below (Below.refl _ _).drew
theorem JA.alloc (J : JA B W f m c r s F G) (o : Obj) : JA B (W.alloc o) f m c r s F G := J.below ((Below.refl _ _).alloc (Nat.le_refl _) o)
theorem JA.own (J : JA B W f m c r s F G) : ∀ k, k < B → ¬ Own3 f m c k := by
  obtain ⟨h1, h2, h3⟩ := J.p.inF
  have h1' := (J.pb _ h1).1
  have h2' := (J.pb _ h2).1
  have h3' := (J.pb _ h3).1
  rintro k hk (rfl | rfl | rfl) <;> omega
theorem JA.ownG (J : JA B W f m c r s F G) : ∀ k, G k → ¬ Own3 f m c k := by
  obtain ⟨h1, h2, h3⟩ := J.p.inF
  rintro k hk (rfl | rfl | rfl)
  · exact J.apart _ h1 hk
  · exact J.apart _ h2 hk
  · exact J.apart _ h3 hk
/-- The program's call is done. -/
theorem JA.first (J : JA B W f m c r s F G) {W1 : World} {s1 : FsSt} (h1 : FsAt W1 f m c (Grow F W.heap.size) s1) (t1 : Turns (Own3 f m c) W W1) : FsAt W1 f m c (Cut F W.heap.size W1.heap.size) s1 ∧ RAt W1 r G s ∧ Below B W W1 :=
  ⟨h1.mono (fun k hk hf => ⟨hf, hk⟩) (fun e => e.1.elim J.p.far fun e => by have := J.B; omega), J.q.kept t1 J.ownG, t1.below J.B.2 J.own⟩
/-- .. and the document's. -/
theorem JA.both (J : JA B W f m c r s F G) {W1 : World} {s1 : FsSt} (h1 : FsAt W1 f m c (Grow F W.heap.size) s1) (t1 : Turns (Own3 f m c) W W1) {W2 : World} (h2 : RAt W2 r (Grow G W1.heap.size) s1) (t2 : Turns G W1 W2) (hw : s1.Wf) (ht : Tree s1) :
    JA B W2 f m c r s1 (Cut F W.heap.size W1.heap.size) (Cut G W1.heap.size W2.heap.size) ∧ Below B W W2 := by
  obtain ⟨a1, a2, a3⟩ := J.first h1 t1
  have hsz := a3.size
  have hs2 := t2.size
  have hB := J.B
  have hx : ∀ k, Cut F W.heap.size W1.heap.size k → ¬ G k := fun k hk hg => hk.1.elim (fun e => J.apart k e hg) fun e => by have := (J.qb k hg).2; omega
  refine ⟨⟨a1.kept t2 hx J.q.far, h2.mono (fun k hk hg => ⟨hg, hk⟩) (fun e => e.1.elim J.q.far fun e => by omega), hw, ht, ?_, ?_, ?_, hB.1, by omega⟩, a3.trans (t2.below (Nat.le_trans hB.2 hsz) fun k hk hg => by have := (J.qb k hg).1; omega)⟩
  · rintro k hk ⟨hg | hg, _⟩
    · exact hx k hk hg
    · have := hk.2; omega
  · rintro k ⟨hk | hk, hk'⟩
    · exact ⟨(J.pb k hk).1, by omega⟩
    · exact ⟨by omega, by omega⟩
  · rintro k ⟨hk | hk, hk'⟩
    · exact ⟨(J.qb k hk).1, by omega⟩
    · exact ⟨by omega, by omega⟩
end
def Joint (B : Nat) (W : World) (f r : Nat) : Prop := ∃ m c s F G, JA B W f m c r s F G
def StepPost (B r : Nat) (W : World) (e : Ending) (w' : World) : Prop := ∃ f, e = .returned (.tuple #[fsPtr f, .bool true]) ∧ Joint B w' f r ∧ Below B W w'
theorem strs_both {w : World} {B : Nat} {v : Value} {l : List ByteArray} (h : w.ownsRow B 9 1 v l.length (strs l)) : Strs (fun k => B ≤ k) w v l := by
  rcases h.2 with ⟨e, e'⟩ | ⟨g, cap, cur, e, hg, hb, _, _, _, ht⟩
  · exact .inl ⟨e, List.eq_nil_of_length_eq_zero e'⟩
  · refine .inr ⟨g, cap, cur, e, hg, hb, fun i x hx => ?_⟩
    have : (strs l)[i]? = some (.string x) := by unfold strs; rw [List.getElem?_map, hx]; rfl
    rw [← ht, List.getElem?_take] at this
    split at this
    · simpa using this
    · cases this
theorem Strs.at_ {F : Nat → Prop} {w : World} {v : Value} {l : List ByteArray} (h : Strs F w v l) : ∃ a cap, v = .slice a l.length cap ∧ ∀ (k : Nat) x, l[k]? = some x → ∃ g, a = some ⟨g, 0, none⟩ ∧ w.cell? ⟨g, k, none⟩ = some (.string x) := by
  rcases h with ⟨rfl, rfl⟩ | ⟨b, cap, cells, rfl, _, hb, hc⟩
  · exact ⟨_, _, rfl, fun k x hx => by simp at hx⟩
  · exact ⟨_, _, rfl, fun k x hx => ⟨b, rfl, by rw [cell_of_block hb]; exact hc k x hx⟩⟩
set_option maxHeartbeats 2000000 in
theorem texts_at {F G : Nat → Prop} {w : World} {v u : Value} {l : List ByteArray} (h1 : Strs F w v l) (h2 : Strs G w u l) (hl : l.length ≤ 1000000) : Calls Tryz.prog 24 #[v, u] w (fun e w' => e = .returned (.bool true) ∧ Below w.heap.size w w') := by
  obtain ⟨a, c1, rfl, g1⟩ := h1.at_
  obtain ⟨b, c2, rfl, g2⟩ := h2.at_
  have G1 := Lib.hid g1
  have G2 := Lib.hid g2
  clear h1 h2 g1 g2
  go_enter Tryz.func24, Tryz.ntmps24
  go_wp2
  go_loopw [13] (fun i wr => ∃ k : Nat, k ≤ l.length ∧ i = .int .i64 k ∧ Below w.heap.size w wr) (fun i _ => l.length - (intOf i).toNat)
  case atStart => exact ⟨0, Nat.zero_le _, rfl, Below.refl _ _⟩
  case round =>
    obtain ⟨k, hk, rfl, hb⟩ := hrel
    by_cases hlt : k < l.length
    · obtain ⟨x, hx⟩ : ∃ x, l[k]? = some x := ⟨_, List.getElem?_eq_getElem hlt⟩
      obtain ⟨ga, rfl, d1⟩ := G1.out k x hx
      obtain ⟨gb, rfl, d2⟩ := G2.out k x hx
      have e1 : wr.cell? ⟨ga, k, none⟩ = some (.string x) := by rw [hb.cell (World.block_lt_of_cell? _ _ d1), d1]
      have e2 : wr.cell? ⟨gb, k, none⟩ = some (.string x) := by rw [hb.cell (World.block_lt_of_cell? _ _ d2), d2]
      have HB := Lib.hid hb
      clear hx d1 d2 hb
      go_wp2
      go_quiet (fail)
      go_wp2
      refine ⟨⟨k + 1, by omega, by go_num, HB.out.trans (below_drewN (Below.refl _ _) nq |>.mono HB.out.size)⟩, by simp [intOf]; omega⟩
    · obtain rfl : k = l.length := by omega
      go_wp2
      go_ret
      exact ⟨rfl, hb⟩
end Go.Proofs.YthchfkjdbfhnhaaGreatDoor
