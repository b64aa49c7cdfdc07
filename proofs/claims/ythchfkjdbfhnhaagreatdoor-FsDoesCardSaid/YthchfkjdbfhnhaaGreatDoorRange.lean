/- Going through strings by slices.Values, the body's own invariant. -/
import Derived.Test.YthchfkjdbfhnhaaGreatDoorRound
import Derived.Test.YthchfkjdbfhnhaaGreatDoorFsC
namespace Go.Proofs.YthchfkjdbfhnhaaGreatDoor
open Go Go.RowKit Go.Shelf Go.Lany
attribute [local go_sem] Oper.semAt_some
set_option maxRecDepth 100000
theorem range_strs {Q : Exit → Act → World → Prop} {T : Array Value} {ds : List Deferred} {w : World} {g : Operand} {p q : Tmp} {asg body : Code} {n B : Nat} (hn : 4 ≤ n) (hg : Act.eval { tmps := T, defers := ds } g = .func (.func 77) #[] #[.pointer (some ⟨B, 0, none⟩)])
    {v : Value} {zs : List ByteArray} {K : Nat → Prop} (hc : w.cell? ⟨B, 0, none⟩ = some v) (hI : Strs K w v zs) (hK : ∀ k, K k → k < w.heap.size) (hlen : zs.length ≤ 140737488355328)
    (I : List ByteArray → World → Prop) (hO : OwnFrom w.heap.size I) (h0 : I [] w)
    (hassign : ∀ (l : Nat) (x : ByteArray) (W : World) (K : Act → World → Prop), K { tmps := (T.setIfInBounds p (.string x)).setIfInBounds q (.string x), defers := [] } W →
      asg.wpIn (Fence.wide.inRound l) (n - 1 - 1) Tryz.prog (Exit.then K (fun _ _ _ => False)) { tmps := T.setIfInBounds p (.string x), defers := [] } W)
    (hbody : ∀ (l : Nat) (pre : List ByteArray) (x : ByteArray) (W : World), I pre W → pre.length < zs.length →
      body.wpIn (Fence.wide.inRound l) (n - 1 - 1) Tryz.prog (ownPostG w.heap.size (KeepB K) I (fun _ _ _ => False) (pre ++ [x]) W) { tmps := (T.setIfInBounds p (.string x)).setIfInBounds q (.string x), defers := [] } W)
    (hdone : ∀ D W, w.heap.size ≤ D → I zs W → W.heap[D]? = some (.deferred (some [])) → Q .normal { tmps := T, defers := { target := .collected D, args := #[] } :: ds } W) :
    (Code.rangeFunc g #[p] asg body).wpIn Fence.wide n Tryz.prog Q { tmps := T, defers := ds } w := by
  refine wpIn_rangeFunc_ownG (F := Fence.wide) rfl (by omega) (gf := 77) (lb := #[.pointer (some ⟨B, 0, none⟩)]) hg trivial (enters_of Tryz.func77 (by kernel_rfl) rfl)
    (values_stops Fence.wide (n - 1) trivial rfl (by omega) B v zs hlen w (World.block_lt_of_cell? _ _ hc) hc hI) keepB_t (keepB_b hK) (Below.refl _ _) (fun _ => rfl)
    I (fun _ _ _ => False) hO (fun _ _ _ _ _ hs _ _ => hs) h0 (fun x => { tmps := (T.setIfInBounds p (.string x)).setIfInBounds q (.string x), defers := [] }) (fun l x W K hK => by simpa using hassign l x W K hK) hbody ?_ ?_
  · rintro D xs W hD rfl h hk
    exact hdone D W hD h hk
  · intro D c pre W _ _ h
    exact h.elim
/-- A row of strings that a body builds up: the box that holds it, what it may have turned. -/
structure Gather (w0 : World) (A B0 : Nat) (pre : List ByteArray) (W : World) : Prop where
  box : ∃ v, W.heap[A]? = some (.cells #[v] 53 (0, 0)) ∧ W.ownsRow B0 9 1 v pre.length (pre.map Value.string)
  t : Turns (fun k => k = A) w0 W
theorem row_grown {W W' : World} {B : Nat} {e : TypeId} {v : Value} {n : Nat} {xs : List Value} {row : Option Nat} (h : W.ownsRow B e 1 v n xs) (hg : W.grownBy W' row) (hr : ∀ r, row = some r → ∃ o : Obj, W.heap[r]? = some o ∧ o.isCells = false) : W'.ownsRow B e 1 v n xs := by
  refine ⟨h.1, h.2.imp id ?_⟩
  rintro ⟨g, cap, cur, e', hB, hb, r⟩
  refine ⟨g, cap, cur, e', hB, (hg.block g (lt_of_block hb) fun e => ?_).trans hb, r⟩
  obtain ⟨o, ho, hc⟩ := hr g e.symm
  rw [hb] at ho
  cases ho
  cases hc
theorem Gather.own {w0 : World} {A B0 : Nat} (hA : A < B0) (h0 : w0.heap.size ≤ B0) : OwnFrom B0 (Gather w0 A B0) := fun pre W W' row h hg hr => by
  obtain ⟨v, h1, h2⟩ := h.box
  have hne : ∀ k, k < B0 → some k ≠ row := fun k hk e => by have := (hr k e.symm).1; omega
  exact ⟨⟨v, (hg.block A (lt_of_block h1) (hne A hA)).trans h1, row_grown h2 hg fun r e => (hr r e).2⟩, ⟨hg.os.trans h.t.os, hg.tape.trans h.t.tape, hg.output.trans h.t.output, Nat.le_trans h.t.size hg.size, fun k hk hs => (hg.block k (Nat.lt_of_lt_of_le hk h.t.size) (hne k (by omega))).trans (h.t.block k hk hs)⟩⟩
theorem row_slice {W : World} {B : Nat} {e : TypeId} {v : Value} {n k : Nat} {xs : List Value} (h : W.ownsRow B e k v n xs) : ∃ a c, v = .slice a n c := by
  rcases h.2 with ⟨rfl, rfl⟩ | ⟨g, cap, cur, rfl, _⟩ <;> exact ⟨_, _, rfl⟩
/-- One more. -/
theorem Gather.more {w0 : World} {A B0 : Nat} {pre : List ByteArray} {W w1 : World} {x : ByteArray} {v v' : Value} (h : Gather w0 A B0 pre W) (hA : A < B0) (hsz : w0.heap.size ≤ B0) (hb : W.heap[A]? = some (.cells #[v] 53 (0, 0))) (ho : W.ownsRow B0 9 1 v pre.length (pre.map Value.string))
    (h1 : w1.ownsRow B0 9 1 v' (pre.length + 1) (pre.map Value.string ++ [.string x])) (hg : (W.alloc (.cells #[.string x] 9)).grownBy w1 v.ownBlock) :
    Gather w0 A B0 (pre ++ [x]) (w1.setCell ⟨A, 0, none⟩ v') ∧ (∀ k, k < W.heap.size → k < B0 → k ≠ A → (w1.setCell ⟨A, 0, none⟩ v').heap[k]? = W.heap[k]?) ∧ (∀ (k : Nat) (o : Obj), B0 ≤ k → W.heap[k]? = some o → o.isCells = false → (w1.setCell ⟨A, 0, none⟩ v').heap[k]? = some o) ∧ W.heap.size ≤ (w1.setCell ⟨A, 0, none⟩ v').heap.size := by
  have hrow : ∀ k, v.ownBlock = some k → B0 ≤ k ∧ ∃ cur, W.heap[k]? = some (.cells cur 9 (0, 0)) := by
    intro k hk
    rcases ho.2 with ⟨rfl, _⟩ | ⟨g, cap, cur, rfl, hB, hbk, _⟩
    · cases hk
    · cases hk; exact ⟨hB, cur, hbk⟩
  have hs := hg.size
  rw [size_alloc] at hs
  have hle : w0.heap.size ≤ W.heap.size := h.t.size
  have hlow : ∀ k, k < W.heap.size → k < B0 → k ≠ A → (w1.setCell ⟨A, 0, none⟩ v').heap[k]? = W.heap[k]? := fun k h1 h2 h3 => by
    rw [get_other _ _ _ h3, hg.block k (by rw [size_alloc]; omega) (fun e => by have := (hrow k e.symm).1; omega), get_alloc _ _ h1]
  refine ⟨⟨⟨v', ?_, ?_⟩, ⟨hg.os.trans h.t.os, hg.tape.trans h.t.tape, hg.output.trans h.t.output, by rw [size_set]; omega, fun k hk hkA => (hlow k (by omega) (by omega) hkA).trans (h.t.block k hk hkA)⟩⟩, hlow, fun k o hB hk ho => ?_, by rw [size_set]; omega⟩
  · rw [get_self, hg.block A (by rw [size_alloc]; have := lt_of_block hb; omega) (fun e => by have := (hrow A e.symm).1; omega), get_alloc _ _ (lt_of_block hb), hb]; rfl
  · rw [List.map_append, List.length_append]
    refine ⟨h1.1, h1.2.imp id ?_⟩
    rintro ⟨g, cap, cur, e', hB, hbk, r⟩
    exact ⟨g, cap, cur, e', hB, (get_other _ _ _ (by omega)).trans hbk, r⟩
  · rw [get_other _ _ _ (by omega), hg.block k (by rw [size_alloc]; have := lt_of_block hk; omega) (fun e => by
      obtain ⟨_, cur, hc⟩ := hrow k e.symm
      rw [hk] at hc
      cases hc
      cases ho), get_alloc _ _ (lt_of_block hk)]
    exact hk
theorem Gather.strs {w0 : World} {A B0 : Nat} {l : List ByteArray} {W : World} (h : Gather w0 A B0 l W) : ∃ v, W.cell? ⟨A, 0, none⟩ = some v ∧ Strs (From B0) W v l := by
  obtain ⟨v, h1, h2⟩ := h.box
  refine ⟨v, by rw [cell_of_block h1]; rfl, ?_⟩
  rcases h2.2 with ⟨rfl, h0⟩ | ⟨g, cap, cur, rfl, hB, hb, _, _, _, ht⟩
  · exact .inl ⟨rfl, List.eq_nil_of_length_eq_zero h0⟩
  · refine .inr ⟨g, cap, cur, rfl, hB, hb, fun i x hx => ?_⟩
    have hl : i < l.length := (List.getElem?_eq_some_iff.1 hx).1
    have h3 : (l.map Value.string)[i]? = some (.string x) := by rw [List.getElem?_map, hx]; rfl
    rw [← ht, List.getElem?_take, if_pos (by omega)] at h3
    simpa using h3
end Go.Proofs.YthchfkjdbfhnhaaGreatDoor
