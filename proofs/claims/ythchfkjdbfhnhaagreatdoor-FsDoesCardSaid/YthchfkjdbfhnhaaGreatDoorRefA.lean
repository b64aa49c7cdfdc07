/- The document's file system in memory. -/
import Derived.Test.YthchfkjdbfhnhaaGreatDoorRefPlain
namespace Go.Proofs.YthchfkjdbfhnhaaGreatDoor
open Go Go.RowKit Go.Lany
set_option maxRecDepth 100000
/-- A row of files: each a path and a slice. -/
def cellsF (vs : List (ByteArray × Value)) : List Value := vs.flatMap fun p => [.string p.1, p.2]
theorem cellsF_length (vs : List (ByteArray × Value)) : (cellsF vs).length = vs.length * 2 := by
  induction vs with
  | nil => rfl
  | cons p vs ih => simp only [cellsF, List.flatMap_cons, List.length_append, List.length_cons, List.length_nil] at *; omega
theorem cellsF_append (a b : List (ByteArray × Value)) : cellsF (a ++ b) = cellsF a ++ cellsF b := by simp [cellsF]
theorem cellsF_get {vs : List (ByteArray × Value)} {k : Nat} {p : ByteArray × Value} (h : vs[k]? = some p) : (cellsF vs)[k * 2]? = some (.string p.1) ∧ (cellsF vs)[k * 2 + 1]? = some p.2 := by
  induction vs generalizing k with
  | nil => simp at h
  | cons q vs ih =>
    rcases k with _ | k
    · simp at h
      subst h
      exact ⟨rfl, rfl⟩
    · have := ih (k := k) (by simpa using h)
      simp only [cellsF, List.flatMap_cons] at *
      rw [show (k + 1) * 2 = k * 2 + 2 by omega, show k * 2 + 2 + 1 = k * 2 + 1 + 2 by omega]
      simpa using this
theorem cellsF_take (vs : List (ByteArray × Value)) (k : Nat) : cellsF (vs.take k) = (cellsF vs).take (k * 2) := by
  induction vs generalizing k with
  | nil => simp [cellsF]
  | cons q vs ih =>
    rcases k with _ | k
    · simp [cellsF]
    · have := ih k
      simp only [cellsF, List.take_succ_cons, List.flatMap_cons] at *
      rw [this, show (k + 1) * 2 = k * 2 + 1 + 1 by omega]
      simp
theorem cellsF_drop (vs : List (ByteArray × Value)) (k : Nat) : cellsF (vs.drop k) = (cellsF vs).drop (k * 2) := by
  induction vs generalizing k with
  | nil => simp [cellsF]
  | cons q vs ih =>
    rcases k with _ | k
    · simp
    · have := ih k
      simp only [cellsF, List.drop_succ_cons, List.flatMap_cons] at *
      rw [this, show (k + 1) * 2 = k * 2 + 1 + 1 by omega]
      simp
theorem cellsF_set {vs : List (ByteArray × Value)} {k : Nat} {p : ByteArray} {u v : Value} (h : vs[k]? = some (p, u)) : cellsF (vs.set k (p, v)) = (cellsF vs).set (k * 2 + 1) v := by
  induction vs generalizing k with
  | nil => simp at h
  | cons q vs ih =>
    rcases k with _ | k
    · simp at h
      subst h
      simp [cellsF]
    · have := ih (k := k) (by simpa using h)
      simp only [cellsF, List.set_cons_succ, List.flatMap_cons] at *
      rw [this, show (k + 1) * 2 + 1 = k * 2 + 1 + 1 + 1 by omega]
      simp
/-- Block r is the document's file system of s; all of it in blocks of G. -/
structure RA (W : World) (r : Nat) (G : Nat → Prop) (s : FsSt) (v : Value) (K Kp : Int) (vs : List (ByteArray × Value)) (fs : List (ByteArray × ByteArray)) : Prop where
  obj : W.heap[r]? = some (.cells #[v, .int .i64 s.left, .int .i64 K, .int .i64 Kp, .int .i64 s.calls, .bool s.down] 28 (0, 0))
  row : W.ownsRow 0 67 2 v vs.length (cellsF vs)
  rowG : ∀ k, v.ownBlock = some k → G k ∧ k ≠ r
  data : Both (fun u b => W.ownsRow 0 5 1 u b.size (byteCells b) ∧ ∀ k, u.ownBlock = some k → G k ∧ k ≠ r ∧ some k ≠ v.ownBlock) vs fs
  sorts : Sorts s fs
  fault : s.left ≠ 0 → K = s.kind ∧ Kp = s.keep ∧ 1 ≤ s.kind ∧ s.kind ≤ 3
  left : 0 ≤ s.left ∧ s.left ≤ 9223372036854775807
  inG : G r
  far : ¬ G 0
def RAt (W : World) (r : Nat) (G : Nat → Prop) (s : FsSt) : Prop := ∃ v K Kp vs fs, RA W r G s v K Kp vs fs
theorem ownsRow_turns {W W' : World} {B : Nat} {e : TypeId} {n k : Nat} {v : Value} {xs : List Value} {S : Nat → Prop} (h : W.ownsRow B e k v n xs) (t : Turns S W W') (hs : ∀ b, v.ownBlock = some b → ¬ S b) : W'.ownsRow B e k v n xs := by
  refine ⟨h.1, h.2.imp id ?_⟩
  rintro ⟨g, cap, cur, rfl, hB, hb, r⟩
  exact ⟨g, cap, cur, rfl, hB, (t.block g (lt_of_block hb) (hs g rfl)).trans hb, r⟩
theorem RA.kept {W W' : World} {r : Nat} {G S : Nat → Prop} {s : FsSt} {v : Value} {K Kp : Int} {vs : List (ByteArray × Value)} {fs : List (ByteArray × ByteArray)} (h : RA W r G s v K Kp vs fs) (t : Turns S W W') (hs : ∀ k, G k → ¬ S k) : RA W' r G s v K Kp vs fs :=
  ⟨(t.block r (lt_of_block h.obj) (hs r h.inG)).trans h.obj, ownsRow_turns h.row t fun b hb => hs b (h.rowG b hb).1, h.rowG, h.data.mono fun _ _ _ hp => ⟨ownsRow_turns hp.1 t fun b hb => hs b (hp.2 b hb).1, hp.2⟩, h.sorts, h.fault, h.left, h.inG, h.far⟩
theorem RA.below {W W' : World} {r : Nat} {G : Nat → Prop} {s : FsSt} {v : Value} {K Kp : Int} {vs : List (ByteArray × Value)} {fs : List (ByteArray × ByteArray)} (h : RA W r G s v K Kp vs fs) (t : Below W.heap.size W W') : RA W' r G s v K Kp vs fs := h.kept (S := fun _ => False) (Turns.of_below t) fun _ _ => id
theorem RA.mono {W : World} {r : Nat} {G G' : Nat → Prop} {s : FsSt} {v : Value} {K Kp : Int} {vs : List (ByteArray × Value)} {fs : List (ByteArray × ByteArray)} (h : RA W r G s v K Kp vs fs) (hg : ∀ k, k < W.heap.size → G k → G' k) (hf : ¬ G' 0) : RA W r G' s v K Kp vs fs :=
  ⟨h.obj, h.row, fun k hk => ⟨hg k (h.row.lt k hk).2 (h.rowG k hk).1, (h.rowG k hk).2⟩, h.data.mono fun _ _ _ hp => ⟨hp.1, fun k hk => ⟨hg k (hp.1.lt k hk).2 (hp.2 k hk).1, (hp.2 k hk).2⟩⟩, h.sorts, h.fault, h.left, hg r (lt_of_block h.obj) h.inG, hf⟩
theorem RA.keys {W : World} {r : Nat} {G : Nat → Prop} {s : FsSt} {v : Value} {K Kp : Int} {vs : List (ByteArray × Value)} {fs : List (ByteArray × ByteArray)} (h : RA W r G s v K Kp vs fs) : akeys vs = akeys fs ∧ vs.length = fs.length := ⟨h.data.akeys, h.data.length⟩
/-- The cells of the object. -/
theorem RA.cells {W : World} {r : Nat} {G : Nat → Prop} {s : FsSt} {v : Value} {K Kp : Int} {vs : List (ByteArray × Value)} {fs : List (ByteArray × ByteArray)} (h : RA W r G s v K Kp vs fs) :
    W.cell? ⟨r, 0, none⟩ = some v ∧ W.cell? ⟨r, 1, none⟩ = some (.int .i64 s.left) ∧ W.cell? ⟨r, 2, none⟩ = some (.int .i64 K) ∧ W.cell? ⟨r, 3, none⟩ = some (.int .i64 Kp) ∧ W.cell? ⟨r, 4, none⟩ = some (.int .i64 s.calls) ∧ W.cell? ⟨r, 5, none⟩ = some (.bool s.down) ∧ ∀ i, W.frozen? ⟨r, i, none⟩ = false := by
  refine ⟨?_, ?_, ?_, ?_, ?_, ?_, free_of_block h.obj⟩ <;> (rw [cell_of_block h.obj]; rfl)
/-- The row's form: its address, the cells of each file. -/
theorem RA.form {W : World} {r : Nat} {G : Nat → Prop} {s : FsSt} {v : Value} {K Kp : Int} {vs : List (ByteArray × Value)} {fs : List (ByteArray × ByteArray)} (h : RA W r G s v K Kp vs fs) :
    ∃ a cap, v = .slice a fs.length cap ∧ ∀ k x, fs[k]? = some x → ∃ g u, a = some ⟨g, 0, none⟩ ∧ vs[k]? = some (x.1, u) ∧ W.cell? ⟨g, k * 2, none⟩ = some (.string x.1) ∧ W.cell? ⟨g, k * 2 + 1, none⟩ = some u ∧ W.frozen? ⟨g, k * 2 + 1, none⟩ = false ∧ W.ownsRow 0 5 1 u x.2.size (byteCells x.2) := by
  have hl := h.keys.2
  rcases h.row.2 with ⟨rfl, h0⟩ | ⟨g, cap, cur, rfl, _, hb, hc, _, _, ht⟩
  · refine ⟨none, 0, by rw [← hl, h0], fun k x hx => ?_⟩
    have : k < fs.length := (List.getElem?_eq_some_iff.1 hx).1
    omega
  · refine ⟨some ⟨g, 0, none⟩, cap, by rw [hl], fun k x hx => ?_⟩
    have hk : k < fs.length := (List.getElem?_eq_some_iff.1 hx).1
    obtain ⟨y, hy⟩ : ∃ y, vs[k]? = some y := ⟨_, List.getElem?_eq_getElem (by omega)⟩
    have hrel : y.1 = x.1 ∧ W.ownsRow 0 5 1 y.2 x.2.size (byteCells x.2) := by
      have hd := h.data
      clear hb ht hc h hl hk
      induction hd generalizing k with
      | nil => simp at hx
      | @cons k' a b l l' hr _ ih =>
        rcases k with _ | k
        · simp at hx hy
          rw [← hx, ← hy]
          exact ⟨rfl, hr.1⟩
        · exact ih k (by simpa using hx) (by simpa using hy)
    obtain ⟨h1, h2⟩ := cellsF_get hy
    have hcur : ∀ (j : Nat) (w : Value), j < vs.length * 2 → (cellsF vs)[j]? = some w → cur[j]? = some w := fun j w hj hw => by
      rw [← ht, List.getElem?_take, if_pos hj] at hw
      simpa using hw
    refine ⟨g, y.2, rfl, by rw [hy, ← hrel.1], ?_, ?_, free_of_block hb _, hrel.2⟩
    · rw [cell_of_block hb, ← hrel.1]; exact hcur _ _ (by omega) h1
    · rw [cell_of_block hb]; exact hcur _ _ (by omega) h2
end Go.Proofs.YthchfkjdbfhnhaaGreatDoor
