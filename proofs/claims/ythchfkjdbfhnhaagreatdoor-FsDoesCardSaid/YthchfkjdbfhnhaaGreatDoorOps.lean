/- A script that came in. -/
import Derived.Test.YthchfkjdbfhnhaaGreatDoorOneP
namespace Go.Proofs.YthchfkjdbfhnhaaGreatDoor
open Go Go.RowKit Go.Lany
set_option maxRecDepth 100000
/-- An operation as memory has it. -/
structure OpV where
  d : Int
  path : ByteArray
  dest : ByteArray
  a : Option Addr
  b : ByteArray
  cap : Nat
  k : Int
  kind : Int
  keep : Int
def OpV.cells (o : OpV) : List Value := [.int .i64 o.d, .string o.path, .string o.dest, .slice o.a o.b.size o.cap, .int .i64 o.k, .int .i64 o.kind, .int .i64 o.keep]
def FsSt.oneV (s : FsSt) (o : OpV) : Int × FsSt := s.one o.d o.k o.kind o.keep o.path o.dest o.b
def FsSt.runV (s : FsSt) (l : List OpV) : FsSt := l.foldl (fun s o => (s.oneV o).2) s
theorem FsSt.runV_snoc (s : FsSt) (l : List OpV) (o : OpV) : s.runV (l ++ [o]) = ((s.runV l).oneV o).2 := by simp [FsSt.runV]
theorem FsSt.runV_take (s : FsSt) (l : List OpV) {k : Nat} {o : OpV} (h : l[k]? = some o) : s.runV (l.take (k + 1)) = ((s.runV (l.take k)).oneV o).2 := by rw [take_next h, FsSt.runV_snoc]
theorem FsSt.Wf.oneV {s : FsSt} (h : s.Wf) (o : OpV) : (s.oneV o).2.Wf := h.one _ _ _ _ _ _ _
theorem FsSt.Wf.runV {s : FsSt} (h : s.Wf) (l : List OpV) : (s.runV l).Wf := by
  induction l generalizing s with
  | nil => exact h
  | cons o l ih => exact ih (h.oneV o)
/-- A slice of operations that lies below block B, with the bytes that they have. -/
def Script (B : Nat) (w : World) (v : Value) (l : List OpV) : Prop :=
  ((v = .slice none 0 0 ∧ l = []) ∨ ∃ b off sp cap, v = .slice (some ⟨b, off, sp⟩) l.length cap ∧ (l = [] ∨ sp = none ∧ b < B ∧ ∃ cells e fr, w.heap[b]? = some (.cells cells e fr) ∧ ∀ i (h : i < l.length) (j : Nat) (u : Value), l[i].cells[j]? = some u → cells[off + i * 7 + j]? = some u)) ∧
  ∀ o ∈ l, Bytes (fun k => k < B) w (.slice o.a o.b.size o.cap) o.b ∧ o.b.size ≤ 140737488351232
theorem Script.kept {B : Nat} {S : Nat → Prop} {w w' : World} {v : Value} {l : List OpV} (h : Script B w v l) (t : Turns S w w') (hs : ∀ k, k < B → ¬ S k) : Script B w' v l := by
  refine ⟨?_, fun o ho => ⟨(h.2 o ho).1.kept t hs, (h.2 o ho).2⟩⟩
  rcases h.1 with h | ⟨b, off, sp, cap, e, h⟩
  · exact .inl h
  · refine .inr ⟨b, off, sp, cap, e, h.imp id ?_⟩
    rintro ⟨hsp, hb, cells, e, fr, h3, h4⟩
    exact ⟨hsp, hb, cells, e, fr, (t.block b (lt_of_block h3) (hs b hb)).trans h3, h4⟩
theorem Script.below {B : Nat} {w w' : World} {v : Value} {l : List OpV} (h : Script B w v l) (t : Below w.heap.size w w') : Script B w' v l := h.kept (S := fun _ => False) (Turns.of_below t) (fun _ _ => id)
theorem Script.form {B : Nat} {w : World} {v : Value} {l : List OpV} (h : Script B w v l) : (∃ a cap, v = .slice a l.length cap) := by
  rcases h.1 with ⟨rfl, rfl⟩ | ⟨b, off, sp, cap, rfl, _⟩ <;> exact ⟨_, _, rfl⟩
/-- The cells of one operation. -/
theorem Script.op {B : Nat} {w : World} {a : Option Addr} {n cap : Nat} {l : List OpV} (h : Script B w (.slice a n cap) l) {k : Nat} (hk : k < l.length) :
    ∃ b off, a = some ⟨b, off, none⟩ ∧ n = l.length ∧ ∀ (j : Nat) u, l[k].cells[j]? = some u → w.cell? ⟨b, off + k * 7 + j, none⟩ = some u := by
  rcases h.1 with ⟨_, rfl⟩ | ⟨b, off, sp, cap, e, h⟩
  · simp at hk
  · rcases h with rfl | ⟨rfl, hb, cells, e', fr, h3, h4⟩
    · simp at hk
    · cases e
      exact ⟨b, off, rfl, rfl, fun j u hu => by rw [cell_of_block h3]; exact h4 k hk j u hu⟩
theorem From.far {n g : Nat} (h : g < n) : ¬ From n g := fun e => Nat.not_le_of_lt h e
/-- A file system in blocks from base on, behind a call. -/
theorem FsAt.again {w w' : World} {f m c base : Nat} {s : FsSt} (h : FsAt w' f m c (Grow (From base) w.heap.size) s) (hb : base ≤ w.heap.size) (hg : 0 < base) : FsAt w' f m c (From base) s :=
  h.mono (fun k _ hk => hk.elim id fun e => Nat.le_trans hb e) (From.far hg)
theorem FsAt.own_from {w : World} {f m c base : Nat} {s : FsSt} (h : FsAt w f m c (From base) s) : ∀ k, k < base → ¬ Own3 f m c k := by
  obtain ⟨h1, h2, h3⟩ := h.inF
  have h1' : base ≤ f := h1
  have h2' : base ≤ m := h2
  have h3' : base ≤ c := h3
  rintro k hk (rfl | rfl | rfl) <;> omega
end Go.Proofs.YthchfkjdbfhnhaaGreatDoor
