/- Slices of bytes in memory; blocks and their cells. -/
import Derived.Test.YtofkdmmoheffbaaGreatDoorProg
import Derived.Test.YtofkdmmoheffbaaGreatDoorMaps
namespace Go.Proofs.YtofkdmmoheffbaaGreatDoor
open Go Go.RowKit Go.Lany
set_option maxRecDepth 100000
/-- A slice of bytes that reads as bs; its array lies in a block of F. -/
def Bytes (F : Nat → Prop) (w : World) (v : Value) (bs : ByteArray) : Prop :=
  (v = .slice none 0 0 ∧ bs.size = 0) ∨
  ∃ b off sp cap, bs.size ≤ cap ∧ v = .slice (some ⟨b, off, sp⟩) bs.size cap ∧ (bs.size = 0 ∨ sp = none ∧ F b ∧ ∃ cells e fr, w.heap[b]? = some (.cells cells e fr) ∧ ∀ i (h : i < bs.size), cells[off + i]? = some (.int .u8 (bs[i].toNat : Int)))
/-- The library's own variable holds some number. -/
def Ml (w : World) : Prop := ∃ n, w.cell? ⟨1, 0, none⟩ = some (.int .i64 n)
theorem Ml.kept {S : Nat → Prop} {w w' : World} (h : Ml w) (t : Turns S w w') (hs : ¬ S 1) : Ml w' := by
  obtain ⟨n, h⟩ := h
  exact ⟨n, (World.cell?_of_block (w := w) (t.block _ (World.block_lt_of_cell? _ _ h) hs)).trans h⟩
theorem Ml.below {w w' : World} (h : Ml w) (t : Below w.heap.size w w') : Ml w' := h.kept (S := fun _ => False) (Turns.of_below t) id
theorem cell_of_block {w : World} {b : Nat} {c : Array Value} {e : TypeId} {fr : Nat × Nat} (h : w.heap[b]? = some (.cells c e fr)) (i : Nat) : w.cell? ⟨b, i, none⟩ = c[i]? := by simp [World.cell?, h]
theorem free_of_block {w : World} {b : Nat} {c : Array Value} {e : TypeId} (h : w.heap[b]? = some (.cells c e (0, 0))) (i : Nat) : w.frozen? ⟨b, i, none⟩ = false := by simp [World.frozen?, h]
theorem set_block {w : World} {b : Nat} {c : Array Value} {e : TypeId} {fr : Nat × Nat} (h : w.heap[b]? = some (.cells c e fr)) (i : Nat) (v : Value) : (w.setCell ⟨b, i, none⟩ v).heap[b]? = some (.cells (c.setIfInBounds i v) e fr) := by
  simp only [World.setCell, Array.getElem?_modify, if_true, h, Option.map_some, Option.isSome_none, Bool.false_eq_true, if_false]
theorem set_other {w : World} {b k : Nat} (i : Nat) (v : Value) (h : k ≠ b) : (w.setCell ⟨b, i, none⟩ v).heap[k]? = w.heap[k]? := Below.heap_setCell _ _ _ _ h
def putCell (i : Nat) (v : Value) : Obj → Obj
  | .cells c e fr => .cells (c.setIfInBounds i v) e fr
  | o => o
theorem putCell_cells (i : Nat) (v : Value) (c : Array Value) (e : TypeId) (fr : Nat × Nat) : putCell i v (.cells c e fr) = .cells (c.setIfInBounds i v) e fr := rfl
theorem get_self (w : World) (b i : Nat) (v : Value) : (w.setCell ⟨b, i, none⟩ v).heap[b]? = (w.heap[b]?).map (putCell i v) := by
  simp only [World.setCell, Array.getElem?_modify, if_true]
  cases w.heap[b]? with
  | none => rfl
  | some o => cases o <;> rfl
theorem get_other (w : World) {b k : Nat} (i : Nat) (v : Value) (h : k ≠ b) : (w.setCell ⟨b, i, none⟩ v).heap[k]? = w.heap[k]? := Below.heap_setCell _ _ _ _ h
theorem get_alloc (w : World) (o : Obj) {k : Nat} (h : k < w.heap.size) : (w.alloc o).heap[k]? = w.heap[k]? := Below.heap_alloc w o k h
theorem get_new (w : World) (o : Obj) : (w.alloc o).heap[w.heap.size]? = some o := (MapKept.heap_alloc w o).1
theorem size_set (w : World) (a : Addr) (v : Value) : (w.setCell a v).heap.size = w.heap.size := by simp [World.setCell]
theorem size_alloc (w : World) (o : Obj) : (w.alloc o).heap.size = w.heap.size + 1 := by simp
theorem lt_of_block {w : World} {b : Nat} {o : Obj} (h : w.heap[b]? = some o) : b < w.heap.size := (Array.getElem?_eq_some_iff.1 h).1
theorem Bytes.mono {F G : Nat → Prop} {w : World} {v : Value} {bs : ByteArray} (h : Bytes F w v bs) (hf : ∀ k, k < w.heap.size → F k → G k) : Bytes G w v bs := by
  rcases h with h | ⟨b, off, sp, cap, hcap, rfl, h⟩
  · exact .inl h
  · refine .inr ⟨b, off, sp, cap, hcap, rfl, h.imp id ?_⟩
    rintro ⟨hsp, h2, cells, e, fr, h3, h4⟩
    exact ⟨hsp, hf b (lt_of_block h3) h2, cells, e, fr, h3, h4⟩
theorem Bytes.kept {F S : Nat → Prop} {w w' : World} {v : Value} {bs : ByteArray} (h : Bytes F w v bs) (t : Turns S w w') (hs : ∀ k, F k → ¬ S k) : Bytes F w' v bs := by
  rcases h with h | ⟨b, off, sp, cap, hcap, rfl, h⟩
  · exact .inl h
  · refine .inr ⟨b, off, sp, cap, hcap, rfl, h.imp id ?_⟩
    rintro ⟨hsp, h2, cells, e, fr, h3, h4⟩
    exact ⟨hsp, h2, cells, e, fr, (t.block b (lt_of_block h3) (hs b h2)).trans h3, h4⟩
theorem Bytes.below {F : Nat → Prop} {w w' : World} {v : Value} {bs : ByteArray} (h : Bytes F w v bs) (t : Below w.heap.size w w') : Bytes F w' v bs := h.kept (S := fun _ => False) (Turns.of_below t) (fun _ _ => id)
/-- The slice's own facts: its length, its cells. -/
theorem Bytes.len {F : Nat → Prop} {w : World} {v : Value} {bs : ByteArray} (h : Bytes F w v bs) : ∃ a cap, v = .slice a bs.size cap := by
  rcases h with ⟨h, h0⟩ | ⟨b, off, sp, cap, hcap, rfl, h⟩
  · exact ⟨none, 0, by rw [h0]; exact h⟩
  · exact ⟨_, _, rfl⟩
theorem Bytes.cells {F : Nat → Prop} {w : World} {a : Addr} {n cap : Nat} {bs : ByteArray} (h : Bytes F w (.slice (some a) n cap) bs) : n = bs.size ∧ ∀ i (h : i < bs.size), w.cell? (a.add i) = some (.int .u8 (bs[i].toNat : Int)) := by
  rcases h with ⟨h, h0⟩ | ⟨b', off', sp', cap', hcap, e, h⟩
  · cases h
  · cases e
    refine ⟨rfl, fun i hi => ?_⟩
    rcases h with h | ⟨rfl, _, cells, e, fr, h3, h4⟩
    · omega
    · rw [Addr.add_lit, cell_of_block h3]; exact h4 i hi
theorem Bytes.cell {F : Nat → Prop} {w : World} {b off n cap : Nat} {bs : ByteArray} (h : Bytes F w (.slice (some ⟨b, off, none⟩) n cap) bs) : n = bs.size ∧ ∀ i (h : i < bs.size), w.cell? ⟨b, off + i, none⟩ = some (.int .u8 (bs[i].toNat : Int)) :=
  ⟨h.cells.1, fun i hi => by rw [← h.cells.2 i hi, Addr.add_lit]⟩
end Go.Proofs.YtofkdmmoheffbaaGreatDoor
