/- The shape of an operation that came in. -/
import Derived.Test.YthchfkjdbfhnhaaGreatDoorRow
import Derived.ChangeArms
import Derived.Lib.SmallJoins
import Derived.ChangeMaps5
namespace Go.Proofs.YthchfkjdbfhnhaaGreatDoor
open Go Go.RowKit Go.ChangeShapes Go.WideShapes Go.ChangeAt Go.Joins
set_option maxRecDepth 100000
theorem list7 {α : Type} {l : List α} (h : l.length = 7) : ∃ a b c d e f g, l = [a, b, c, d, e, f, g] := by
  rcases l with _ | ⟨a, _ | ⟨b, _ | ⟨c, _ | ⟨d, _ | ⟨e, _ | ⟨f, _ | ⟨g, _ | ⟨x, l⟩⟩⟩⟩⟩⟩⟩⟩ <;> simp at h
  exact ⟨a, b, c, d, e, f, g, rfl⟩
section
variable {H : Type} {enc : TypeId × Value → H} {w : World} {base : Nat} {spare : Nat → Bool} {held : Bool}
theorem field_of {fuel : Nat} {fs : Array Field} {cs : List Value} {xs : List (DataW H × List MemPlace)} (hxs : xs.length = fs.size)
    (hel : ∀ (i : Nat) (f : Field), fs[i]? = some f → DataW.trod enc Tryz.prog w base spare held fuel f.type ((cs.drop f.offset).take (Tryz.prog.cellsOf f.type)) = xs[i]?) (i : Nat) (f : Field) (hf : fs[i]? = some f) (v : Value) (hv : (cs.drop f.offset).take (Tryz.prog.cellsOf f.type) = [v]) :
    ∃ y, DataW.trod enc Tryz.prog w base spare held fuel f.type [v] = some y := by
  have h := hel i f hf
  rw [hv] at h
  have hi : i < fs.size := (Array.getElem?_eq_some_iff.1 hf).1
  exact ⟨xs[i], by rw [h, List.getElem?_eq_getElem (by omega)]⟩
theorem opCells : Tryz.prog.cellsOf 32 = 7 := by kernel_rfl
theorem oneInt : Tryz.prog.cellsOf 3 = 1 := by kernel_rfl
theorem oneString : Tryz.prog.cellsOf 9 = 1 := by kernel_rfl
theorem oneBytes : Tryz.prog.cellsOf 30 = 1 := by kernel_rfl
theorem op_shape {fuel : Nat} {cs : List Value} {x : DataW H × List MemPlace} (h : DataW.trod enc Tryz.prog w base spare held fuel 32 cs = some x) :
    ∃ (d k kind keep : Int) (path dest : ByteArray) (a : Option Addr) (n c : Nat), cs = [.int .i64 d, .string path, .string dest, .slice a n c, .int .i64 k, .int .i64 kind, .int .i64 keep] := by
  obtain ⟨xs, m, rfl, hx, hlen, hsz, hel⟩ := DataW.trod_struct Tryz.underlying32 h
  obtain ⟨v0, v1, v2, v3, v4, v5, v6, rfl⟩ := list7 (hlen.trans opCells)
  have hxs : xs.length = 7 := hsz
  obtain ⟨y0, h0⟩ := field_of hsz hel 0 _ rfl v0 (by simp [oneInt])
  obtain ⟨y1, h1⟩ := field_of hsz hel 1 _ rfl v1 (by simp [oneString])
  obtain ⟨y2, h2⟩ := field_of hsz hel 2 _ rfl v2 (by simp [oneString])
  obtain ⟨y3, h3⟩ := field_of hsz hel 3 _ rfl v3 (by simp [oneBytes])
  obtain ⟨y4, h4⟩ := field_of hsz hel 4 _ rfl v4 (by simp [oneInt])
  obtain ⟨y5, h5⟩ := field_of hsz hel 5 _ rfl v5 (by simp [oneInt])
  obtain ⟨y6, h6⟩ := field_of hsz hel 6 _ rfl v6 (by simp [oneInt])
  obtain ⟨d, e0, -, -⟩ := DataW.trod_int Tryz.underlying3 h0
  obtain ⟨path, e1, -⟩ := DataW.trod_string Tryz.underlying9 h1
  obtain ⟨dest, e2, -⟩ := DataW.trod_string Tryz.underlying9 h2
  obtain ⟨a, n, c, e3⟩ := slice_form Tryz.underlying30 h3
  obtain ⟨k, e4, -, -⟩ := DataW.trod_int Tryz.underlying3 h4
  obtain ⟨kind, e5, -, -⟩ := DataW.trod_int Tryz.underlying3 h5
  obtain ⟨keep, e6, -, -⟩ := DataW.trod_int Tryz.underlying3 h6
  simp only [List.cons.injEq, and_true] at e0 e1 e2 e3 e4 e5 e6
  subst e0 e1 e2 e3 e4 e5 e6
  exact ⟨d, k, kind, keep, path, dest, a, n, c, rfl⟩
end
end Go.Proofs.YthchfkjdbfhnhaaGreatDoor
