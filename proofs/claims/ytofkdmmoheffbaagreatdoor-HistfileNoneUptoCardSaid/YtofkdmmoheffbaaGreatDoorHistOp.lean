/- An operation on a history's file that came in. -/
import Derived.Test.YtofkdmmoheffbaaGreatDoorHistRow
import Derived.Test.YtofkdmmoheffbaaGreatDoorHistHOp
namespace Go.Proofs.YtofkdmmoheffbaaGreatDoor
open Go Go.RowKit Go.ChangeShapes Go.WideShapes Go.ChangeAt Go.Joins Go.Lany
set_option maxRecDepth 100000
theorem list8 {α : Type} {l : List α} (h : l.length = 8) : ∃ a b c d e f g i, l = [a, b, c, d, e, f, g, i] := by
  rcases l with _ | ⟨a, _ | ⟨b, _ | ⟨c, _ | ⟨d, _ | ⟨e, _ | ⟨f, _ | ⟨g, _ | ⟨i, _ | ⟨x, l⟩⟩⟩⟩⟩⟩⟩⟩⟩ <;> simp at h
  exact ⟨a, b, c, d, e, f, g, i, rfl⟩
section
variable {H : Type} {enc : TypeId × Value → H} {w : World} {base : Nat} {spare : Nat → Bool} {held : Bool}
theorem opCells : Tryz.prog.cellsOf 39 = 8 := by kernel_rfl
theorem oneInt : Tryz.prog.cellsOf 3 = 1 := by kernel_rfl
theorem oneBool : Tryz.prog.cellsOf 4 = 1 := by kernel_rfl
theorem oneBytes : Tryz.prog.cellsOf 37 = 1 := by kernel_rfl
theorem oneLines : Tryz.prog.cellsOf 26 = 1 := by kernel_rfl
theorem fit_of_bulk {l : List HL} {B : Nat} (h : (l.map fun y => y.1.size + 3).sum ≤ B) (hB : B ≤ 1048576) : Fit l := by
  obtain ⟨a, b, c⟩ := bulk_bounds h hB
  exact ⟨a, b, c⟩
theorem wf_r64 {n : Int} (h : (Lit.int .i64 n).wf = true) : R64 n := by simpa [R64, Lit.wf, IntKind.min, IntKind.max, IntKind.signed, IntKind.bits] using h
theorem hop_of_trod {fuel : Nat} {cs : List Value} {x : DataW H × List MemPlace} (h : DataW.trod enc Tryz.prog w base spare held fuel 39 cs = some x) (hb : Rows.uptoBulk x.1 ≤ 1048576) :
    ∃ o : HOp, o.reads (fun k => k < w.heap.size) w cs ∧ o.Fits := by
  obtain ⟨xs, m, rfl, hx, hlen, hsz, hel⟩ := DataW.trod_struct Tryz.underlying39 h
  obtain ⟨v0, v1, v2, v3, v4, v5, v6, v7, rfl⟩ := list8 (hlen.trans opCells)
  have hxs : xs.length = 8 := hsz
  obtain ⟨y0, z0, h0⟩ := field_of hsz hel 0 _ rfl v0 (by simp [oneInt])
  obtain ⟨y1, z1, h1⟩ := field_of hsz hel 1 _ rfl v1 (by simp [oneString])
  obtain ⟨y2, z2, h2⟩ := field_of hsz hel 2 _ rfl v2 (by simp [oneBool])
  obtain ⟨y3, z3, h3⟩ := field_of hsz hel 3 _ rfl v3 (by simp [oneLines])
  obtain ⟨y4, z4, h4⟩ := field_of hsz hel 4 _ rfl v4 (by simp [oneInt])
  obtain ⟨y5, z5, h5⟩ := field_of hsz hel 5 _ rfl v5 (by simp [oneInt])
  obtain ⟨y6, z6, h6⟩ := field_of hsz hel 6 _ rfl v6 (by simp [oneInt])
  obtain ⟨y7, z7, h7⟩ := field_of hsz hel 7 _ rfl v7 (by simp [oneBytes])
  have hall : Rows.uptoBulkAll (xs.map fun x => x.1) ≤ 1048576 := by
    rw [hx] at hb
    simp only [Rows.uptoBulk] at hb
    omega
  have hpart : ∀ {i : Nat} {y : DataW H × List MemPlace}, xs[i]? = some y → Rows.uptoBulk y.1 ≤ 1048576 := fun hy =>
    Nat.le_trans (bulk_part (List.mem_map.2 ⟨_, List.mem_of_getElem? hy, rfl⟩)) hall
  obtain ⟨kind, e0, -, q0⟩ := DataW.trod_int Tryz.underlying3 h0
  obtain ⟨path, e1, d1, -⟩ := DataW.trod_string Tryz.underlying9 h1
  obtain ⟨t, e2, -⟩ := DataW.trod_bool Tryz.underlying4 h2
  obtain ⟨l, hl, hlb⟩ := lines_of_trod h3
  obtain ⟨n, e4, -, q4⟩ := DataW.trod_int Tryz.underlying3 h4
  obtain ⟨fault, e5, -, q5⟩ := DataW.trod_int Tryz.underlying3 h5
  obtain ⟨keep, e6, -, q6⟩ := DataW.trod_int Tryz.underlying3 h6
  obtain ⟨s, hs, hsb⟩ := bytes_of_trod h7
  simp only [List.cons.injEq, and_true] at e0 e1 e2 e4 e5 e6
  subst e0 e1 e2 e4 e5 e6
  have hp := hpart z1
  rw [d1] at hp
  simp only [Rows.uptoBulk] at hp
  have hpl : path.data.toList.length = path.size := by simp
  refine ⟨⟨kind, path, t, l, n, fault, keep, s⟩, ⟨v3, v7, rfl, hl, hs⟩, ⟨by show path.size ≤ _; omega, fit_of_bulk hlb (hpart z3), Nat.le_trans hsb (hpart z7), ?_, ?_, ?_, ?_⟩⟩
  · exact wf_r64 q0
  · exact wf_r64 q4
  · exact wf_r64 q5
  · exact wf_r64 q6
end
end Go.Proofs.YtofkdmmoheffbaaGreatDoor
