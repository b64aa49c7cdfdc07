/- A file system that no call made: reading, writing, removing. -/
import Derived.Test.YtofkdmmoheffbaaGreatDoorFsF
namespace Go.Proofs.YtofkdmmoheffbaaGreatDoor
open Go Go.RowKit Go.Lany
set_option maxRecDepth 100000
/-- A pointer to no file system, or to one that no call made. -/
def NoneAt (w : World) (v : Value) : Prop := v = .pointer none ∨ ∃ f, v = fsPtr f ∧ w.cell? ⟨f, 0, none⟩ = some (.map none)
def Ret (v : Value) (w : World) (e : Ending) (w' : World) : Prop := e = .returned v ∧ w = w'
theorem none_not {w : World} {v : Value} (h : NoneAt w v) : Calls Tryz.prog 31 #[v] w fun e w' => e = .returned (.bool true) ∧ w = w' := by
  rcases h with rfl | ⟨f, rfl, h⟩
  · exact none_nil w
  · exact none_zero h
theorem looks_not {w : World} {v : Value} (h : NoneAt w v) (vl : Value) : Calls Tryz.prog 53 #[v, vl] w (Ret (.int .i64 2) w) := by
  have hn := none_not h
  clear h
  go_enter Tryz.func53, Tryz.ntmps53
  go_wp2_with (go_at_call 31; refine hn.mono ?_; rintro e w' ⟨rfl, rfl⟩)
  go_ret
  exact ⟨rfl, rfl⟩
theorem NoneAt.alloc {w : World} {v : Value} (h : NoneAt w v) (o : Obj) : NoneAt (w.alloc o) v := by
  rcases h with rfl | ⟨f, rfl, h⟩
  · exact .inl rfl
  · exact .inr ⟨f, rfl, (((Below.refl _ w).alloc (Nat.le_refl _) o).cell (p := ⟨f, 0, none⟩) (World.block_lt_of_cell? _ _ h)).trans h⟩
def RetB (v : Value) (w : World) (e : Ending) (w' : World) : Prop := e = .returned v ∧ Below w.heap.size w w'
theorem read_not {w : World} {v : Value} (h : NoneAt w v) (p : ByteArray) : Calls Tryz.prog 26 #[v, .string p] w (RetB (.tuple #[.slice none 0 0, .int .i64 2]) w) := by
  have hn := fun o vl => looks_not (h.alloc o) vl
  clear h
  go_enter Tryz.func26, Tryz.ntmps26
  go_wp2_with (go_at_call 53; refine (hn _ _).mono ?_; rintro e w' ⟨rfl, rfl⟩)
  go_ret2
  exact ⟨rfl, (Below.refl _ _).alloc (Nat.le_refl _) _⟩
theorem writeE_not {w : World} {v : Value} (h : NoneAt w v) (p : ByteArray) (vo vb : Value) (b : Bool) : Calls Tryz.prog 59 #[v, .string p, vo, vb, .bool b] w (RetB (.int .i64 2) w) := by
  have hn := fun o vl => looks_not (h.alloc o) vl
  clear h
  go_enter Tryz.func59, Tryz.ntmps59
  go_wp2_with (go_at_call 53; refine (hn _ _).mono ?_; rintro e w' ⟨rfl, rfl⟩)
  go_ret
  exact ⟨rfl, (Below.refl _ _).alloc (Nat.le_refl _) _⟩
theorem write_not {w : World} {v : Value} (h : NoneAt w v) (p : ByteArray) (vb : Value) : Calls Tryz.prog 38 #[v, .string p, vb] w (RetB (.int .i64 2) w) := by
  have hn := writeE_not h p (.slice none 0 0) vb false
  clear h
  go_enter Tryz.func38, Tryz.ntmps38
  go_wp2_with (go_at_call 59; refine hn.mono ?_; rintro e w' ⟨rfl, hb⟩)
  go_ret
  exact ⟨rfl, hb⟩
theorem append_not {w : World} {v : Value} (h : NoneAt w v) (p : ByteArray) (vb : Value) : Calls Tryz.prog 28 #[v, .string p, vb] w (RetB (.int .i64 2) w) := by
  have hn := none_not h
  clear h
  go_enter Tryz.func28, Tryz.ntmps28
  go_wp2_with (go_at_call 31; refine hn.mono ?_; rintro e w' ⟨rfl, rfl⟩)
  go_ret
  exact ⟨rfl, Below.refl _ _⟩
theorem remove_not {w : World} {v : Value} (h : NoneAt w v) (p : ByteArray) : Calls Tryz.prog 61 #[v, .string p] w (RetB (.int .i64 2) w) := by
  have hn := fun o vl => looks_not (h.alloc o) vl
  clear h
  go_enter Tryz.func61, Tryz.ntmps61
  go_wp2_with (go_at_call 53; refine (hn _ _).mono ?_; rintro e w' ⟨rfl, rfl⟩)
  go_ret
  exact ⟨rfl, (Below.refl _ _).alloc (Nat.le_refl _) _⟩
end Go.Proofs.YtofkdmmoheffbaaGreatDoor
