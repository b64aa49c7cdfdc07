/- A file system that no call made: each call of it. -/
import Derived.Test.YthchfkjdbfhnhaaDoorFsF
import Derived.Test.YthchfkjdbfhnhaaDoorList
namespace Go.Proofs.YthchfkjdbfhnhaaDoor
open Go Go.RowKit Go.Lany
set_option maxRecDepth 100000
/-- A pointer to no file system, or to one that no call made. -/
def NoneAt (w : World) (v : Value) : Prop := v = .pointer none ∨ ∃ f, v = fsPtr f ∧ w.cell? ⟨f, 0, none⟩ = some (.map none)
def Ret (v : Value) (w : World) (e : Ending) (w' : World) : Prop := e = .returned v ∧ w = w'
theorem none_not {w : World} {v : Value} (h : NoneAt w v) : Calls Tryd.prog 31 #[v] w fun e w' => e = .returned (.bool true) ∧ w = w' := by
  rcases h with rfl | ⟨f, rfl, h⟩
  · exact none_nil w
  · exact none_zero h
theorem looks_not {w : World} {v : Value} (h : NoneAt w v) (vl : Value) : Calls Tryd.prog 36 #[v, vl] w (Ret (.int .i64 2) w) := by
  have hn := none_not h
  clear h
  go_enter Tryd.func36, Tryd.ntmps36
  go_wp2_with (go_at_call 31; refine hn.mono ?_; rintro e w' ⟨rfl, rfl⟩)
  go_ret
  exact ⟨rfl, rfl⟩
theorem NoneAt.alloc {w : World} {v : Value} (h : NoneAt w v) (o : Obj) : NoneAt (w.alloc o) v := by
  rcases h with rfl | ⟨f, rfl, h⟩
  · exact .inl rfl
  · exact .inr ⟨f, rfl, (((Below.refl _ w).alloc (Nat.le_refl _) o).cell (p := ⟨f, 0, none⟩) (World.block_lt_of_cell? _ _ h)).trans h⟩
def RetB (v : Value) (w : World) (e : Ending) (w' : World) : Prop := e = .returned v ∧ Below w.heap.size w w'
theorem read_not {w : World} {v : Value} (h : NoneAt w v) (p : ByteArray) : Calls Tryd.prog 23 #[v, .string p] w (RetB (.tuple #[.slice none 0 0, .int .i64 2]) w) := by
  have hn := fun o vl => looks_not (h.alloc o) vl
  clear h
  go_enter Tryd.func23, Tryd.ntmps23
  go_wp2_with (go_at_call 36; refine (hn _ _).mono ?_; rintro e w' ⟨rfl, rfl⟩)
  go_ret2
  exact ⟨rfl, (Below.refl _ _).alloc (Nat.le_refl _) _⟩
theorem list_not {w : World} {v : Value} (h : NoneAt w v) (p : ByteArray) : Calls Tryd.prog 16 #[v, .string p] w (RetB (.tuple #[.slice none 0 0, .int .i64 2]) w) := by
  have hn := fun vl => looks_not h vl
  clear h
  go_enter Tryd.func16, Tryd.ntmps16
  go_wp2_with (go_at_call 36; refine (hn _).mono ?_; rintro e w' ⟨rfl, rfl⟩)
  go_ret2
  exact ⟨rfl, Below.refl _ _⟩
theorem is_not {w : World} {v : Value} (h : NoneAt w v) (p : ByteArray) : Calls Tryd.prog 15 #[v, .string p] w (RetB (.tuple #[.bool false, .bool false]) w) := by
  have hn := none_not h
  clear h
  go_enter Tryd.func15, Tryd.ntmps15
  go_wp2_with (go_at_call 31; refine hn.mono ?_; rintro e w' ⟨rfl, rfl⟩)
  go_ret2
  exact ⟨rfl, Below.refl _ _⟩
theorem writeE_not {w : World} {v : Value} (h : NoneAt w v) (p : ByteArray) (vo vb : Value) (b : Bool) : Calls Tryd.prog 43 #[v, .string p, vo, vb, .bool b] w (RetB (.int .i64 2) w) := by
  have hn := fun o vl => looks_not (h.alloc o) vl
  clear h
  go_enter Tryd.func43, Tryd.ntmps43
  go_wp2_with (go_at_call 36; refine (hn _ _).mono ?_; rintro e w' ⟨rfl, rfl⟩)
  go_ret
  exact ⟨rfl, (Below.refl _ _).alloc (Nat.le_refl _) _⟩
theorem write_not {w : World} {v : Value} (h : NoneAt w v) (p : ByteArray) (vb : Value) : Calls Tryd.prog 22 #[v, .string p, vb] w (RetB (.int .i64 2) w) := by
  have hn := writeE_not h p (.slice none 0 0) vb false
  clear h
  go_enter Tryd.func22, Tryd.ntmps22
  go_wp2_with (go_at_call 43; refine hn.mono ?_; rintro e w' ⟨rfl, hb⟩)
  go_ret
  exact ⟨rfl, hb⟩
theorem append_not {w : World} {v : Value} (h : NoneAt w v) (p : ByteArray) (vb : Value) : Calls Tryd.prog 25 #[v, .string p, vb] w (RetB (.int .i64 2) w) := by
  have hn := none_not h
  clear h
  go_enter Tryd.func25, Tryd.ntmps25
  go_wp2_with (go_at_call 31; refine hn.mono ?_; rintro e w' ⟨rfl, rfl⟩)
  go_ret
  exact ⟨rfl, Below.refl _ _⟩
theorem rename_not {w : World} {v : Value} (h : NoneAt w v) (p q : ByteArray) : Calls Tryd.prog 26 #[v, .string p, .string q] w (RetB (.int .i64 2) w) := by
  have hn := fun o vl => looks_not (h.alloc o) vl
  clear h
  go_enter Tryd.func26, Tryd.ntmps26
  go_wp2_with (go_at_call 36; refine (hn _ _).mono ?_; rintro e w' ⟨rfl, rfl⟩)
  go_ret
  exact ⟨rfl, (Below.refl _ _).alloc (Nat.le_refl _) _⟩
theorem remove_not {w : World} {v : Value} (h : NoneAt w v) (p : ByteArray) : Calls Tryd.prog 27 #[v, .string p] w (RetB (.int .i64 2) w) := by
  have hn := fun o vl => looks_not (h.alloc o) vl
  clear h
  go_enter Tryd.func27, Tryd.ntmps27
  go_wp2_with (go_at_call 36; refine (hn _ _).mono ?_; rintro e w' ⟨rfl, rfl⟩)
  go_ret
  exact ⟨rfl, (Below.refl _ _).alloc (Nat.le_refl _) _⟩
theorem setFault_not {w : World} {v : Value} (h : NoneAt w v) (a b c : Int) : Calls Tryd.prog 13 #[v, .int .i64 a, .int .i64 b, .int .i64 c] w (RetB (.int .i64 2) w) := by
  have hn := none_not h
  clear h
  go_enter Tryd.func13, Tryd.ntmps13
  go_wp2_with (go_at_call 31; refine hn.mono ?_; rintro e w' ⟨rfl, rfl⟩)
  go_ret
  exact ⟨rfl, Below.refl _ _⟩
theorem restart_not {w : World} {v : Value} (h : NoneAt w v) : Calls Tryd.prog 12 #[v] w (RetB (.int .i64 2) w) := by
  have hn := none_not h
  clear h
  go_enter Tryd.func12, Tryd.ntmps12
  go_wp2_with (go_at_call 31; refine hn.mono ?_; rintro e w' ⟨rfl, rfl⟩)
  go_ret
  exact ⟨rfl, Below.refl _ _⟩
theorem calls_not {w : World} {v : Value} (h : NoneAt w v) : Calls Tryd.prog 28 #[v] w (RetB (.int .i64 0) w) := by
  have hn := none_not h
  clear h
  go_enter Tryd.func28, Tryd.ntmps28
  go_wp2_with (go_at_call 31; refine hn.mono ?_; rintro e w' ⟨rfl, rfl⟩)
  go_ret
  exact ⟨rfl, Below.refl _ _⟩
theorem down_not {w : World} {v : Value} (h : NoneAt w v) : Calls Tryd.prog 29 #[v] w (RetB (.bool false) w) := by
  have hn := none_not h
  clear h
  go_enter Tryd.func29, Tryd.ntmps29
  go_wp2_with (go_at_call 31; refine hn.mono ?_; rintro e w' ⟨rfl, rfl⟩)
  go_ret
  exact ⟨rfl, Below.refl _ _⟩
/-- 'slices.Values(s)': the slice is boxed, the function takes the box. -/
theorem values_any (a : Option Addr) (n c : Nat) (w : World) : Calls Tryd.prog 34 #[.slice a n c] w fun e w' => e = .returned (.func (.func 53) #[] #[.pointer (some ⟨w.heap.size, 0, none⟩)]) ∧ w' = w.alloc (.cells #[.slice a n c] 30) := by
  go_enter Tryd.func34, Tryd.ntmps34
  go_wp2
  go_ret
  exact ⟨rfl, rfl⟩
theorem paths_not {w : World} {v : Value} (h : NoneAt w v) : Calls Tryd.prog 14 #[v] w fun e w' => ∃ B, e = .returned (.func (.func 53) #[] #[.pointer (some ⟨B, 0, none⟩)]) ∧ w'.cell? ⟨B, 0, none⟩ = some (.slice none 0 0) ∧ Below w.heap.size w w' := by
  have hn := none_not h
  clear h
  go_enter Tryd.func14, Tryd.ntmps14
  go_wp2_with (first | (go_at_call 31; refine hn.mono ?_; rintro e w' ⟨rfl, rfl⟩) | (go_at_call 34; refine (values_any _ _ _ _).mono ?_; rintro e w' ⟨rfl, rfl⟩))
  go_ret
  exact ⟨_, rfl, by rw [cell_of_block (get_new _ _)]; rfl, (Below.refl _ _).alloc (Nat.le_refl _) _⟩
end Go.Proofs.YthchfkjdbfhnhaaDoor
