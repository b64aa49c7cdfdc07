/- slices.Values at strings. -/
import Derived.Test.YthchfkjdbfhnhaaGreatDoorFsA
namespace Go.Proofs.YthchfkjdbfhnhaaGreatDoor
open Go Go.RowKit Go.Lany
set_option maxRecDepth 100000
/-- 'slices.Values(s)': the slice is boxed, the function takes the box. -/
theorem values_any (a : Option Addr) (n c : Nat) (w : World) : Calls Tryz.prog 63 #[.slice a n c] w fun e w' => e = .returned (.func (.func 77) #[] #[.pointer (some ⟨w.heap.size, 0, none⟩)]) ∧ w' = w.alloc (.cells #[.slice a n c] 53) := by
  go_enter Tryz.func63, Tryz.ntmps63
  go_wp2
  go_ret
  exact ⟨rfl, rfl⟩
end Go.Proofs.YthchfkjdbfhnhaaGreatDoor
