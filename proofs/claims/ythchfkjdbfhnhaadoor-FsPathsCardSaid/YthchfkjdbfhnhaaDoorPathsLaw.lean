/- Which paths may be: the program and the reference agree. -/
import Derived.Test.YthchfkjdbfhnhaaDoorBegun
import Derived.Test.YthchfkjdbfhnhaaDoorRefGood
namespace Go.Proofs.YthchfkjdbfhnhaaDoor
open Go Go.RowKit Go.Lany
set_option maxRecDepth 100000
theorem fsPaths_any (p : ByteArray) {w : World} (hml : Ml w) : Calls Tryd.prog 3 #[.string p] w (BoolPost true w) := by
  cases hb : goodB p
  all_goals
    go_enter Tryd.func3, Tryd.ntmps3
    go_wp2_with (first
      | (go_at_call 8; refine (begun_any hml).mono ?_; rintro e w1 ⟨rfl, t1⟩; have T1 := Lib.hid t1; have hm1 := hml.below t1; clear t1)
      | (go_at_call 9; refine (good_any p _ hm1).mono ?_; rw [hb]; rintro e w2 ⟨rfl, t2⟩; have T2 := Lib.hid t2; clear t2)
      | (go_at_call 10; refine (refGood_any p _).mono ?_; rw [hb]; rintro e w3 ⟨rfl, t3⟩; have T3 := Lib.hid t3; clear t3))
    go_ret
    exact ⟨rfl, T1.out.trans ((T2.out.mono T1.out.size).trans (T3.out.mono (Nat.le_trans T1.out.size T2.out.size)))⟩
end Go.Proofs.YthchfkjdbfhnhaaDoor
