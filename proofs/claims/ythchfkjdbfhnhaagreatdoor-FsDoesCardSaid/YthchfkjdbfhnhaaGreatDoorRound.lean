/- A region that draws its order, in a round: as outside it. -/
import Derived.Test.YthchfkjdbfhnhaaGreatDoorIter2
import Derived.TacticsIn
namespace Go.Proofs.YthchfkjdbfhnhaaGreatDoor
open Go Go.RowKit
theorem uponIn_inRound {F : Fence} {n : Nat} {P : Program} {o : Oper} {a : Act} {K K' : Act → World → Prop} {Q : Exit → Act → World → Prop} {l : Nat} (hK : ∀ a w, K a w → K' a w) : ∀ r : Result Next, Oper.uponIn F n P o a K Q r → Oper.uponIn (F.inRound l) n P o a K' Q r := by
  intro r h
  unfold Oper.uponIn at *
  split at h
  · exact hK _ _ h
  · exact hK _ _ h
  · exact hK _ _ h
  · refine ⟨h.1, ?_⟩
    refine CallsIn.mono (CallsIn.inRound l h.2) ?_
    intro e w'' hr
    cases e with
    | returned v => exact hK _ _ hr
    | panicked c => exact hr
    | outgrown => exact hr
  · exact ⟨h.1, RowsIn.mono h.2 fun v w'' hr => hK _ _ hr⟩
  · refine ⟨h.1, RoundIn.mono h.2 ?_⟩
    intro e w'' hr
    cases e with
    | returned v => exact hK _ _ hr
    | panicked c => exact hr
    | outgrown => exact hr
  · exact h
  · exact h.elim
theorem wpAnyIn_inRound {F : Fence} {n : Nat} {P : Program} {md : Region.Mode} {ops : Array Oper} {Q : Exit → Act → World → Prop} {l : Nat} (hro : F.round = none) (hops : ∀ (i : Nat) o, ops[i]? = some o → ∀ c, o.op ≠ .defer c) :
    ∀ (fuel : Nat) (listed : Array Bool) (a : Act) (w : World), wpAnyIn F n P md ops Q fuel listed a w → wpAnyIn (F.inRound l) n P md ops Q fuel listed a w := by
  intro fuel
  induction fuel with
  | zero => intro listed a w h; exact h
  | succ fuel ih =>
    intro listed a w h
    refine ⟨h.1, fun i hi => ?_⟩
    have h2 := h.2 i hi
    unfold wpOpIn at *
    cases ho : ops[i]? with
    | none => rw [ho] at h2; exact ih _ _ _ h2
    | some o =>
      rw [ho] at h2
      simp only at h2 ⊢
      by_cases hw : Region.wanted o (yielded ops a.tmps) = true
      · rw [if_pos hw] at h2 ⊢
        refine ⟨h2.1, ?_⟩
        have h3 := uponIn_inRound (l := l) (ih _) _ h2.2
        rw [Oper.semAt_eq _ _ _ (hops i o ho)] at h3 ⊢
        exact h3
      · rw [if_neg hw] at h2 ⊢
        exact ⟨h2.1, ih _ _ _ h2.2⟩
/-- A region behind which nothing but the normal way is open. -/
def OnlyThen (K : Act → World → Prop) : Exit → Act → World → Prop
  | .normal, a, w => K a w
  | _, _, _ => False
theorem wpIn_only {F : Fence} {n : Nat} {P : Program} {c : Code} {K : Act → World → Prop} {Q : Exit → Act → World → Prop} {a : Act} {w : World} (h : c.wpIn F n P (OnlyThen K) a w) : c.wpIn F n P (Exit.then K Q) a w :=
  Code.wpIn_mono (fun e a w h => by cases e <;> first | exact h | exact h.elim) h
end Go.Proofs.YthchfkjdbfhnhaaGreatDoor
