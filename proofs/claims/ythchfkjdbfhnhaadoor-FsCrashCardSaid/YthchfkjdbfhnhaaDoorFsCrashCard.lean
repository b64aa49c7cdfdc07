/- Behind a call that goes wrong each file but the one that was written is as it was, and that one has what it had, or a beginning of what was to be written: the row, and its card. -/
import Derived.Test.YthchfkjdbfhnhaaDoorRow
import Derived.Test.YthchfkjdbfhnhaaDoorCrashLaw
import Derived.Test.YthchfkjdbfhnhaaDoorOpenArgs
import Derived.Test.YthchfkjdbfhnhaaDoorCards
import Derived.ChangeMaps5
namespace Go.Proofs.YthchfkjdbfhnhaaDoor
open Go Go.RowKit Go.ChangeShapes Go.WideShapes Go.ChangeAt Go.ChangeMaps Go.Lany
set_option maxRecDepth 100000
theorem laidOut : laidOutB Tryd.prog = true := by kernel_rfl
set_option maxHeartbeats 1000000 in
theorem fsCrash_lifted (os : Os) (started : os.Started) (H : Type) (enc : TypeId × Value → H) :
    ReturnsInHanded {} Tryd.checked os 5 .any (fun w args => (Rows.fsCrashSpec.pre enc Tryd.prog Tryd.f5 [] false w args ∧ laidMetH Tryd.prog laidHere w) ∧ sizedMet enc Tryd.prog Tryd.f5 (OpenSpec.ofChange Rows.fsCrashSpec) false w args)
      (Rows.fsCrashSpec.post enc Tryd.prog Tryd.f5 false true false false) := by
  refine handed_laid_shaped (C := Tryd.checked) (X := fun w _ => laidMetH Tryd.prog laidHere w) own started (by kernel_rfl) Tryd.func5
    (ChangeSpec.witness_shaped (enc := enc) (C := Tryd.checked) (os := os) (X := fun w _ => laidMetH Tryd.prog laidHere w) false (World.laidAll Tryd.prog os laidHere) #[.slice none 0 0, .agg #[.int .i64 0, .string ⟨#[]⟩, .string ⟨#[]⟩, .slice none 0 0, .int .i64 0, .int .i64 0, .int .i64 0]] 8 (World.laidAll_os _ _ _)
      (World.shaped_of_ZipB (by kernel_rfl) (by kernel_rfl)) (by kernel_rfl) (by kernel_rfl) (by kernel_rfl)
      (by rw [MakeChecks.laidMetH_plain _ _ _ (by kernel_rfl)]; exact laidMet_laidAll _ (by kernel_rfl) (by kernel_rfl))) ?_
  intro W base args ds gs before hval0 hW hwt hsh
  have hval : ∀ (j : Nat) t v, Tryd.f5.params[j]? = some t → args[j]? = some v → Value.okWide Tryd.prog W .any base t v := hval0
  have hW' := hW
  obtain ⟨p, q, hA0, hV, rfl, _, _⟩ := hW
  have hA : DataW.TrodAll enc Tryd.prog W 0 (fun _ => true) true Tryd.f5.params.toList args.toList ds p := hA0
  rw [Tryd.params5] at hA hval hwt
  obtain ⟨v0, v1, d0, d1, p0, p1, rfl, rfl, rfl, h0, h1⟩ := trodAll_two hA
  obtain ⟨rfl, rfl⟩ := trodVars_none hV
  simp only [List.append_nil] at hW'
  have hlt0 : ∀ x ∈ p0, x.block < W.heap.size := fun x hx => by simpa using hW'.lt x (by simp [hx])
  have hlt1 : ∀ x ∈ p1, x.block < W.heap.size := fun x hx => by simpa using hW'.lt x (by simp [hx])
  have hwe := List.all_eq_true.1 hwt
  simp only [decide_eq_true_eq] at hwe
  have hL0 : Light 24 d0 := fun m hm => hwe m (by
    show m ∈ DataW.weightsEach Tryd.prog ([24, 43] ++ _) ([d0, d1] ++ [])
    simp only [List.cons_append, List.nil_append, DataW.weightsEach, List.mem_append]
    exact (.inl hm))
  have hL1 : Light 43 d1 := fun m hm => hwe m (by
    show m ∈ DataW.weightsEach Tryd.prog ([24, 43] ++ _) ([d0, d1] ++ [])
    simp only [List.cons_append, List.nil_append, DataW.weightsEach, List.mem_append]
    exact (.inr (.inl hm)))
  have h0k := h0
  obtain ⟨a0, n0, c0, rfl⟩ := okWide_slice Tryd.underlying24 (hval 0 24 v0 rfl rfl)
  obtain ⟨fuel0, hf0⟩ := h0
  have hg0 : DataW.trod enc Tryd.prog W 0 (fun _ => true) true fuel0 24 [.slice a0 n0 c0] = some (d0, p0) := by simpa [Value.cells] using hf0
  obtain ⟨l0, hs0, hsl0⟩ := script_of_trod hg0 hL0
  have h1k := h1
  obtain ⟨cs1, rfl, -⟩ := okWide_struct Tryd.underlying43 (hval 1 43 v1 rfl rfl)
  obtain ⟨fuel1, hf1⟩ := h1
  obtain ⟨o1, hc1, ho1, hol1⟩ := opV_of_trod hf1
  have hcs1 : cs1 = o1.cells.toArray := by
    have := congrArg List.toArray hc1
    simpa [Value.cells] using this
  subst hcs1
  refine (fsCrash_any (ml_of_shaped hsh) hs0 (by have := hsl0; unfold reachBytes at this; omega) o1 ho1 (by have := hol1 hL1; unfold reachBytes at this; omega)).mono fun e W' ⟨he, hb⟩ => ?_
  subst he
  exact ⟨_, rfl, _, _, _, [], _, [], hW', trodAll_mk1 (shut_bool Tryd.underlying4 _), trodAll_mk2 (Below.trod laidOut (by kernel_rfl) (of_decide_eq_true (by kernel_rfl)) h0k hb hlt0) (Below.trod laidOut (by kernel_rfl) (of_decide_eq_true (by kernel_rfl)) h1k hb hlt1), rfl, hb.frame _, fun h => by cases h⟩
theorem fsCrash_holds : Rows.FsCrashSaid :=
  OpenClaim.holds_of_wide 5 Tryd.f5 rfl rfl rfl rfl rfl rfl rfl ⟨rfl, rfl, rfl, rfl, rfl⟩ rfl rfl rfl rfl rfl (by kernel_rfl) Tryd.func5 (by kernel_rfl)
    (of_decide_eq_true (by kernel_rfl)) (by unfold Func.isWrapper; first | (rw [if_pos (by decide +kernel)]; kernel_rfl) | (rw [if_neg (by decide +kernel)]; exact ⟨rfl, rfl⟩))
    (fun os started H enc _ => fsCrash_lifted os started H enc)
theorem fsCrash_card : Rows.FsCrashCardSaid :=
  Claim7.holds_tied_plain_at .later [] [.data, .pinned] true Rows.fsCrashCard.stood.harness false fsCrash_holds (fun _ h => by cases h) (by kernel_rfl) (fun _ h => by cases h) fsCrash_row_tie rfl ⟨rfl, rfl⟩ (by kernel_rfl) rfl
    (fun f fn hf hfn => by
      obtain rfl : f = 5 := Option.some.inj ((show Tryd.prog.funcNamed "lanyard/lanyardlaw02.FsCrash" = some 5 by kernel_rfl).symm.trans hf) |>.symm
      obtain rfl : fn = Tryd.f5 := (Option.some.inj (Tryd.func5.symm.trans hfn)).symm
      exact ⟨by kernel_rfl, fun j t ht => by
        rw [Tryd.params5] at ht
        have hm : t ∈ [24, 43] := by simpa using Array.mem_of_getElem? ht
        have hall : ([24, 43].all fun u => !Tryd.prog.wantsStandIn u) = true := by kernel_rfl
        exact (show Tryd.prog.wantsStandIn t = false by simpa using List.all_eq_true.1 hall t hm)⟩)
    (by kernel_rfl)
#print axioms fsCrash_card
end Go.Proofs.YthchfkjdbfhnhaaDoor
