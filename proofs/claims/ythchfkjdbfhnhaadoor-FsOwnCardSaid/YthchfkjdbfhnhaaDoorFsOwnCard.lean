/- What is handed in is not kept, and what is answered is nobody's else: the row, and its card. -/
import Derived.Test.YthchfkjdbfhnhaaDoorRow
import Derived.Test.YthchfkjdbfhnhaaDoorOwnLaw
import Derived.Test.YthchfkjdbfhnhaaDoorOpenArgs
import Derived.Test.YthchfkjdbfhnhaaDoorCards
import Derived.ChangeMaps5
namespace Go.Proofs.YthchfkjdbfhnhaaDoor
open Go Go.RowKit Go.ChangeShapes Go.WideShapes Go.ChangeAt Go.ChangeMaps Go.Lany
set_option maxRecDepth 100000
theorem laidOut : laidOutB Tryd.prog = true := by kernel_rfl
set_option maxHeartbeats 1000000 in
theorem fsOwn_lifted (os : Os) (started : os.Started) (H : Type) (enc : TypeId × Value → H) :
    ReturnsInHanded {} Tryd.checked os 6 .any (fun w args => (Rows.fsOwnSpec.pre enc Tryd.prog Tryd.f6 [] false w args ∧ laidMetH Tryd.prog laidHere w) ∧ sizedMet enc Tryd.prog Tryd.f6 (OpenSpec.ofChange Rows.fsOwnSpec) false w args)
      (Rows.fsOwnSpec.post enc Tryd.prog Tryd.f6 false true false false) := by
  refine handed_laid_shaped (C := Tryd.checked) (X := fun w _ => laidMetH Tryd.prog laidHere w) own started (by kernel_rfl) Tryd.func6
    (ChangeSpec.witness_shaped (enc := enc) (C := Tryd.checked) (os := os) (X := fun w _ => laidMetH Tryd.prog laidHere w) false (World.laidAll Tryd.prog os laidHere) #[.slice none 0 0, .slice none 0 0] 8 (World.laidAll_os _ _ _)
      (World.shaped_of_ZipB (by kernel_rfl) (by kernel_rfl)) (by kernel_rfl) (by kernel_rfl) (by kernel_rfl)
      (by rw [MakeChecks.laidMetH_plain _ _ _ (by kernel_rfl)]; exact laidMet_laidAll _ (by kernel_rfl) (by kernel_rfl))) ?_
  intro W base args ds gs before hval0 hW hwt hsh
  have hval : ∀ (j : Nat) t v, Tryd.f6.params[j]? = some t → args[j]? = some v → Value.okWide Tryd.prog W .any base t v := hval0
  have hW' := hW
  obtain ⟨p, q, hA0, hV, rfl, _, _⟩ := hW
  have hA : DataW.TrodAll enc Tryd.prog W 0 (fun _ => true) true Tryd.f6.params.toList args.toList ds p := hA0
  rw [Tryd.params6] at hA hval hwt
  obtain ⟨v0, v1, d0, d1, p0, p1, rfl, rfl, rfl, h0, h1⟩ := trodAll_two hA
  obtain ⟨rfl, rfl⟩ := trodVars_none hV
  simp only [List.append_nil] at hW'
  have hlt0 : ∀ x ∈ p0, x.block < W.heap.size := fun x hx => by simpa using hW'.lt x (by simp [hx])
  have hlt1 : ∀ x ∈ p1, x.block < W.heap.size := fun x hx => by simpa using hW'.lt x (by simp [hx])
  have hwe := List.all_eq_true.1 hwt
  simp only [decide_eq_true_eq] at hwe
  have hL0 : Light 41 d0 := fun m hm => hwe m (by
    show m ∈ DataW.weightsEach Tryd.prog ([41, 24] ++ _) ([d0, d1] ++ [])
    simp only [List.cons_append, List.nil_append, DataW.weightsEach, List.mem_append]
    exact (.inl hm))
  have hL1 : Light 24 d1 := fun m hm => hwe m (by
    show m ∈ DataW.weightsEach Tryd.prog ([41, 24] ++ _) ([d0, d1] ++ [])
    simp only [List.cons_append, List.nil_append, DataW.weightsEach, List.mem_append]
    exact (.inr (.inl hm)))
  have h0k := h0
  obtain ⟨a0, n0, c0, rfl⟩ := okWide_slice Tryd.underlying41 (hval 0 41 v0 rfl rfl)
  obtain ⟨fuel0, hf0⟩ := h0
  have hg0 : DataW.trod enc Tryd.prog W 0 (fun _ => true) true fuel0 41 [.slice a0 n0 c0] = some (d0, p0) := by simpa [Value.cells] using hf0
  obtain ⟨b0, hb0, hbl0⟩ := bytes_of_trod hg0
  have h1k := h1
  obtain ⟨a1, n1, c1, rfl⟩ := okWide_slice Tryd.underlying24 (hval 1 24 v1 rfl rfl)
  obtain ⟨fuel1, hf1⟩ := h1
  have hg1 : DataW.trod enc Tryd.prog W 0 (fun _ => true) true fuel1 24 [.slice a1 n1 c1] = some (d1, p1) := by simpa [Value.cells] using hf1
  obtain ⟨l1, hs1, hsl1⟩ := script_of_trod hg1 hL1
  refine (fsOwn_any (ml_of_shaped hsh) hb0 (by have := hbl0 hL0; unfold reachBytes at this; omega) hs1 (by have := hsl1; unfold reachBytes at this; omega)).mono fun e W' ⟨he, hb⟩ => ?_
  subst he
  exact ⟨_, rfl, _, _, _, [], _, [], hW', trodAll_mk1 (shut_bool Tryd.underlying4 _), trodAll_mk2 (Below.trod laidOut (by kernel_rfl) (of_decide_eq_true (by kernel_rfl)) h0k hb hlt0) (Below.trod laidOut (by kernel_rfl) (of_decide_eq_true (by kernel_rfl)) h1k hb hlt1), rfl, hb.frame _, fun h => by cases h⟩
theorem fsOwn_holds : Rows.FsOwnSaid :=
  OpenClaim.holds_of_wide 6 Tryd.f6 rfl rfl rfl rfl rfl rfl rfl ⟨rfl, rfl, rfl, rfl, rfl⟩ rfl rfl rfl rfl rfl (by kernel_rfl) Tryd.func6 (by kernel_rfl)
    (of_decide_eq_true (by kernel_rfl)) (by unfold Func.isWrapper; first | (rw [if_pos (by decide +kernel)]; kernel_rfl) | (rw [if_neg (by decide +kernel)]; exact ⟨rfl, rfl⟩))
    (fun os started H enc _ => fsOwn_lifted os started H enc)
theorem fsOwn_card : Rows.FsOwnCardSaid :=
  Claim7.holds_tied_plain_at .later [] [.data, .pinned] true Rows.fsOwnCard.stood.harness false fsOwn_holds (fun _ h => by cases h) (by kernel_rfl) (fun _ h => by cases h) fsOwn_row_tie rfl ⟨rfl, rfl⟩ (by kernel_rfl) rfl
    (fun f fn hf hfn => by
      obtain rfl : f = 6 := Option.some.inj ((show Tryd.prog.funcNamed "lanyard/lanyardlaw02.FsOwn" = some 6 by kernel_rfl).symm.trans hf) |>.symm
      obtain rfl : fn = Tryd.f6 := (Option.some.inj (Tryd.func6.symm.trans hfn)).symm
      exact ⟨by kernel_rfl, fun j t ht => by
        rw [Tryd.params6] at ht
        have hm : t ∈ [41, 24] := by simpa using Array.mem_of_getElem? ht
        have hall : ([41, 24].all fun u => !Tryd.prog.wantsStandIn u) = true := by kernel_rfl
        exact (show Tryd.prog.wantsStandIn t = false by simpa using List.all_eq_true.1 hall t hm)⟩)
    (by kernel_rfl)
#print axioms fsOwn_card
end Go.Proofs.YthchfkjdbfhnhaaDoor
