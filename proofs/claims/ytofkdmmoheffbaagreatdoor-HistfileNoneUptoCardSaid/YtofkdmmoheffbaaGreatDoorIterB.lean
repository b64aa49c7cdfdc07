/- Ranges over functions: what a round keeps; the marks that they leave. -/
import Derived.RangeFuncNested
import Derived.RangeFuncBound
import Derived.RangeFuncCalls
import Derived.RangeFuncLeaves
import Derived.RangeFuncBox
import Derived.RangeFuncWrites
import Derived.Shelf.Abstract
import Derived.Shelf.RegionOpen
import Derived.WalkKit
import Derived.OwnWalkIn
import Derived.TacticsInMore
import Derived.LoopNIn
import Derived.LoopIn
import Derived.Test.YtofkdmmoheffbaaGreatDoorBy
namespace Go.Proofs.YtofkdmmoheffbaaGreatDoor
open Go Go.RowKit Go.Shelf Go.Lany
set_option maxRecDepth 100000
/-- What a round must keep: the blocks of K. -/
def KeepB (K : Nat → Prop) (W W' : World) : Prop := ∀ k, K k → W'.heap[k]? = W.heap[k]?
theorem keepB_t {K : Nat → Prop} {A B C : World} (h : KeepB K A B) (k : KeepB K B C) : KeepB K A C := fun i hi => (k i hi).trans (h i hi)
theorem keepB_b {K : Nat → Prop} {n : Nat} (hK : ∀ k, K k → k < n) (W : World) (l : Nat) (o o' : Obj) (hl : n ≤ l) (_ : W.heap[l]? = some o) (_ : o.isCells = false) (_ : o.isWalk = false) : KeepB K W (W.putObj l o') := fun k hk =>
  World.putObj_heap_other (by have := hK k hk; omega)
theorem keepB_refl (K : Nat → Prop) (W : World) : KeepB K W W := fun _ _ => rfl
/-- The marks that a function's ranges over functions have left: each block holds no call. -/
def Marks (base : Nat) (Ds : List Nat) (W : World) : Prop := Ds.Nodup ∧ ∀ D ∈ Ds, base ≤ D ∧ W.heap[D]? = some (.deferred (some []))
theorem Marks.nil (base : Nat) (W : World) : Marks base [] W := ⟨List.nodup_nil, fun _ h => by cases h⟩
theorem Marks.kept {base : Nat} {Ds : List Nat} {W W' : World} (h : Marks base Ds W) (t : Below W.heap.size W W') : Marks base Ds W' := ⟨h.1, fun D hD => ⟨(h.2 D hD).1, (t.block D (lt_of_block (h.2 D hD).2)).trans (h.2 D hD).2⟩⟩
theorem Marks.cons {base D : Nat} {Ds : List Nat} {W W' : World} (h : Marks base Ds W) (t : Below W.heap.size W W') (hb : base ≤ W.heap.size) (hD : W.heap.size ≤ D) (hK : W'.heap[D]? = some (.deferred (some []))) : Marks base (D :: Ds) W' := by
  refine ⟨List.nodup_cons.2 ⟨fun hm => ?_, h.1⟩, fun D' hD' => ?_⟩
  · have := lt_of_block (h.2 D hm).2
    omega
  · rcases List.mem_cons.1 hD' with rfl | hm
    · exact ⟨by omega, hK⟩
    · exact (h.kept t).2 D' hm
def marksOf (Ds : List Nat) : List Deferred := Ds.map fun D => { target := .collected D, args := #[] }
/-- A function leaves with its marks. -/
theorem leave_marks {F : Fence} {n : Nat} {P : Program} {fn : Func} {tmps : Array Value} {R : Ending → World → Prop} {base : Nat} : ∀ (Ds : List Nat) (W : World), Marks base Ds W →
    (∀ W', (∀ k, k ∉ Ds → W'.heap[k]? = W.heap[k]?) → Below base W W' → ∃ v, (results fn tmps).run P W' = .ok v W' ∧ R (.returned v) W') → LeavesInM F n P fn tmps R (marksOf Ds) .returning W
  | [], W, _, h => h W (fun _ _ => rfl) (Below.refl _ _)
  | D :: Ds, W, hm, h => by
    have hK := (hm.2 D (List.mem_cons_self ..)).2
    have hne : ∀ k, k ∈ Ds → k ≠ D := fun k hk e => (List.nodup_cons.1 hm.1).1 (e ▸ hk)
    refine ⟨by simp, .inl ⟨D, W.putObj D (.deferred none), rfl, run_takeDeferred hK, ?_⟩⟩
    have hb : Below base W (W.putObj D (.deferred none)) := (Below.refl base W).grown (grownBy_putObj' W D _) (Nat.le_of_lt (Nat.lt_of_le_of_lt (hm.2 D (List.mem_cons_self ..)).1 (lt_of_block hK))) (fun k e => by cases e; exact (hm.2 D (List.mem_cons_self ..)).1)
    refine leave_marks Ds _ ⟨(List.nodup_cons.1 hm.1).2, fun k hk => ⟨(hm.2 k (List.mem_cons_of_mem _ hk)).1, (World.putObj_heap_other (hne k hk)).trans (hm.2 k (List.mem_cons_of_mem _ hk)).2⟩⟩ fun W' h1 h2 => h W' (fun k hk => ?_) (hb.trans h2)
    rw [List.mem_cons, not_or] at hk
    exact (h1 k hk.2).trans (World.putObj_heap_other hk.1)
end Go.Proofs.YtofkdmmoheffbaaGreatDoor
