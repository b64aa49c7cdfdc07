/- Going through a slice of strings by slices.Values, and through a file system's paths. -/
import Derived.RangeFuncNested
import Derived.RangeFuncBound
import Derived.RangeFuncCalls
import Derived.RangeFuncLeaves
import Derived.RangeFuncBox
import Derived.RangeFuncWrites
import Derived.Shelf.Abstract
import Derived.Shelf.RegionOpen
import Derived.WalkKit
import Derived.OwnWalkIn
import Derived.TacticsInMore
import Derived.LoopNIn
import Derived.LoopIn
import Derived.Test.YthchfkjdbfhnhaaGreatDoorValues
import Derived.Test.YthchfkjdbfhnhaaGreatDoorSorted
namespace Go.Proofs.YthchfkjdbfhnhaaGreatDoor
open Go Go.RowKit Go.Shelf Go.Lany
attribute [local go_sem] Oper.semAt_some
set_option maxRecDepth 100000
/-- What a round must keep: the blocks of K. -/
def KeepB (K : Nat → Prop) (W W' : World) : Prop := ∀ k, K k → W'.heap[k]? = W.heap[k]?
theorem keepB_t {K : Nat → Prop} {A B C : World} (h : KeepB K A B) (k : KeepB K B C) : KeepB K A C := fun i hi => (k i hi).trans (h i hi)
theorem keepB_b {K : Nat → Prop} {n : Nat} (hK : ∀ k, K k → k < n) (W : World) (l : Nat) (o o' : Obj) (hl : n ≤ l) (_ : W.heap[l]? = some o) (_ : o.isCells = false) (_ : o.isWalk = false) : KeepB K W (W.putObj l o') := fun k hk =>
  World.putObj_heap_other (by have := hK k hk; omega)
theorem keepB_refl (K : Nat → Prop) (W : World) : KeepB K W W := fun _ _ => rfl
/-- What has come when k rounds are over. -/
def upto {α : Type} (f : Nat → α) (k : Nat) : List α := (List.range k).map f
theorem upto_succ {α : Type} (f : Nat → α) (k : Nat) : upto f (k + 1) = upto f k ++ [f k] := by simp [upto, List.range_succ]
theorem upto_length {α : Type} (f : Nat → α) (k : Nat) : (upto f k).length = k := by simp [upto]
theorem upto_take (zs : List ByteArray) {k : Nat} (hk : k ≤ zs.length) : upto (fun j => zs[j]?.getD ByteArray.empty) k = zs.take k := by
  apply List.ext_getElem
  · simp [upto, hk]
  · intro i h1 h2
    have : i < zs.length := by simp [upto] at h1; omega
    simp [upto, this]
theorem upto_all (zs : List ByteArray) : upto (fun j => zs[j]?.getD ByteArray.empty) zs.length = zs := by rw [upto_take zs (Nat.le_refl _), List.take_length]
set_option maxHeartbeats 2000000 in
theorem values1_in (F : Fence) (n : Nat) (hfn : F.fn 77) (hro : F.round = none) (hn : 1 ≤ n) (l Bs b cap : Nat) (zs : List ByteArray) (hreach : zs.length ≤ 140737488355328) (K : Nat → Prop) (hb : K b) (J Jx : List ByteArray → World → Prop)
    (hY : ∀ pre x W, J pre W → pre.length < zs.length → YieldAt F (n - 1) Tryz.prog l #[.string x] W fun e W' =>
      (e = .returned (.bool true) ∧ J (pre ++ [x]) W' ∧ KeepB K W W') ∨ (e = .returned (.bool false) ∧ Jx (pre ++ [x]) W'))
    (W : World) (hBs : W.cell? ⟨Bs, 0, none⟩ = some (.slice (some ⟨b, 0, none⟩) zs.length cap)) (cells : Array Value) (fr : Nat × Nat) (hbk : W.heap[b]? = some (.cells cells 9 fr)) (hc : ∀ (i : Nat) (x : ByteArray), zs[i]? = some x → cells[i]? = some (Value.string x)) (h0 : J [] W) :
    CallsIn F n Tryz.prog 77 #[.func (.yield l) #[] #[], .pointer (some ⟨Bs, 0, none⟩)] W fun e W' => (∃ v, e = .returned v) ∧
      ((∃ ys, ys = zs ∧ J ys W') ∨ (∃ pre, pre <+: zs ∧ Jx pre W')) := by
  refine callsIn_of_wp Tryz.func77 rfl hfn ?_ hro
  simp only [Tryz.ntmps77, List.size_toArray, List.length_cons, List.length_nil, Nat.reduceAdd, Nat.reduceSub, Array.replicate_succ, Array.replicate_zero, List.push_toArray, List.append_toArray, List.nil_append, List.cons_append]
  gi_wp2
  gi_loopw [7] (fun i wr => ∃ k : Nat, k ≤ zs.length ∧ i = .int .i64 k ∧ J (upto (fun j => zs[j]?.getD ByteArray.empty) k) wr ∧ KeepB K W wr)
    (fun i _ => zs.length - (intOf i).toNat)
  case atStart => exact ⟨0, Nat.zero_le _, rfl, h0, keepB_refl _ _⟩
  case round =>
    obtain ⟨k, hk, rfl, hJs, hnx⟩ := hrel
    have hcx : k < zs.length → wr.cell? ⟨b, k, none⟩ = some (.string (zs[k]?.getD ByteArray.empty)) := fun h => by
      rw [cell_of_block ((hnx b hb).trans hbk), List.getElem?_eq_getElem h]
      exact hc k _ (List.getElem?_eq_getElem h)
    have HNX := Lib.hid hnx
    clear hnx
    by_cases hlt : k < zs.length
    · have hcx' := hcx hlt
      obtain ⟨x, hx⟩ : ∃ x, x = zs[k]?.getD ByteArray.empty := ⟨_, rfl⟩
      rw [← hx] at hcx'
      obtain ⟨fn, tmps, assign, body, hy, hR⟩ := hY _ x wr hJs (by rw [upto_length]; exact hlt)
      have HX := Lib.hid hx
      clear hcx hx
      gi_wp2
      refine hR.mono ?_
      rintro e W3 (⟨rfl, hJ3, hk3⟩ | ⟨rfl, hJx3⟩)
      · have HK3 := Lib.hid hk3
        clear hk3
        gi_wp2
        go_roundw
        case rel => exact ⟨k + 1, by omega, by simp, by rw [upto_succ, ← HX.out]; exact hJ3, keepB_t HNX.out HK3.out⟩
        case measure => simp [intOf]; omega
      · gi_wp2
        refine bodyPost_ret (results_none rfl _ _ _) rfl ?_
        exact ⟨⟨_, rfl⟩, .inr ⟨_, by rw [HX.out, ← upto_succ (fun j => zs[j]?.getD ByteArray.empty), upto_take zs (by omega)]; exact List.take_prefix _ _, hJx3⟩⟩
    · obtain rfl : k = zs.length := by omega
      gi_wp2
      go_end0
      exact ⟨⟨_, rfl⟩, .inl ⟨_, upto_all zs, hJs⟩⟩
set_option maxHeartbeats 1000000 in
theorem values1_nil_in (F : Fence) (n : Nat) (hfn : F.fn 77) (hro : F.round = none) (l Bs : Nat) (J : List ByteArray → World → Prop) (W : World) (hBs : W.cell? ⟨Bs, 0, none⟩ = some (.slice none 0 0)) (h0 : J [] W) :
    CallsIn F n Tryz.prog 77 #[.func (.yield l) #[] #[], .pointer (some ⟨Bs, 0, none⟩)] W fun e W' => (∃ v, e = .returned v) ∧ J [] W' := by
  refine callsIn_of_wp Tryz.func77 rfl hfn ?_ hro
  simp only [Tryz.ntmps77, List.size_toArray, List.length_cons, List.length_nil, Nat.reduceAdd, Nat.reduceSub, Array.replicate_succ, Array.replicate_zero, List.push_toArray, List.append_toArray, List.nil_append, List.cons_append]
  gi_wp2
  gi_loopw [7] (fun i wr => i = .int .i64 0 ∧ J [] wr) (fun _ _ => 0)
  case atStart => exact ⟨rfl, h0⟩
  case round =>
    obtain ⟨rfl, hJs⟩ := hrel
    gi_wp2
    go_end0
    exact ⟨⟨_, rfl⟩, hJs⟩
/-- Going through a slice of strings: all of them, in order; or the first ones. -/
theorem values_stops (F : Fence) (n : Nat) (hfn : F.fn 77) (hro : F.round = none) (hn : 1 ≤ n) (Bs : Nat) (sv : Value) (zs : List ByteArray) (hreach : zs.length ≤ 140737488355328) (w : World) {K : Nat → Prop} (hBs : Bs < w.heap.size)
    (hc : w.cell? ⟨Bs, 0, none⟩ = some sv) (hI : Strs K w sv zs) :
    SeqStopsK F n Tryz.prog 77 #[.pointer (some ⟨Bs, 0, none⟩)] (fun x : ByteArray => #[Value.string x]) (KeepB K) (fun ys => ys = zs) (fun pre => pre <+: zs) zs.length w := fun l J Jx W hW _ _ hY h0 => by
  have hc' := (hW.cell (p := ⟨Bs, 0, none⟩) hBs).trans hc
  rcases hI with ⟨rfl, rfl⟩ | ⟨b, cap, cells, rfl, hb, hbk, hcs⟩
  · exact (values1_nil_in F n hfn hro l Bs J W hc' h0).mono fun e W' ⟨he, hj⟩ => ⟨he, .inl ⟨_, rfl, hj⟩⟩
  · exact values1_in F n hfn hro hn l Bs b cap zs hreach K hb J Jx hY W hc' cells (0, 0) ((hW.block b (lt_of_block hbk)).trans hbk) hcs h0
/-- The marks that a function's ranges over functions have left: each block holds no call. -/
def Marks (base : Nat) (Ds : List Nat) (W : World) : Prop := Ds.Nodup ∧ ∀ D ∈ Ds, base ≤ D ∧ W.heap[D]? = some (.deferred (some []))
theorem Marks.nil (base : Nat) (W : World) : Marks base [] W := ⟨List.nodup_nil, fun _ h => by cases h⟩
theorem Marks.kept {base : Nat} {Ds : List Nat} {W W' : World} (h : Marks base Ds W) (t : Below W.heap.size W W') : Marks base Ds W' := ⟨h.1, fun D hD => ⟨(h.2 D hD).1, (t.block D (lt_of_block (h.2 D hD).2)).trans (h.2 D hD).2⟩⟩
theorem Marks.cons {base D : Nat} {Ds : List Nat} {W W' : World} (h : Marks base Ds W) (t : Below W.heap.size W W') (hb : base ≤ W.heap.size) (hD : W.heap.size ≤ D) (hK : W'.heap[D]? = some (.deferred (some []))) : Marks base (D :: Ds) W' := by
  refine ⟨List.nodup_cons.2 ⟨fun hm => ?_, h.1⟩, fun D' hD' => ?_⟩
  · have := lt_of_block (h.2 D hm).2
    omega
  · rcases List.mem_cons.1 hD' with rfl | hm
    · exact ⟨by omega, hK⟩
    · exact (h.kept t).2 D' hm
def marksOf (Ds : List Nat) : List Deferred := Ds.map fun D => { target := .collected D, args := #[] }
/-- A function leaves with its marks. -/
theorem leave_marks {F : Fence} {n : Nat} {P : Program} {fn : Func} {tmps : Array Value} {R : Ending → World → Prop} {base : Nat} : ∀ (Ds : List Nat) (W : World), Marks base Ds W →
    (∀ W', (∀ k, k ∉ Ds → W'.heap[k]? = W.heap[k]?) → Below base W W' → ∃ v, (results fn tmps).run P W' = .ok v W' ∧ R (.returned v) W') → LeavesInM F n P fn tmps R (marksOf Ds) .returning W
  | [], W, _, h => h W (fun _ _ => rfl) (Below.refl _ _)
  | D :: Ds, W, hm, h => by
    have hK := (hm.2 D (List.mem_cons_self ..)).2
    have hne : ∀ k, k ∈ Ds → k ≠ D := fun k hk e => (List.nodup_cons.1 hm.1).1 (e ▸ hk)
    refine ⟨by simp, .inl ⟨D, W.putObj D (.deferred none), rfl, run_takeDeferred hK, ?_⟩⟩
    have hb : Below base W (W.putObj D (.deferred none)) := (Below.refl base W).grown (grownBy_putObj' W D _) (Nat.le_of_lt (Nat.lt_of_le_of_lt (hm.2 D (List.mem_cons_self ..)).1 (lt_of_block hK))) (fun k e => by cases e; exact (hm.2 D (List.mem_cons_self ..)).1)
    refine leave_marks Ds _ ⟨(List.nodup_cons.1 hm.1).2, fun k hk => ⟨(hm.2 k (List.mem_cons_of_mem _ hk)).1, (World.putObj_heap_other (hne k hk)).trans (hm.2 k (List.mem_cons_of_mem _ hk)).2⟩⟩ fun W' h1 h2 => h W' (fun k hk => ?_) (hb.trans h2)
    rw [List.mem_cons, not_or] at hk
    exact (h1 k hk.2).trans (World.putObj_heap_other hk.1)
/-- 'for range seq' over no string. -/
theorem range_nil {Q : Exit → Act → World → Prop} {T : Array Value} {ds : List Deferred} {w : World} {g : Operand} {p : Tmp} {body : Code} {n Bs : Nat} (hn : 3 ≤ n) (hg : Act.eval { tmps := T, defers := ds } g = .func (.func 77) #[] #[.pointer (some ⟨Bs, 0, none⟩)])
    (hc : w.cell? ⟨Bs, 0, none⟩ = some (.slice none 0 0))
    (hdone : ∀ D W, w.heap.size ≤ D → Below w.heap.size w W → W.heap[D]? = some (.deferred (some [])) → Q .normal { tmps := T, defers := { target := .collected D, args := #[] } :: ds } W) :
    (Code.rangeFunc g #[p] Code.skip body).wpIn Fence.wide n Tryz.prog Q { tmps := T, defers := ds } w := by
  refine wpIn_rangeFunc_ownF (F := Fence.wide) rfl (by omega) (gf := 77) (lb := #[.pointer (some ⟨Bs, 0, none⟩)]) hg trivial (enters_of Tryz.func77 (by kernel_rfl) rfl)
    (values_stops Fence.wide (n - 1) trivial rfl (by omega) Bs (.slice none 0 0) [] (by decide) w (K := fun _ => False) (World.block_lt_of_cell? _ _ hc) hc (.inl ⟨rfl, rfl⟩)) keepB_t (keepB_b (fun _ h => h.elim)) (Below.refl _ _) (fun _ => rfl)
    (fun _ W => Below w.heap.size w W) (fun _ _ _ => False) (ownFrom_below (Nat.le_refl _) (Nat.le_refl _)) (fun _ _ _ _ _ hs _ _ => hs) (Below.refl _ _) (fun x => { tmps := T.setIfInBounds p (.string x), defers := [] }) ?_ ?_ ?_ ?_
  · intro l x W K hK
    gi_wp2
    simpa using hK
  · intro l pre x W _ h
    exact absurd h (by simp)
  · intro D xs W hD _ hb hK
    exact hdone D W hD hb hK
  · intro D c pre W _ _ h
    exact h.elim
end Go.Proofs.YthchfkjdbfhnhaaGreatDoor
