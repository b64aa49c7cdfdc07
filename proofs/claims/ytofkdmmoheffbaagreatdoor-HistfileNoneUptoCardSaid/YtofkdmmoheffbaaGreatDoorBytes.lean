/- slices.Grow, slices.Concat at []byte. -/
import Derived.Test.YtofkdmmoheffbaaGreatDoorFsB
import Derived.Test.YtofkdmmoheffbaaGreatDoorByA
import Derived.Lib.AppendZeros
import Derived.Deep.LoopGhost
namespace Go.Proofs.YtofkdmmoheffbaaGreatDoor
open Go Go.RowKit Go.Lany
set_option maxRecDepth 100000
def GrowPost (w : World) (e : Ending) (w' : World) : Prop := ∃ v, e = .returned v ∧ w'.ownsRow w.heap.size 5 1 v 0 (byteCells ByteArray.empty) ∧ Below w.heap.size w w'
set_option maxHeartbeats 1000000 in
theorem grow_nil (w : World) (n : Nat) (hn : n ≤ 140737488355328) : Calls Tryz.prog 58 #[.slice none 0 0, .int .i64 n] w (GrowPost w) := by
  by_cases h0 : n = 0
  · subst h0
    go_enter Tryz.func58, Tryz.ntmps58
    go_wp2
    go_ret
    exact ⟨_, rfl, World.ownsRow_nil _ _ _ _, Below.refl _ _⟩
  · obtain ⟨i0, hi, hz0, hz1, hz2⟩ := info_parts info8
    have hr := Lib.run_append_nil_zeros (P := Tryz.prog) w 37 3 37 5 i0 (.int .u8 0) .i64 .i64 (by kernel_rfl) (by kernel_rfl) hi hz0 n (by omega) (by omega) (by omega) (by rw [hz2]; omega)
    have h1 : ¬ (n : Int) < 0 := by omega
    have h2 : 0 < (n : Int) := by omega
    have hge := grownCap_ge w n 0 5
    have hle := grownCap_le_maxLen w n 0 5 (by unfold maxLen; omega)
    have HR := Lib.hid hr
    clear hr h0
    go_enter Tryz.func58, Tryz.ntmps58
    go_wp2_with (at_builtin; refine Lib.wpList_append_run w rfl _ _ _ _ rfl _ _ rfl rfl _ _ HR.out ?_)
    go_ret
    refine ⟨_, rfl, ⟨rfl, .inr ⟨w.heap.size, grownCap w n 0 5, _, rfl, Nat.le_refl _, get_new w _, Nat.zero_le _, hle, ?_, by simp; rfl⟩⟩, ((Below.refl _ _).alloc (Nat.le_refl _) _).drew⟩
    simp only [Array.size_append, size_zeroCells]
    simp
    omega
/- slices.Concat -/
def cat : List ByteArray → ByteArray
  | [] => ByteArray.empty
  | b :: l => b ++ cat l
theorem cat_snoc (l : List ByteArray) (b : ByteArray) : cat (l ++ [b]) = cat l ++ b := by
  induction l with
  | nil => simp [cat]
  | cons x l ih => simp [cat, ih, ByteArray.append_assoc]
theorem cat_size (l : List ByteArray) : (cat l).size = (l.map (·.size)).sum := by
  induction l with
  | nil => rfl
  | cons x l ih => simp [cat, ih]
theorem take_next {α : Type} {l : List α} {k : Nat} {x : α} (h : l[k]? = some x) : l.take (k + 1) = l.take k ++ [x] := by
  rw [List.take_add_one, h]; rfl
theorem cat_take_le (l : List ByteArray) (k : Nat) : (cat (l.take k)).size ≤ (cat l).size := by
  have : cat l = cat (l.take k) ++ cat (l.drop k) := by
    induction l generalizing k with
    | nil => simp [cat]
    | cons x l ih => cases k with
      | zero => simp [cat]
      | succ k => simp only [List.take_succ_cons, List.drop_succ_cons, cat]; rw [ByteArray.append_assoc, ← ih k]
  rw [this]; simp
set_option maxHeartbeats 2000000 in
theorem concat_any {w : World} {G : Nat → Prop} (l : List ByteArray) (n b off cap : Nat) (hn : n = l.length) (hmax : n ≤ 1000000) (hl : (cat l).size ≤ 140737488355328)
    (hc : ∀ i x, l[i]? = some x → ∃ v, w.cell? ⟨b, off + i, none⟩ = some v ∧ Bytes G w v x) :
    Calls Tryz.prog 27 #[.slice (some ⟨b, off, none⟩) n cap] w (SlicePost (cat l) w) := by
  have HN := Lib.hid hn
  have HC := Lib.hid hc
  have HL := Lib.hid hl
  clear hn hc hl
  go_enter Tryz.func27, Tryz.ntmps27
  go_wp2
  go_loop [3, 5, 11] (fun z _ i => ∃ k : Nat, k ≤ n ∧ i = .int .i64 k ∧ z = .int .i64 ((cat (l.take k)).size : Nat)) (fun _ _ i => n - (intOf i).toNat)
  case atStart => exact ⟨0, Nat.zero_le _, rfl, rfl⟩
  case round =>
    obtain ⟨k, hk, rfl, rfl⟩ := hrel
    by_cases hlt : k < n
    · obtain ⟨x, hx⟩ : ∃ x, l[k]? = some x := ⟨_, List.getElem?_eq_getElem (by rw [← HN.out]; exact hlt)⟩
      obtain ⟨v, hcell, hv⟩ := HC.out k x hx
      obtain ⟨a, c, rfl⟩ := hv.len
      have ht := cat_take_le l (k + 1)
      rw [take_next hx, cat_snoc] at ht
      have hsz : (cat (l.take k)).size + x.size ≤ 140737488355328 := by have := HL.out; simp at ht; omega
      have HX : Hid (cat (l.take (k + 1)) = cat (l.take k) ++ x) := Lib.hid (by rw [take_next hx, cat_snoc])
      clear hx hv ht
      obtain ⟨z, hz⟩ : ∃ z, z = (cat (l.take k)).size := ⟨_, rfl⟩
      obtain ⟨y, hy⟩ : ∃ y, y = x.size := ⟨_, rfl⟩
      rw [← hz, ← hy] at hsz
      rw [← hy] at hcell
      rw [← hz]
      have HZ := Lib.hid hz
      have HY := Lib.hid hy
      clear hz hy
      have h0 : ¬ ((z : Int) + (y : Int) < 0) := by omega
      go_wp2
      go_round
      case rel => exact ⟨k + 1, by omega, by go_num, by rw [HX.out, HZ.out, HY.out]; simp⟩
      case measure => simp [intOf]; omega
    · obtain rfl : k = n := by omega
      have hall : cat (l.take k) = cat l := by rw [HN.out, List.take_length]
      rw [hall]
      clear hall hlt
      obtain ⟨z, hz⟩ : ∃ z, z = (cat l).size := ⟨_, rfl⟩
      have hz1 : z ≤ 140737488355328 := by rw [hz]; exact HL.out
      rw [← hz]
      have HZ := Lib.hid hz
      clear hz
      go_wp2_with (go_at_call 58; refine (grow_nil w z hz1).mono ?_; rintro e w1 ⟨v0, rfl, hown, hb1⟩)
      go_loopw [6, 8, 27] (fun v _ i wr => ∃ j : Nat, j ≤ k ∧ i = .int .i64 j ∧ wr.ownsRow w.heap.size 5 1 v (cat (l.take j)).size (byteCells (cat (l.take j))) ∧ Below w.heap.size w wr) (fun _ _ i _ => k - (intOf i).toNat)
      case atStart => exact ⟨0, Nat.zero_le _, rfl, hown, hb1⟩
      case round =>
        obtain ⟨j, hj, rfl, ho, hbl⟩ := hrel
        by_cases hlt : j < k
        · obtain ⟨x, hx⟩ : ∃ x, l[j]? = some x := ⟨_, List.getElem?_eq_getElem (by rw [← HN.out]; exact hlt)⟩
          obtain ⟨v, hc0, hv0⟩ := HC.out j x hx
          have hcell : wr.cell? ⟨b, off + j, none⟩ = some v := by rw [hbl.cell (World.block_lt_of_cell? _ _ hc0), hc0]
          have hv := hv0.below hbl
          have ht := cat_take_le l (j + 1)
          have HX : Hid (cat (l.take (j + 1)) = cat (l.take j) ++ x) := Lib.hid (by rw [take_next hx, cat_snoc])
          rw [HX.out] at ht
          have hsz : (cat (l.take j)).size + x.size ≤ 140737488355328 := by have := HL.out; simp at ht; omega
          have HS := Lib.hid hsz
          have HV := Lib.hid hv
          have HO := Lib.hid ho
          have hb2 := hbl.size
          clear hx hc0 hv0 ht hsz hv ho hown
          go_wp2_with (at_builtin; refine wpList_append_bytes rfl _ _ rfl w.heap.size _ _ _ _ x _ rfl rfl HO.out HV.out HS.out hb2 ?_; intro v' w' hown' hg')
          have hlo := HO.out.lt
          go_roundw
          case rel =>
            refine ⟨j + 1, by omega, by go_num, ?_, hbl.grown hg' hbl.size (fun k hk => (hlo k hk).1)⟩
            rw [HX.out]
            simpa using hown'
          case measure => simp [intOf]; omega
        · obtain rfl : j = k := by omega
          go_wp2
          go_ret
          refine ⟨_, rfl, ?_, hbl⟩
          have := bytes_of_row ho
          rwa [HN.out, List.take_length] at this
end Go.Proofs.YtofkdmmoheffbaaGreatDoor
