/- slices.Sorted(maps.Keys(m)) at the two kinds of maps of the file system: a new slice of the keys, rising. -/
import Derived.Test.YthchfkjdbfhnhaaGreatDoorFsA
import Derived.Test.YthchfkjdbfhnhaaGreatDoorShelf
import Derived.Shelf.SlIter.Nil
import Derived.Shelf.SortM.Plain
import Derived.Shelf.SortM.SortNone
namespace Go.Proofs
open Go.RowKit Go.Maps Go.Sort Go.Shelf
theorem Tryz.sorts_at (m : Nat) : AnyZ.SortsIn Tryz.prog Tryz.sorted45_ren Fence.wide m :=
  ⟨fun blk off cap ss W hH hblk hsz => callsIn_wide.2 (AnyM.slices_Sort_string Tryz.sort71 blk off cap ss W hH hblk hsz),
   fun p cap W => callsIn_wide.2 (AnyM.slices_Sort_string_none Tryz.sort71 p cap W)⟩
theorem Tryz.maps_Keys_b (mb : Option Nat) (W : World) : CallsIn Fence.wide 5 Tryz.prog 62 #[.map mb] W fun e w' => e = .returned (.func (.func 76) #[] #[.pointer (some ⟨W.heap.size, 0, none⟩)]) ∧ w' = W.alloc (.cells #[.map mb] 38) :=
  AnyZ.keys_in Tryz.keys62 Fence.wide 5 trivial rfl mb W
set_option maxHeartbeats 1000000 in
theorem Tryz.slices_Sorted_keys_b {H : Type} (b nn : Nat) (D0 : DataW H) (R : Value → Option (DataW H × List MemPlace)) (w : World) (hown : w.ownsMap Tryz.prog 9 R b nn D0) (hmax : Maps.size D0 ≤ maxLen) (hbytes : Maps.size D0 * 16 ≤ 140737488355328) :
    CallsIn Fence.wide 5 Tryz.prog 45 #[.func (.func 76) #[] #[.pointer (some ⟨w.heap.size, 0, none⟩)]] (w.alloc (.cells #[.map (some b)] 38)) fun e w' => ∃ (v : Value) (ss : List (List UInt8)), e = .returned v ∧ ss.Perm (strKeys D0) ∧
      w'.ownsRow (w.alloc (.cells #[.map (some b)] 38)).heap.size 9 1 v ss.length ((ss.mergeSort (fun x y => decide (x ≤ y))).map encStr) ∧ (v = .slice none 0 0 ↔ ss = []) ∧ Below (w.alloc (.cells #[.map (some b)] 38)).heap.size (w.alloc (.cells #[.map (some b)] 38)) w' := by
  have hbl := hown.lt
  have hseq : SeqGives Fence.wide 2 Tryz.prog 76 #[.pointer (some ⟨w.heap.size, 0, none⟩)] encStr (fun ss => ss.Perm (strKeys D0)) (Maps.size D0) (w.alloc (.cells #[.map (some b)] 38)) :=
    AnyZ.keys_gives (ρ := Tryz.keys62_ren) { Tryz.keys62 with } Fence.wide _ trivial rfl (by omega) w.heap.size b nn D0 _ (by simp) (by simp) (by
      obtain ⟨es, clock, hb, Ft, hs, hD⟩ := hown
      exact ⟨es, clock, (Below.heap_alloc _ _ b hbl).trans hb, Ft, hs, hD⟩)
  exact AnyZ.sorted_in Tryz.sorted45 Fence.wide 5 trivial trivial trivial trivial rfl (by omega) (Tryz.sorts_at _) (enters_of Tryz.func71 (by kernel_rfl) rfl) 76 #[.pointer (some ⟨w.heap.size, 0, none⟩)] trivial (enters_of Tryz.func76 (by kernel_rfl) rfl) _ _ hmax hbytes _ hseq
theorem Tryz.maps_Keys_t (mb : Option Nat) (W : World) : CallsIn Fence.wide 5 Tryz.prog 46 #[.map mb] W fun e w' => e = .returned (.func (.func 72) #[] #[.pointer (some ⟨W.heap.size, 0, none⟩)]) ∧ w' = W.alloc (.cells #[.map mb] 76) :=
  AnyZ.keys_in Tryz.keys46 Fence.wide 5 trivial rfl mb W
set_option maxHeartbeats 1000000 in
theorem Tryz.slices_Sorted_keys_t {H : Type} (b nn : Nat) (D0 : DataW H) (R : Value → Option (DataW H × List MemPlace)) (w : World) (hown : w.ownsMap Tryz.prog 9 R b nn D0) (hmax : Maps.size D0 ≤ maxLen) (hbytes : Maps.size D0 * 16 ≤ 140737488355328) :
    CallsIn Fence.wide 5 Tryz.prog 45 #[.func (.func 72) #[] #[.pointer (some ⟨w.heap.size, 0, none⟩)]] (w.alloc (.cells #[.map (some b)] 76)) fun e w' => ∃ (v : Value) (ss : List (List UInt8)), e = .returned v ∧ ss.Perm (strKeys D0) ∧
      w'.ownsRow (w.alloc (.cells #[.map (some b)] 76)).heap.size 9 1 v ss.length ((ss.mergeSort (fun x y => decide (x ≤ y))).map encStr) ∧ (v = .slice none 0 0 ↔ ss = []) ∧ Below (w.alloc (.cells #[.map (some b)] 76)).heap.size (w.alloc (.cells #[.map (some b)] 76)) w' := by
  have hbl := hown.lt
  have hseq : SeqGives Fence.wide 2 Tryz.prog 72 #[.pointer (some ⟨w.heap.size, 0, none⟩)] encStr (fun ss => ss.Perm (strKeys D0)) (Maps.size D0) (w.alloc (.cells #[.map (some b)] 76)) :=
    AnyZ.keys_gives (ρ := Tryz.keys46_ren) { Tryz.keys46 with } Fence.wide _ trivial rfl (by omega) w.heap.size b nn D0 _ (by simp) (by simp) (by
      obtain ⟨es, clock, hb, Ft, hs, hD⟩ := hown
      exact ⟨es, clock, (Below.heap_alloc _ _ b hbl).trans hb, Ft, hs, hD⟩)
  exact AnyZ.sorted_in Tryz.sorted45 Fence.wide 5 trivial trivial trivial trivial rfl (by omega) (Tryz.sorts_at _) (enters_of Tryz.func71 (by kernel_rfl) rfl) 72 #[.pointer (some ⟨w.heap.size, 0, none⟩)] trivial (enters_of Tryz.func72 (by kernel_rfl) rfl) _ _ hmax hbytes _ hseq
end Go.Proofs
namespace Go.Proofs.YthchfkjdbfhnhaaGreatDoor
open Go Go.RowKit Go.Lany Go.Maps Go.Sort Go.ChangeMaps Go.MapKept Go.Shelf
open Go.WideElems (Fit rd rg)
/-- A slice of strings that reads as l. -/
def Strs (F : Nat → Prop) (w : World) (v : Value) (l : List ByteArray) : Prop :=
  (v = .slice none 0 0 ∧ l = []) ∨ ∃ b cap cells, v = .slice (some ⟨b, 0, none⟩) l.length cap ∧ F b ∧ w.heap[b]? = some (.cells cells 9 (0, 0)) ∧ ∀ (i : Nat) (x : ByteArray), l[i]? = some x → cells[i]? = some (Value.string x)
theorem Strs.kept {F S : Nat → Prop} {w w' : World} {v : Value} {l : List ByteArray} (h : Strs F w v l) (t : Turns S w w') (hs : ∀ k, F k → ¬ S k) : Strs F w' v l := by
  rcases h with h | ⟨b, cap, cells, rfl, h2, h3, h4⟩
  · exact .inl h
  · exact .inr ⟨b, cap, cells, rfl, h2, (t.block b (lt_of_block h3) (hs b h2)).trans h3, h4⟩
theorem Strs.below {F : Nat → Prop} {w w' : World} {v : Value} {l : List ByteArray} (h : Strs F w v l) (t : Below w.heap.size w w') : Strs F w' v l := h.kept (S := fun _ => False) (Turns.of_below t) (fun _ _ => id)
theorem Strs.mono {F G : Nat → Prop} {w : World} {v : Value} {l : List ByteArray} (h : Strs F w v l) (hf : ∀ k, k < w.heap.size → F k → G k) : Strs G w v l := by
  rcases h with h | ⟨b, cap, cells, rfl, h2, h3, h4⟩
  · exact .inl h
  · exact .inr ⟨b, cap, cells, rfl, hf b (lt_of_block h3) h2, h3, h4⟩
def ofL (l : List UInt8) : ByteArray := ⟨l.toArray⟩
/-- Keys, rising. -/
def rise (l : List ByteArray) : List ByteArray := ((l.map (·.data.toList)).mergeSort leB).map ofL
theorem owns_of {w : World} {b : Nat} {vs : List (ByteArray × Value)} (h : MapOf w b vs) (hn : vs.length ≤ 1000000) (hk : ∀ k ∈ akeys vs, k.size ≤ 1000000) :
    ∃ D : DataW Unit, w.ownsMap Tryz.prog 9 (fun _ => some (.nil, [])) b vs.length D ∧ Maps.size D = vs.length ∧ (strKeys D).Perm ((akeys vs).map (·.data.toList)) := by
  obtain ⟨es, clock, hb, st, he⟩ := h
  have hlen : es.size = vs.length := by have := congrArg List.length he; simpa using this
  have hu : Tryz.prog.underlying 9 = some .string := by kernel_rfl
  have hrd : ∀ x ∈ es.toList, ∃ s, x.key = .string s ∧ rd Tryz.prog 9 (fun _ => some ((.nil : DataW Unit), [])) x = some (.string s.data.toList, .nil) := by
    intro x hx
    have h1 : x.key ∈ es.toList.map (·.key) := List.mem_map.2 ⟨x, hx, rfl⟩
    rw [pairs_keys he] at h1
    obtain ⟨s, hs, e⟩ := List.mem_map.1 h1
    obtain ⟨xk, xv, xb⟩ := x
    simp only at e
    subst e
    have hsz : s.size ≤ maxLen := by have := hk s hs; unfold maxLen; omega
    exact ⟨s, rfl, Go.WideElems.rd_mk (yv := (.nil, [])) (Go.WideMaps.keyOf_string_mk hu hsz) rfl⟩
  refine ⟨_, ⟨es, clock, hb, ⟨by unfold maxLen; omega, st, fun x hx => (hrd x hx).elim fun s h => ⟨_, h.2⟩⟩, by omega, rfl⟩, ?_, ?_⟩
  · show (List.foldr DataW.insert [] (es.toList.map _)).length = _
    rw [length_sorted]; simp [hlen]
  · show (List.map (fun p => strOf p.1) (List.foldr DataW.insert [] (es.toList.map _))).Perm _
    refine ((Go.WideShapes.sorted_perm _).map _).trans ?_
    rw [List.map_map]
    have : es.toList.map ((fun p => strOf p.1) ∘ rg Tryz.prog 9 (fun _ => some ((.nil : DataW Unit), []))) = (akeys vs).map (·.data.toList) := by
      have hkk := pairs_keys he
      have : ∀ (l : List MapEntry) (ks : List ByteArray), l.map (·.key) = ks.map Value.string → (∀ x ∈ l, ∃ s, x.key = .string s ∧ rd Tryz.prog 9 (fun _ => some ((.nil : DataW Unit), [])) x = some (.string s.data.toList, .nil)) →
          l.map ((fun p => strOf p.1) ∘ rg Tryz.prog 9 (fun _ => some ((.nil : DataW Unit), []))) = ks.map (·.data.toList) := by
        intro l
        induction l with
        | nil => intro ks h _; cases ks with
          | nil => rfl
          | cons _ _ => simp at h
        | cons x l ih => intro ks h hr; cases ks with
          | nil => simp at h
          | cons k ks =>
            simp only [List.map_cons, List.cons.injEq] at h ⊢
            obtain ⟨s, h1, h2⟩ := hr x (.head _)
            refine ⟨?_, ih ks h.2 fun y hy => hr y (.tail _ hy)⟩
            simp only [Function.comp, Go.WideElems.rg_of h2, strOf]
            have : s = k := Value.string.inj (h1.symm.trans h.1)
            rw [this]
      exact this _ _ hkk hrd
    rw [this]
theorem strs_of_row {w : World} {base : Nat} {v : Value} {n : Nat} {l : List (List UInt8)} (h : w.ownsRow base 9 1 v n (l.map encStr)) : Strs (fun k => base ≤ k) w v (l.map ofL) := by
  obtain ⟨h1, h2⟩ := h
  simp only [List.length_map, Nat.mul_one] at h1
  subst h1
  rcases h2 with ⟨e, e'⟩ | ⟨g, cap, cur, e, hg, hh, h3, h4, h5, h6⟩
  · exact .inl ⟨e, by rw [List.eq_nil_of_length_eq_zero e']; rfl⟩
  · refine .inr ⟨g, cap, cur, by rw [List.length_map]; exact e, hg, hh, fun i x hx => ?_⟩
    rw [List.getElem?_map] at hx
    obtain ⟨y, hy, rfl⟩ := Option.map_eq_some_iff.1 hx
    have hi : i < l.length := (List.getElem?_eq_some_iff.1 hy).1
    have : (l.map encStr)[i]? = some (encStr y) := by rw [List.getElem?_map, hy]; rfl
    rw [← h6, List.getElem?_take, if_pos (by omega)] at this
    rw [Array.getElem?_toList] at this
    exact this
def SortPost (l : List ByteArray) (w : World) (e : Ending) (w' : World) : Prop := ∃ v, e = .returned v ∧ Strs (fun k => w.heap.size ≤ k) w' v (rise l) ∧ Below w.heap.size w w'
theorem rise_perm {l : List (List UInt8)} {ks : List ByteArray} (h : l.Perm (ks.map (·.data.toList))) : (l.mergeSort leB).map ofL = rise ks := by
  unfold rise
  rw [mergeSort_of_perm h]
theorem keysB (w : World) (b : Nat) : Calls Tryz.prog 62 #[.map (some b)] w fun e w' => e = .returned (.func (.func 76) #[] #[.pointer (some ⟨w.heap.size, 0, none⟩)]) ∧ w' = w.alloc (.cells #[.map (some b)] 38) :=
  callsIn_wide.1 (Tryz.maps_Keys_b (some b) w)
theorem sortedB {w : World} {b : Nat} {vs : List (ByteArray × Value)} (h : MapOf w b vs) (hn : vs.length ≤ 1000000) (hk : ∀ k ∈ akeys vs, k.size ≤ 1000000) :
    Calls Tryz.prog 45 #[.func (.func 76) #[] #[.pointer (some ⟨w.heap.size, 0, none⟩)]] (w.alloc (.cells #[.map (some b)] 38)) (SortPost (akeys vs) w) := by
  obtain ⟨D, h1, h2, h3⟩ := owns_of h hn hk
  have hb : Below w.heap.size w (w.alloc (.cells #[.map (some b)] 38)) := (Below.refl _ _).alloc (Nat.le_refl _) _
  refine (callsIn_wide.1 (Tryz.slices_Sorted_keys_b b vs.length D _ w h1 (by rw [h2]; unfold maxLen; omega) (by rw [h2]; omega))).mono ?_
  rintro e w' ⟨v, ss, rfl, hp, hr, _, hb'⟩
  refine ⟨v, rfl, ?_, hb.trans (hb'.mono (by simp))⟩
  rw [← rise_perm (hp.trans h3)]
  exact (strs_of_row hr).mono fun k _ hk => by simp at hk; omega
theorem keysT (w : World) (b : Nat) : Calls Tryz.prog 46 #[.map (some b)] w fun e w' => e = .returned (.func (.func 72) #[] #[.pointer (some ⟨w.heap.size, 0, none⟩)]) ∧ w' = w.alloc (.cells #[.map (some b)] 76) :=
  callsIn_wide.1 (Tryz.maps_Keys_t (some b) w)
theorem sortedT {w : World} {b : Nat} {vs : List (ByteArray × Value)} (h : MapOf w b vs) (hn : vs.length ≤ 1000000) (hk : ∀ k ∈ akeys vs, k.size ≤ 1000000) :
    Calls Tryz.prog 45 #[.func (.func 72) #[] #[.pointer (some ⟨w.heap.size, 0, none⟩)]] (w.alloc (.cells #[.map (some b)] 76)) (SortPost (akeys vs) w) := by
  obtain ⟨D, h1, h2, h3⟩ := owns_of h hn hk
  have hb : Below w.heap.size w (w.alloc (.cells #[.map (some b)] 76)) := (Below.refl _ _).alloc (Nat.le_refl _) _
  refine (callsIn_wide.1 (Tryz.slices_Sorted_keys_t b vs.length D _ w h1 (by rw [h2]; unfold maxLen; omega) (by rw [h2]; omega))).mono ?_
  rintro e w' ⟨v, ss, rfl, hp, hr, _, hb'⟩
  refine ⟨v, rfl, ?_, hb.trans (hb'.mono (by simp))⟩
  rw [← rise_perm (hp.trans h3)]
  exact (strs_of_row hr).mono fun k _ hk => by simp at hk; omega
end Go.Proofs.YthchfkjdbfhnhaaGreatDoor
