/- No file is below a file: plain laws of a file system that calls have made. -/
import Derived.Test.YthchfkjdbfhnhaaGreatDoorOneP
import Derived.Test.YthchfkjdbfhnhaaGreatDoorRefGood
namespace Go.Proofs.YthchfkjdbfhnhaaGreatDoor
open Go Go.RowKit Go.Lany
set_option maxRecDepth 100000
def Tree (s : FsSt) : Prop := ∀ p ∈ akeys s.files, ∀ q ∈ akeys s.files, Lib.hasPrefix p.data.toList (q ++ slash).data.toList = false
theorem hp_iff {a b : List UInt8} : Lib.hasPrefix a b = true ↔ b <+: a := by unfold Lib.hasPrefix; exact List.isPrefixOf_iff_prefix
theorem slash_list (q : ByteArray) : (q ++ slash).data.toList = q.data.toList ++ [47] := by simp [slash]
theorem bytes_eq {a b : ByteArray} (h : a.data.toList = b.data.toList) : a = b := ByteArray.ext (Array.ext' h)
theorem toList_data (a : ByteArray) : a.toList = a.data.toList := ByteArray.toList_eq a
theorem extract_list (p : ByteArray) (i : Nat) : (p.extract 0 i).data.toList = p.data.toList.take i := by
  simp [ByteArray.data_extract]
/-- A path below another one, taken apart. -/
theorem below_iff {p q : ByteArray} : Lib.hasPrefix p.data.toList (q ++ slash).data.toList = true ↔ q.size < p.size ∧ p.extract 0 q.size = q ∧ byteAt p q.size = 47 := by
  rw [hp_iff, slash_list]
  have hq : q.data.toList.length = q.size := by simp
  have hp : p.data.toList.length = p.size := by simp
  constructor
  · rintro ⟨t, ht⟩
    have hl := congrArg List.length ht
    simp only [List.length_append, List.length_cons, List.length_nil] at hl
    refine ⟨by omega, bytes_eq ?_, ?_⟩
    · rw [extract_list, ← ht, ← hq]; simp
    · have h1 : p.data.toList[q.size]? = some 47 := by rw [← ht, ← hq]; simp
      have : p.data[q.size]? = some 47 := by rw [← Array.getElem?_toList]; exact h1
      unfold byteAt
      rw [Array.getD_eq_getD_getElem?, this]; rfl
  · rintro ⟨h1, h2, h3⟩
    refine ⟨p.data.toList.drop (q.size + 1), ?_⟩
    have h4 : p.data.toList.take q.size = q.data.toList := by rw [← extract_list, h2]
    have h5 : p.data.toList[q.size]? = some 47 := by
      rw [Array.getElem?_toList, Array.getElem?_eq_getElem (show q.size < p.data.size from h1)]
      unfold byteAt at h3
      rw [Array.getD_eq_getD_getElem?, Array.getElem?_eq_getElem (show q.size < p.data.size from h1)] at h3
      exact congrArg some h3
    conv => rhs; rw [← List.take_append_drop (q.size + 1) p.data.toList, List.take_add_one, h4, h5]
    rfl
theorem good_pos {p : ByteArray} (h : goodB p = true) : 1 ≤ p.size := by
  unfold goodB at h
  simp only [Bool.and_eq_true] at h
  exact prefix_one h.1.2
theorem free_keys {s : FsSt} {p but k : ByteArray} (h : freeE s p but = 0) (hk : k ∈ akeys s.files) (hb : k ≠ but) (h1 : 1 ≤ k.size) :
    Lib.hasPrefix k.data.toList (p ++ slash).data.toList = false ∧ Lib.hasPrefix p.data.toList (k ++ slash).data.toList = false := by
  unfold freeE at h
  have hne : ∀ x y : ByteArray, x ≠ y → (x.toList == y.toList) = false := fun x y hxy => by
    rw [toList_data, toList_data, beq_eq_false_iff_ne]; exact fun e => hxy (bytes_eq e)
  split at h
  · cases h
  · split at h
    · cases h
    · rename_i hd ho
      constructor
      · unfold dirB at hd
        rw [Bool.or_eq_true, not_or, List.any_eq_true] at hd
        cases hc : Lib.hasPrefix k.data.toList (p ++ slash).data.toList with
        | false => rfl
        | true => exact absurd ⟨k, hk, by unfold under; rw [hne k but hb, hc]; rfl⟩ hd.2
      · cases hc : Lib.hasPrefix p.data.toList (k ++ slash).data.toList with
        | false => rfl
        | true =>
          obtain ⟨h2, h3, h4⟩ := below_iff.1 hc
          refine absurd (List.any_eq_true.2 ⟨k.size, List.mem_range.2 h2, ?_⟩) ho
          unfold overB
          obtain ⟨v, hv⟩ := mem_akeys.1 hk
          rw [h3, hne k but hb, h4, show isFile s k = true by unfold isFile; rw [hv]; rfl]
          simpa using h1
theorem self_below (p : ByteArray) : Lib.hasPrefix p.data.toList (p ++ slash).data.toList = false := by
  cases hc : Lib.hasPrefix p.data.toList (p ++ slash).data.toList with
  | false => rfl
  | true => have := (below_iff.1 hc).1; omega
theorem mem_aput {α : Type} {l : List (ByteArray × α)} {k x : ByteArray} {v : α} (h : x ∈ akeys (aput l k v)) : x = k ∨ x ∈ akeys l := by
  obtain ⟨u, hu⟩ := mem_akeys.1 h
  rw [aget_aput] at hu
  by_cases e : x = k
  · exact .inl e
  · rw [if_neg e] at hu; exact .inr (mem_akeys.2 ⟨u, hu⟩)
theorem mem_adel {α : Type} {l : List (ByteArray × α)} {k x : ByteArray} (h : x ∈ akeys (adel l k)) : x ≠ k ∧ x ∈ akeys l := by
  obtain ⟨u, hu⟩ := mem_akeys.1 h
  rw [aget_adel] at hu
  by_cases e : x = k
  · rw [if_pos e] at hu; cases hu
  · rw [if_neg e] at hu; exact ⟨e, mem_akeys.2 ⟨u, hu⟩⟩
theorem tree_put {l : List (ByteArray × ByteArray)} {p b : ByteArray} (h : ∀ x ∈ akeys l, ∀ y ∈ akeys l, Lib.hasPrefix x.data.toList (y ++ slash).data.toList = false)
    (hf : ∀ k ∈ akeys l, Lib.hasPrefix k.data.toList (p ++ slash).data.toList = false ∧ Lib.hasPrefix p.data.toList (k ++ slash).data.toList = false) :
    ∀ x ∈ akeys (aput l p b), ∀ y ∈ akeys (aput l p b), Lib.hasPrefix x.data.toList (y ++ slash).data.toList = false := by
  intro x hx y hy
  rcases mem_aput hx with e | hx
  · rcases mem_aput hy with e' | hy
    · rw [e, e']; exact self_below _
    · rw [e]; exact (hf y hy).2
  · rcases mem_aput hy with e' | hy
    · rw [e']; exact (hf x hx).1
    · exact h x hx y hy
theorem Tree.same {s t : FsSt} (h : Tree s) (hf : t.files = s.files) : Tree t := by unfold Tree; rw [hf]; exact h
theorem Tree.zero : Tree FsSt.zero := fun _ h => by simp [FsSt.zero, akeys] at h
theorem Tree.del {s : FsSt} (h : Tree s) (p : ByteArray) : Tree { s with files := adel s.files p } := fun x hx y hy => h x (mem_adel hx).2 y (mem_adel hy).2
theorem writeE_free {s : FsSt} {p old b : ByteArray} (h : s.writeE p old b = 0) : freeE s p ⟨#[]⟩ = 0 := by
  unfold FsSt.writeE at h
  split at h
  · cases h
  · exact h
theorem empty_not {k : ByteArray} (h : 1 ≤ k.size) : k ≠ ⟨#[]⟩ := fun e => by rw [e] at h; exact absurd h (by decide)
theorem Tree.put {s : FsSt} (h : Tree s) (hw : s.Wf) {p b : ByteArray} (hf : freeE s p ⟨#[]⟩ = 0) : Tree (s.put p b) :=
  tree_put h fun k hk => free_keys hf hk (empty_not (good_pos (hw.good k hk))) (good_pos (hw.good k hk))
theorem after_same (s : FsSt) : s.after.files = s.files := after_files s
theorem Tree.after {s : FsSt} (h : Tree s) : Tree s.after := h.same (after_files s)
theorem Tree.call {s : FsSt} (h : Tree s) : Tree s.call.2 := h.same (call_files s)
theorem Tree.fall {s : FsSt} (h : Tree s) (k : Int) : Tree (s.fall k) := h.same (fall_files s k)
theorem Tree.write {s : FsSt} (h : Tree s) (hw : s.Wf) (p old b : ByteArray) : Tree (s.write p old b).2 := by
  unfold FsSt.write
  split
  · split
    · exact h.call
    · split
      · split
        · rename_i hz; exact h.call.put hw.call (writeE_free hz)
        · exact h.call
      · refine Tree.fall ?_ _
        split
        · rename_i hz; exact h.call.put hw.call (writeE_free hz)
        · exact h.call
  · exact h
theorem Tree.rename {s : FsSt} (h : Tree s) (hw : s.Wf) (p q : ByteArray) : Tree (s.rename p q).2 := by
  unfold FsSt.rename
  split
  · split
    · split
      · split
        · rename_i hz
          exact tree_put (h.after.del p) fun k hk => by
            obtain ⟨h1, h2⟩ := mem_adel hk
            exact free_keys hz h2 h1 (good_pos (hw.after.good k h2))
        · exact h.after
      · exact h.after
    · exact h.after
  · exact h
theorem Tree.one {s : FsSt} (h : Tree s) (hw : s.Wf) (d k kind keep : Int) (path dest b : ByteArray) : Tree (s.one d k kind keep path dest b).2 := by
  unfold FsSt.one
  split
  · unfold FsSt.read; repeat' split
    all_goals first | exact h.after | exact h
  split
  · exact h.write hw _ _ _
  split
  · exact h.write hw _ _ _
  split
  · exact h.rename hw _ _
  split
  · unfold FsSt.remove; repeat' split
    all_goals first | exact h.after.del _ | exact h.after | exact h
  split
  · unfold FsSt.list; repeat' split
    all_goals first | exact h.after | exact h
  split
  · unfold FsSt.setFault; repeat' split
    all_goals first | exact h | exact h.same rfl
  split
  · unfold FsSt.restart; repeat' split
    all_goals first | exact h | exact h.same rfl
  · exact h
/-- What is ahead of a slash of a good path is good. -/
theorem names_ahead {p : ByteArray} {at_ : Nat} (h1 : at_ < p.size) (h2 : p.data.toList[at_]! = 47) : ∀ (n a : Nat), at_ - a = n → a ≤ at_ → ∀ x ∈ namesAt (p.extract 0 at_) a, x ∈ namesAt p a := by
  have hsz : (p.extract 0 at_).size = at_ := by simp; omega
  have hgt : ∀ j, j < at_ → (p.extract 0 at_).data.toList[j]! = p.data.toList[j]! := fun j hj => by
    rw [extract_list, List.getElem!_eq_getElem?_getD, List.getElem!_eq_getElem?_getD, List.getElem?_take, if_pos hj]
  intro n
  induction n using Nat.strongRecOn with
  | ind n ih =>
    intro a hn ha x hx
    by_cases hs : ∃ i, a ≤ i ∧ i < at_ ∧ p.data.toList[i]! = 47
    · obtain ⟨i, ⟨hi1, hi2, hi3⟩, hmin⟩ : ∃ i, (a ≤ i ∧ i < at_ ∧ p.data.toList[i]! = 47) ∧ ∀ j, j < i → ¬ (a ≤ j ∧ j < at_ ∧ p.data.toList[j]! = 47) := by
        obtain ⟨i, hi⟩ := hs
        induction i using Nat.strongRecOn with
        | ind i ih' =>
          by_cases hj : ∃ j, j < i ∧ (a ≤ j ∧ j < at_ ∧ p.data.toList[j]! = 47)
          · obtain ⟨j, hj1, hj2⟩ := hj
            exact ih' j hj1 hj2
          · exact ⟨i, hi, fun j h1 h2 => hj ⟨j, h1, h2⟩⟩
      have e1 := namesAt_next (p := p.extract 0 at_) (a := a) (i := i) hi1 (by omega) (fun j hj hj' => by rw [hgt j (by omega)]; exact fun e => hmin j hj' ⟨hj, by omega, e⟩) (by rw [hgt i hi2]; exact hi3)
      have e2 := namesAt_next (p := p) (a := a) (i := i) hi1 (by omega) (fun j hj hj' => fun e => hmin j hj' ⟨hj, by omega, e⟩) hi3
      rw [e1] at hx
      rw [e2]
      rcases List.mem_cons.1 hx with rfl | hx
      · refine List.mem_cons.2 (.inl ?_)
        apply bytes_eq
        simp [ByteArray.data_extract]
        congr 1
        omega
      · exact List.mem_cons_of_mem _ (ih (at_ - (i + 1)) (by omega) (i + 1) rfl (by omega) x hx)
    · have hno : ∀ j, a ≤ j → j < at_ → p.data.toList[j]! ≠ 47 := fun j h h' e => hs ⟨j, h, h', e⟩
      have e1 := namesAt_last (p := p.extract 0 at_) (a := a) (by omega) (fun j hj hj' => by rw [hsz] at hj'; rw [hgt j hj']; exact hno j hj hj')
      have e2 := namesAt_next (p := p) (a := a) (i := at_) ha h1 hno h2
      rw [e1, List.mem_singleton] at hx
      rw [e2, hx]
      refine List.mem_cons.2 (.inl ?_)
      apply bytes_eq
      simp [ByteArray.data_extract]
      congr 1
      omega
theorem byteAt_list {p : ByteArray} {i : Nat} (h : i < p.size) : p.data.toList[i]! = byteAt p i := by
  unfold byteAt
  rw [List.getElem!_eq_getElem?_getD, Array.getElem?_toList, Array.getD_eq_getD_getElem?, Array.getElem?_eq_getElem (show i < p.data.size from h)]
  rfl
theorem good_ahead {p : ByteArray} (h : goodB p = true) {at_ : Nat} (h0 : 1 ≤ at_) (h1 : at_ < p.size) (h2 : byteAt p at_ = 47) : goodB (p.extract 0 at_) = true := by
  have hsz : (p.extract 0 at_).size = at_ := by simp; omega
  unfold goodB at h ⊢
  simp only [Bool.and_eq_true, decide_eq_true_eq] at h ⊢
  obtain ⟨⟨h3, h4⟩, h5⟩ := h
  refine ⟨⟨by omega, ?_⟩, ?_⟩
  · rw [hp_iff] at h4 ⊢
    rw [extract_list]
    exact List.prefix_take_iff.2 ⟨h4, by simpa using h0⟩
  · rw [List.all_eq_true] at h5 ⊢
    exact fun x hx => h5 x (names_ahead h1 (by rw [byteAt_list h1]; exact h2) _ 1 rfl h0 x hx)
end Go.Proofs.YthchfkjdbfhnhaaGreatDoor
