/- What holds of every file system that calls have made: its paths are good, its files not too many and not too long. -/
import Derived.Test.YtofkdmmoheffbaaGreatDoorFsF
namespace Go.Proofs.YtofkdmmoheffbaaGreatDoor
open Go Go.RowKit Go.Lany
structure FsSt.Wf (s : FsSt) : Prop where
  good : ∀ k ∈ akeys s.files, goodB k = true
  many : s.files.length ≤ 4096
  size : ∀ k b, aget s.files k = some b → b.size ≤ 1048576
  keep : 0 ≤ s.keep
  nodup : (akeys s.files).Nodup
theorem FsSt.Wf.zero : FsSt.zero.Wf := ⟨fun _ h => (by simp [FsSt.zero, akeys] at h), by simp [FsSt.zero], fun _ _ h => (by simp [FsSt.zero, aget] at h), by simp [FsSt.zero], by simp [FsSt.zero, akeys]⟩
theorem good_len {p : ByteArray} (h : goodB p = true) : p.size ≤ 1024 := by
  unfold goodB at h
  simp only [Bool.and_eq_true, decide_eq_true_eq] at h
  exact h.1.1
theorem looks_good {s : FsSt} {l : List ByteArray} (h : looksE s l = 0) : s.down = false ∧ ∀ p ∈ l, goodB p = true := by
  unfold looksE at h
  cases hd : s.down with
  | true => rw [hd] at h; simp at h
  | false =>
    rw [hd] at h
    cases ha : l.all goodB with
    | true => exact ⟨rfl, List.all_eq_true.1 ha⟩
    | false => rw [ha] at h; simp at h
/-- The files are the same ones. -/
theorem FsSt.Wf.same {s t : FsSt} (h : s.Wf) (hf : t.files = s.files) (hk : 0 ≤ t.keep) : t.Wf := by
  refine ⟨?_, ?_, ?_, hk, ?_⟩
  · rw [hf]; exact h.good
  · rw [hf]; exact h.many
  · rw [hf]; exact h.size
  · rw [hf]; exact h.nodup
theorem call_files (s : FsSt) : s.call.2.files = s.files := by
  unfold FsSt.call
  split
  · rfl
  · split <;> rfl
theorem call_keep {s : FsSt} (h : 0 ≤ s.keep) : 0 ≤ s.call.2.keep := by
  unfold FsSt.call
  split
  · exact h
  · split
    · exact h
    · exact Int.le_refl 0
theorem fall_files (s : FsSt) (k : Int) : (s.fall k).files = s.files := by
  unfold FsSt.fall
  split <;> rfl
theorem fall_keep (s : FsSt) (k : Int) : (s.fall k).keep = s.keep := by
  unfold FsSt.fall
  split <;> rfl
theorem FsSt.Wf.call {s : FsSt} (h : s.Wf) : s.call.2.Wf := h.same (call_files s) (call_keep h.keep)
theorem FsSt.Wf.fall {s : FsSt} (h : s.Wf) (k : Int) : (s.fall k).Wf := h.same (fall_files s k) (by rw [fall_keep]; exact h.keep)
theorem FsSt.Wf.after {s : FsSt} (h : s.Wf) : s.after.Wf := h.call.fall _
theorem FsSt.Wf.put {s : FsSt} (h : s.Wf) {p b : ByteArray} (hp : goodB p = true) (hb : b.size ≤ 1048576) (hn : isFile s p = true ∨ s.files.length < 4096) : (s.put p b).Wf := by
  refine ⟨fun k hk => ?_, ?_, fun k x hx => ?_, h.keep, nodup_aput h.nodup⟩
  · obtain ⟨v, hv⟩ := mem_akeys.1 hk
    rw [FsSt.put, aget_aput] at hv
    by_cases e : k = p
    · rw [e]; exact hp
    · rw [if_neg e] at hv; exact h.good k (mem_akeys.2 ⟨v, hv⟩)
  · show (aput s.files p b).length ≤ 4096
    rw [length_aput]
    rcases hn with hn | hn
    · rw [if_pos (show (aget s.files p).isSome = true from hn)]; exact h.many
    · have := h.many
      split <;> omega
  · rw [FsSt.put, aget_aput] at hx
    by_cases e : k = p
    · rw [if_pos e] at hx; cases hx; exact hb
    · rw [if_neg e] at hx; exact h.size k x hx
theorem length_adel_le {α : Type} (l : List (ByteArray × α)) (k : ByteArray) : (adel l k).length ≤ l.length := List.length_filter_le _ _
theorem FsSt.Wf.del {s : FsSt} (h : s.Wf) (p : ByteArray) : ({ s with files := adel s.files p } : FsSt).Wf := by
  refine ⟨fun k hk => ?_, Nat.le_trans (length_adel_le _ _) h.many, fun k x hx => ?_, h.keep, nodup_adel h.nodup⟩
  · obtain ⟨v, hv⟩ := mem_akeys.1 hk
    rw [aget_adel] at hv
    by_cases e : k = p
    · rw [if_pos e] at hv; cases hv
    · rw [if_neg e] at hv; exact h.good k (mem_akeys.2 ⟨v, hv⟩)
  · have hx' : aget (adel s.files p) k = some x := hx
    rw [aget_adel] at hx'
    by_cases e : k = p
    · rw [if_pos e] at hx'; cases hx'
    · rw [if_neg e] at hx'; exact h.size k x hx'
theorem FsSt.Wf.getD {s : FsSt} (h : s.Wf) (p : ByteArray) : ((aget s.files p).getD ByteArray.empty).size ≤ 1048576 := by
  cases e : aget s.files p with
  | none => simp
  | some b => exact h.size p b e
theorem FsSt.Wf.read {s : FsSt} (h : s.Wf) (p : ByteArray) : (s.read p).2.2.Wf ∧ (s.read p).1.size ≤ 1048576 := by
  unfold FsSt.read
  split
  · split
    · split
      · exact ⟨h.after, h.after.getD p⟩
      · exact ⟨h.after, by simp⟩
    · exact ⟨h.after, by simp⟩
  · exact ⟨h, by simp⟩
theorem FsSt.Wf.remove {s : FsSt} (h : s.Wf) (p : ByteArray) : (s.remove p).2.Wf := by
  unfold FsSt.remove
  split
  · split
    · split
      · exact h.after.del p
      · exact h.after
    · exact h.after
  · exact h
theorem adel_lt {α : Type} {l : List (ByteArray × α)} {k : ByteArray} (h : (aget l k).isSome = true) : (adel l k).length < l.length := by
  obtain ⟨v, hv⟩ := Option.isSome_iff_exists.1 h
  have hm := aget_mem hv
  unfold adel
  rcases Nat.lt_or_ge (l.filter fun p => decide (p.1 ≠ k)).length l.length with h | h
  · exact h
  · have he := List.filter_sublist.eq_of_length_le h
    rw [← he] at hm
    have := (List.mem_filter.1 hm).2
    simp at this
theorem there_file {s : FsSt} {p : ByteArray} (h : thereE s p = 0) : isFile s p = true := by
  unfold thereE at h
  split at h
  · cases h
  · split at h
    · assumption
    · cases h
theorem FsSt.Wf.rename {s : FsSt} (h : s.Wf) (p q : ByteArray) : (s.rename p q).2.Wf := by
  unfold FsSt.rename
  split
  case isFalse => exact h
  case isTrue hl =>
    split
    case isFalse => exact h.after
    case isTrue =>
      split
      case isFalse => exact h.after
      case isTrue ht =>
        split
        case isFalse => exact h.after
        case isTrue =>
          have hd := h.after.del p
          have hlt := adel_lt (there_file ht)
          have hm := h.after.many
          exact hd.put (p := q) (b := (aget s.after.files p).getD ByteArray.empty) ((looks_good hl).2 q (by simp)) (h.after.getD p) (.inr (by show (adel s.after.files p).length < 4096; omega))
theorem long_not {s : FsSt} {p old b : ByteArray} (h : s.writeE p old b = 0) : old.size + b.size ≤ 1048576 ∧ (isFile s p = true ∨ s.files.length < 4096) := by
  unfold FsSt.writeE at h
  cases hl : s.longB p old b with
  | true => rw [hl] at h; cases h
  | false =>
    rw [hl] at h
    have hf : freeE s p ⟨#[]⟩ = 0 := h
    unfold FsSt.longB at hl
    rw [hf] at hl
    simp only [beq_self_eq_true, Bool.true_and, Bool.or_eq_false_iff, decide_eq_false_iff_not, Bool.and_eq_false_iff, Bool.not_eq_false'] at hl
    refine ⟨by omega, ?_⟩
    rcases hl.2 with e | e
    · exact .inl e
    · exact .inr (by omega)
theorem FsSt.Wf.write {s : FsSt} (h : s.Wf) (p old b : ByteArray) : (s.write p old b).2.Wf := by
  unfold FsSt.write
  split
  case isFalse => exact h
  case isTrue hl =>
    have hp := (looks_good hl).2 p (by simp)
    split
    · exact h.call
    · split
      · split
        case isTrue hw => exact h.call.put hp (by have := (long_not hw).1; rw [ByteArray.size_append]; omega) (long_not hw).2
        case isFalse => exact h.call
      · refine FsSt.Wf.fall ?_ _
        split
        case isTrue hw =>
          exact h.call.put hp (by have := (long_not hw).1; rw [ByteArray.size_append, ByteArray.size_extract]; omega) (long_not hw).2
        case isFalse => exact h.call
theorem FsSt.Wf.restart {s : FsSt} (h : s.Wf) : s.restart.2.Wf := by
  unfold FsSt.restart
  split
  · exact h.same rfl h.keep
  · exact h
theorem FsSt.Wf.setFault {s : FsSt} (h : s.Wf) (k kind keep : Int) : (s.setFault k kind keep).2.Wf := by
  unfold FsSt.setFault
  split
  · exact h
  · split
    · exact h
    · split
      · exact h.same rfl (Int.le_refl 0)
      · exact h.same rfl (by show 0 ≤ keep; omega)
end Go.Proofs.YtofkdmmoheffbaaGreatDoor
