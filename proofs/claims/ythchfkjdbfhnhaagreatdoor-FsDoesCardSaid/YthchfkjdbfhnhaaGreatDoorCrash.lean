/- What a call that goes wrong may turn; what a file system's files read as: plain laws. -/
import Derived.Test.YthchfkjdbfhnhaaGreatDoorRise
import Derived.Test.YthchfkjdbfhnhaaGreatDoorOps
import Derived.Test.YthchfkjdbfhnhaaGreatDoorClone
namespace Go.Proofs.YthchfkjdbfhnhaaGreatDoor
open Go Go.RowKit Go.Lany
set_option maxRecDepth 100000
theorem Tree.oneV {s : FsSt} (h : Tree s) (hw : s.Wf) (o : OpV) : Tree (s.oneV o).2 := h.one hw _ _ _ _ _ _ _
theorem Tree.runV {s : FsSt} (h : Tree s) (hw : s.Wf) (l : List OpV) : Tree (s.runV l) := by
  induction l generalizing s with
  | nil => exact h
  | cons o l ih => exact ih (h.oneV hw o) (hw.oneV o)
/-- What a file reads as where no fault waits. -/
def readOf (s : FsSt) (p : ByteArray) : ByteArray := if goodB p then (if thereE s p = 0 then dataOf s p else ByteArray.empty) else ByteArray.empty
theorem Still.there {s t : FsSt} (h : Still s t) (p : ByteArray) : thereE t p = thereE s p := by unfold thereE isFile; rw [h.files]
theorem Still.looks {s t : FsSt} (h : Still s t) (p : ByteArray) : looksE t [p] = if goodB p then 0 else 23 := by
  unfold looksE
  rw [h.down, if_neg (by simp)]
  simp
theorem Still.read {s t : FsSt} (h : Still s t) (p : ByteArray) : (t.read p).1 = readOf s p ∧ Still s (t.read p).2.2 := by
  unfold FsSt.read readOf
  rw [h.looks]
  cases hg : goodB p with
  | false => exact ⟨rfl, h⟩
  | true =>
    rw [if_pos rfl, if_pos rfl, if_pos rfl, h.call, if_pos (by rfl), h.after.there]
    by_cases ht : thereE s p = 0
    · rw [if_pos ht, if_pos ht]
      exact ⟨by unfold dataOf; rw [h.after.files], h.after⟩
    · rw [if_neg ht, if_neg ht]
      exact ⟨rfl, h.after⟩
theorem Still.wf {s t : FsSt} (h : Still s t) (hw : s.Wf) (hk : 0 ≤ t.keep) : t.Wf := hw.same h.files hk
theorem Still.size {s t : FsSt} (h : Still s t) (hw : s.Wf) (p : ByteArray) (b : ByteArray) (hb : aget t.files p = some b) : b.size ≤ 140737488355328 := by
  have := hw.size p b (by rw [← h.files]; exact hb)
  omega
theorem readOf_file {s : FsSt} (hw : s.Wf) (ht : Tree s) {p : ByteArray} (hp : p ∈ akeys s.files) : readOf s p = dataOf s p := by
  have hg := hw.good p hp
  have hd : dirB (akeys s.files) p ⟨#[]⟩ = false := by
    unfold dirB
    rw [dir_of_good hg, Bool.false_or, List.any_eq_false]
    intro x hx
    unfold under
    rw [ht x hx p hp]
    simp
  obtain ⟨v, hv⟩ := mem_akeys.1 hp
  unfold readOf thereE isFile
  rw [hg, hd, hv]
  simp
def foldR (f : ByteArray → ByteArray) (ks : List ByteArray) : List (ByteArray × ByteArray) := ks.foldl (fun m k => aput m k (f k)) []
theorem foldR_snoc (f : ByteArray → ByteArray) (ks : List ByteArray) (k : ByteArray) : foldR f (ks ++ [k]) = aput (foldR f ks) k (f k) := by simp [foldR]
theorem aget_foldl (f : ByteArray → ByteArray) (p : ByteArray) : ∀ (ks : List ByteArray) (m : List (ByteArray × ByteArray)), aget (ks.foldl (fun m k => aput m k (f k)) m) p = if hasB ks p = true then some (f p) else aget m p
  | [], m => by simp [hasB]
  | k :: ks, m => by
    rw [List.foldl_cons, aget_foldl f p ks, aget_aput]
    by_cases h1 : hasB ks p = true
    · rw [if_pos h1, if_pos (hasB_iff.2 (List.mem_cons_of_mem _ (hasB_iff.1 h1)))]
    · rw [if_neg h1]
      by_cases h2 : p = k
      · subst h2; rw [if_pos rfl, if_pos (hasB_iff.2 (List.mem_cons_self ..))]
      · rw [if_neg h2, if_neg (fun e => (List.mem_cons.1 (hasB_iff.1 e)).elim h2 fun e => h1 (hasB_iff.2 e))]
theorem aget_foldR (f : ByteArray → ByteArray) (ks : List ByteArray) (p : ByteArray) : aget (foldR f ks) p = if hasB ks p = true then some (f p) else none := by
  unfold foldR
  rw [aget_foldl]
  rfl
/-- A list of pairs that has the files of s. -/
def Has (s : FsSt) (l : List (ByteArray × ByteArray)) : Prop := ∀ p, aget l p = aget s.files p
theorem has_fold {s : FsSt} (hw : s.Wf) (ht : Tree s) {ks : List ByteArray} (hk : ∀ x, x ∈ ks ↔ x ∈ akeys s.files) : Has s (foldR (readOf s) ks) := by
  intro p
  rw [aget_foldR]
  by_cases h : hasB ks p = true
  · rw [if_pos h]
    have hp := (hk p).1 (hasB_iff.1 h)
    rw [readOf_file hw ht hp]
    obtain ⟨v, hv⟩ := mem_akeys.1 hp
    unfold dataOf
    rw [hv]; rfl
  · rw [if_neg h, aget_none.2 (fun e => h (hasB_iff.2 ((hk p).2 e)))]
theorem copy_eq (s : FsSt) (ks : List ByteArray) : copyB s ks = foldR (dataOf s) ks := rfl
theorem nodup_foldl (f : ByteArray → ByteArray) : ∀ (ks : List ByteArray) (m : List (ByteArray × ByteArray)), (akeys m).Nodup → (akeys (ks.foldl (fun m k => aput m k (f k)) m)).Nodup
  | [], _, h => h
  | _ :: ks, _, h => nodup_foldl f ks _ (nodup_aput h)
theorem length_foldl (f : ByteArray → ByteArray) : ∀ (ks : List ByteArray) (m : List (ByteArray × ByteArray)), (ks.foldl (fun m k => aput m k (f k)) m).length ≤ m.length + ks.length
  | [], m => by simp
  | k :: ks, m => by
    rw [List.foldl_cons, List.length_cons]
    have h1 := length_foldl f ks (aput m k (f k))
    have h2 : (aput m k (f k)).length ≤ m.length + 1 := by rw [length_aput]; split <;> omega
    omega
theorem sorted_has (s : FsSt) : Has s s.sorted.files := by
  intro p
  show aget (copyB s (rise (akeys s.files))) p = _
  rw [copy_eq, aget_foldR]
  by_cases h : hasB (rise (akeys s.files)) p = true
  · rw [if_pos h]
    obtain ⟨v, hv⟩ := mem_akeys.1 (mem_rise.1 (hasB_iff.1 h))
    unfold dataOf
    rw [hv]; rfl
  · rw [if_neg h, aget_none.2 (fun e => h (hasB_iff.2 (mem_rise.2 e)))]
theorem has_keys {s : FsSt} {l : List (ByteArray × ByteArray)} (h : Has s l) (p : ByteArray) : p ∈ akeys l ↔ p ∈ akeys s.files := by rw [mem_akeys, mem_akeys, h p]
theorem sorted_wf {s : FsSt} (h : s.Wf) : s.sorted.Wf := by
  have hh := sorted_has s
  refine ⟨fun k hk => h.good k ((has_keys hh k).1 hk), ?_, fun k b hb => h.size k b (by rw [← hh k]; exact hb), h.keep, ?_⟩
  · have h1 := length_foldl (dataOf s) (rise (akeys s.files)) []
    have h2 := h.many
    rw [rise_length] at h1
    show (List.foldl _ [] _).length ≤ 4096
    simp only [List.length_nil, akeys, List.length_map] at h1
    simp only [akeys] at *
    omega
  · exact nodup_foldl (dataOf s) _ [] (by simp [akeys])
theorem sorted_tree {s : FsSt} (h : Tree s) : Tree s.sorted := fun x hx y hy => h x ((has_keys (sorted_has s) x).1 hx) y ((has_keys (sorted_has s) y).1 hy)
/-- What a call that went wrong has turned. -/
structure Crashed (s t : FsSt) (e d : Int) (path b : ByteArray) : Prop where
  was : ∀ p x, aget s.files p = some x → ∃ y, aget t.files p = some y ∧ (y = x ∨ p = path)
  is : ∀ p y, aget t.files p = some y → aget s.files p = some y ∨ (p = path ∧ (e = 21 ∨ e = 22) ∧ ((d = 1 ∧ ∃ n, y = b.extract 0 n) ∨ (d = 2 ∧ ∃ n, y = (aget s.files path).getD ByteArray.empty ++ b.extract 0 n)))
theorem Crashed.same {s t : FsSt} {e d : Int} {path b : ByteArray} (h : t.files = s.files) : Crashed s t e d path b := ⟨fun p x hx => ⟨x, by rw [h]; exact hx, .inl rfl⟩, fun p y hy => .inl (by rw [← h]; exact hy)⟩
theorem ans_cases {k : Int} (h : ansOf k ≠ 0) (h1 : ¬ k = 1) : ansOf k = 21 ∨ ansOf k = 22 := by
  unfold ansOf at *
  rw [if_neg h1] at *
  split
  · exact .inl rfl
  · split
    · exact .inr rfl
    · rename_i h2 h3; rw [if_neg h2, if_neg h3] at h; exact absurd rfl h
theorem write_crashed {s : FsSt} (d : Int) (path old b : ByteArray) (h : (s.write path old b).1 ≠ 0) (hd : (d = 1 ∧ old = ByteArray.empty) ∨ (d = 2 ∧ old = (aget s.files path).getD ByteArray.empty)) : Crashed s (s.write path old b).2 (s.write path old b).1 d path b := by
  unfold FsSt.write at *
  by_cases h1 : looksE s [path] = 0
  · rw [if_pos h1] at h ⊢
    by_cases h2 : s.call.1.2.1 = 1
    · rw [if_pos h2]; exact Crashed.same (call_files s)
    · rw [if_neg h2] at h ⊢
      by_cases h3 : s.call.1.2.1 = 0
      · rw [if_pos h3] at h ⊢
        by_cases h4 : s.call.2.writeE path old b = 0
        · rw [if_pos h4] at h; exact absurd rfl h
        · rw [if_neg h4]; exact Crashed.same (call_files s)
      · rw [if_neg h3] at h ⊢
        have ha := ans_cases h h2
        by_cases h4 : s.call.2.writeE path old b = 0
        · rw [if_pos h4]
          have hf : (((s.call.2.put path (old ++ b.extract 0 (minLen b s.call.1.2.2))).fall s.call.1.2.1).files) = aput s.files path (old ++ b.extract 0 (minLen b s.call.1.2.2)) := by
            rw [fall_files]
            show aput s.call.2.files _ _ = _
            rw [call_files]
          refine ⟨fun p x hx => ?_, fun p y hy => ?_⟩
          · show ∃ y, aget (((s.call.2.put path (old ++ b.extract 0 (minLen b s.call.1.2.2))).fall s.call.1.2.1).files) p = some y ∧ _
            rw [hf, aget_aput]
            by_cases e : p = path
            · exact ⟨_, by rw [if_pos e], .inr e⟩
            · exact ⟨x, by rw [if_neg e]; exact hx, .inl rfl⟩
          · have hy' : aget (((s.call.2.put path (old ++ b.extract 0 (minLen b s.call.1.2.2))).fall s.call.1.2.1).files) p = some y := hy
            rw [hf, aget_aput] at hy'
            by_cases e : p = path
            · rw [if_pos e] at hy'
              have hy2 := (Option.some.inj hy').symm
              refine .inr ⟨e, ha, ?_⟩
              rcases hd with ⟨hd, ho⟩ | ⟨hd, ho⟩
              · exact .inl ⟨hd, _, by rw [hy2, ho]; exact ByteArray.empty_append⟩
              · exact .inr ⟨hd, _, by rw [hy2, ho]⟩
            · rw [if_neg e] at hy'; exact .inl hy'
        · rw [if_neg h4]
          exact Crashed.same (by show ((s.call.2).fall _).files = _; rw [fall_files, call_files])
  · rw [if_neg h1]; exact Crashed.same rfl
theorem one_crashed {s : FsSt} (d k kind keep : Int) (path dest b : ByteArray) (h : (s.one d k kind keep path dest b).1 ≠ 0) : Crashed s (s.one d k kind keep path dest b).2 (s.one d k kind keep path dest b).1 d path b := by
  unfold FsSt.one at *
  split
  · refine Crashed.same ?_
    show (s.read path).2.2.files = _
    unfold FsSt.read
    repeat' split
    all_goals first | exact after_files s | rfl
  · rename_i h0
    rw [if_neg h0] at h
    split
    · rename_i h1
      rw [if_pos h1] at h
      exact write_crashed d path ByteArray.empty b h (.inl ⟨eq_of_beq h1, rfl⟩)
    · rename_i h1
      rw [if_neg h1] at h
      split
      · rename_i h2
        rw [if_pos h2] at h
        exact write_crashed d path _ b h (.inr ⟨eq_of_beq h2, rfl⟩)
      · rename_i h2
        rw [if_neg h2] at h
        split
        · rename_i h3
          rw [if_pos h3] at h
          refine Crashed.same ?_
          unfold FsSt.rename at *
          repeat' split
          all_goals first | exact after_files s | rfl | skip
          rename_i e1 e2 e3 e4
          rw [if_pos e1, if_pos e2, if_pos e3, if_pos e4] at h
          exact absurd rfl h
        · rename_i h3
          rw [if_neg h3] at h
          split
          · rename_i h4
            rw [if_pos h4] at h
            refine Crashed.same ?_
            unfold FsSt.remove at *
            repeat' split
            all_goals first | exact after_files s | rfl | skip
            rename_i e1 e2 e3
            rw [if_pos e1, if_pos e2, if_pos e3] at h
            exact absurd rfl h
          · refine Crashed.same ?_
            split
            · show (s.list path).2.2.files = _
              unfold FsSt.list
              repeat' split
              all_goals first | exact after_files s | rfl
            · split
              · unfold FsSt.setFault
                repeat' split
                all_goals rfl
              · split
                · unfold FsSt.restart
                  split <;> rfl
                · rfl
end Go.Proofs.YthchfkjdbfhnhaaGreatDoor
