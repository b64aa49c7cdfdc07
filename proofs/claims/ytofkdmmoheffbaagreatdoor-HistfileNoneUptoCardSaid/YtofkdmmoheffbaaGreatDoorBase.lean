/- Words of our own: lists of pairs by key, a map with string keys over raw values, blocks that a call turns. -/
import Derived.WalkKit
import Derived.Maps.RangeWalk
import Derived.WalkSpells
import Derived.Maps.OwnSet
import Derived.WalkSmall
import Derived.Lib.Hide
import Derived.Deep.QuietTactic
import Derived.BigQuiet
namespace Go.Lany
open Go Go.RowKit Go.ChangeMaps Go.MapKept
theorem ret_bool {a b : Bool} (h : b = a) : Ending.returned (.bool a) = .returned (.bool b) := by rw [h]
theorem ret_int {k : IntKind} {a b : Int} (h : b = a) : Ending.returned (.int k a) = .returned (.int k b) := by rw [h]
/- pairs by key -/
section
variable {α β : Type}
def aget : List (ByteArray × α) → ByteArray → Option α
  | [], _ => none
  | p :: l, k => if p.1 = k then some p.2 else aget l k
def aput : List (ByteArray × α) → ByteArray → α → List (ByteArray × α)
  | [], k, v => [(k, v)]
  | p :: l, k, v => if p.1 = k then (k, v) :: l else p :: aput l k v
def adel (l : List (ByteArray × α)) (k : ByteArray) : List (ByteArray × α) := l.filter fun p => decide (p.1 ≠ k)
def akeys (l : List (ByteArray × α)) : List ByteArray := l.map (·.1)
theorem aget_none {l : List (ByteArray × α)} {k : ByteArray} : aget l k = none ↔ k ∉ akeys l := by
  induction l with
  | nil => simp [aget, akeys]
  | cons p l ih =>
    simp only [aget, akeys, List.map_cons, List.mem_cons, not_or]
    by_cases h : p.1 = k
    · simp [h]
    · simp only [h, if_false]; rw [ih]; simp [akeys, Ne.symm h, eq_comm]
theorem aget_mem {l : List (ByteArray × α)} {k : ByteArray} {v : α} (h : aget l k = some v) : (k, v) ∈ l := by
  induction l with
  | nil => simp [aget] at h
  | cons p l ih =>
    simp only [aget] at h
    split at h
    · rename_i e; cases h; subst e; exact .head _
    · exact .tail _ (ih h)
theorem aget_of_mem {l : List (ByteArray × α)} {k : ByteArray} {v : α} (hn : (akeys l).Nodup) (h : (k, v) ∈ l) : aget l k = some v := by
  induction l with
  | nil => cases h
  | cons p l ih =>
    simp only [akeys, List.map_cons, List.nodup_cons] at hn
    simp only [aget]
    rcases List.mem_cons.1 h with rfl | h
    · simp
    · rw [if_neg (fun e => hn.1 (List.mem_map.2 ⟨_, h, e.symm⟩))]
      exact ih hn.2 h
theorem akeys_aput_of {l : List (ByteArray × α)} {k : ByteArray} {v u : α} (h : aget l k = some u) : akeys (aput l k v) = akeys l := by
  induction l with
  | nil => simp [aget] at h
  | cons p l ih =>
    simp only [aget] at h
    simp only [aput]
    split at h
    · rename_i e; simp [akeys, e]
    · rename_i e; rw [if_neg e]; simp only [akeys, List.map_cons]; rw [show l.map (·.1) = akeys l from rfl, ← ih h]; rfl
theorem aput_none {l : List (ByteArray × α)} {k : ByteArray} {v : α} (h : aget l k = none) : aput l k v = l ++ [(k, v)] := by
  induction l with
  | nil => rfl
  | cons p l ih =>
    simp only [aget] at h
    split at h
    · cases h
    · rename_i e; simp only [aput, if_neg e, ih h, List.cons_append]
theorem akeys_aput_none {l : List (ByteArray × α)} {k : ByteArray} {v : α} (h : aget l k = none) : akeys (aput l k v) = akeys l ++ [k] := by
  rw [aput_none h]; simp [akeys]
theorem nodup_aput {l : List (ByteArray × α)} {k : ByteArray} {v : α} (h : (akeys l).Nodup) : (akeys (aput l k v)).Nodup := by
  cases e : aget l k with
  | some u => rw [akeys_aput_of e]; exact h
  | none =>
    rw [akeys_aput_none e]
    exact List.nodup_append.2 ⟨h, by simp, fun a ha b hb => by simp at hb; subst hb; exact fun e' => aget_none.1 e (e' ▸ ha)⟩
theorem nodup_adel {l : List (ByteArray × α)} {k : ByteArray} (h : (akeys l).Nodup) : (akeys (adel l k)).Nodup :=
  ((List.filter_sublist (l := l)).map _).nodup h
theorem aget_aput {l : List (ByteArray × α)} {k k' : ByteArray} {v : α} : aget (aput l k v) k' = if k' = k then some v else aget l k' := by
  induction l with
  | nil => simp [aget, aput, eq_comm]
  | cons p l ih =>
    simp only [aput]
    by_cases h : p.1 = k
    · rw [if_pos h]; simp only [aget]
      by_cases h' : k' = k
      · simp [h']
      · rw [if_neg (Ne.symm h'), if_neg h', if_neg (by rw [h]; exact Ne.symm h')]
    · rw [if_neg h]; simp only [aget, ih]
      by_cases h' : p.1 = k'
      · rw [if_pos h', if_pos h', if_neg (fun e => h (h'.trans e))]
      · rw [if_neg h', if_neg h']
theorem aget_adel {l : List (ByteArray × α)} {k k' : ByteArray} : aget (adel l k) k' = if k' = k then none else aget l k' := by
  induction l with
  | nil => simp [aget, adel]
  | cons p l ih =>
    simp only [adel, List.filter_cons] at ih ⊢
    by_cases h : p.1 = k
    · simp only [h, ne_eq, not_true_eq_false, decide_false, Bool.false_eq_true, if_false, ih, aget]
      by_cases h' : k' = k
      · simp [h']
      · simp [h', Ne.symm h']
    · simp only [h, ne_eq, not_false_eq_true, decide_true, if_true, aget, ih]
      by_cases h' : p.1 = k'
      · rw [if_pos h', if_pos h', if_neg (fun e => h (h'.trans e))]
      · simp [h']
theorem mem_akeys {l : List (ByteArray × α)} {k : ByteArray} : k ∈ akeys l ↔ ∃ v, aget l k = some v := by
  cases h : aget l k with
  | none => simp [aget_none.1 h]
  | some u => simp; exact Classical.byContradiction fun e => by rw [aget_none.2 e] at h; cases h
theorem length_aput {l : List (ByteArray × α)} {k : ByteArray} {v : α} : (aput l k v).length = if (aget l k).isSome then l.length else l.length + 1 := by
  cases e : aget l k with
  | some u => have := congrArg List.length (akeys_aput_of (v := v) e); simpa [akeys] using this
  | none => rw [aput_none e]; simp
/- two lists of pairs under one row of keys -/
inductive Both (R : α → β → Prop) : List (ByteArray × α) → List (ByteArray × β) → Prop
  | nil : Both R [] []
  | cons {k : ByteArray} {a : α} {b : β} {l : List (ByteArray × α)} {l' : List (ByteArray × β)} : R a b → Both R l l' → Both R ((k, a) :: l) ((k, b) :: l')
variable {R : α → β → Prop} {l : List (ByteArray × α)} {l' : List (ByteArray × β)}
theorem Both.mono {R' : α → β → Prop} (h : Both R l l') (hr : ∀ p ∈ l, ∀ b, R p.2 b → R' p.2 b) : Both R' l l' := by
  induction h with
  | nil => exact .nil
  | cons h _ ih => exact .cons (hr _ (.head _) _ h) (ih fun p hp => hr p (.tail _ hp))
theorem Both.akeys (h : Both R l l') : akeys l = akeys l' := by
  induction h with
  | nil => rfl
  | cons _ _ ih => simp only [Lany.akeys, List.map_cons] at ih ⊢; rw [ih]
theorem Both.length (h : Both R l l') : l.length = l'.length := by
  have := congrArg List.length h.akeys
  simpa [Lany.akeys] using this
theorem Both.get (h : Both R l l') (k : ByteArray) : (aget l k = none ∧ aget l' k = none) ∨ ∃ a b, aget l k = some a ∧ aget l' k = some b ∧ R a b := by
  induction h with
  | nil => exact .inl ⟨rfl, rfl⟩
  | @cons k' a b l l' h _ ih =>
    simp only [aget]
    by_cases e : k' = k
    · exact .inr ⟨a, b, by simp [e], by simp [e], h⟩
    · simp only [e, if_false]; exact ih
theorem Both.put (h : Both R l l') (k : ByteArray) {a : α} {b : β} (hr : R a b) : Both R (aput l k a) (aput l' k b) := by
  induction h with
  | nil => exact .cons hr .nil
  | @cons k' a' b' l l' h hl ih =>
    simp only [aput]
    by_cases e : k' = k
    · simp only [e, if_true]; exact .cons hr hl
    · simp only [e, if_false]; exact .cons h ih
theorem Both.del (h : Both R l l') (k : ByteArray) : Both R (adel l k) (adel l' k) := by
  induction h with
  | nil => exact .nil
  | @cons k' a' b' l l' h hl ih =>
    simp only [adel, List.filter_cons] at ih ⊢
    by_cases e : k' = k
    · simp only [e, ne_eq, not_true_eq_false, decide_false, Bool.false_eq_true, if_false]; exact ih
    · simp only [e, ne_eq, not_false_eq_true, decide_true, if_true]; exact .cons h ih
end
end Go.Lany
