/- A map with string keys over raw values: what a look-up, a store, a deletion, its length and a range over it do. -/
import Derived.Test.YtofkdmmoheffbaaGreatDoorBase
namespace Go.Lany
open Go Go.RowKit Go.ChangeMaps Go.MapKept
/-- Nothing that was there has turned, but for the blocks of S. -/
structure Turns (S : Nat → Prop) (w w' : World) : Prop where
  os : w'.os = w.os
  tape : w'.tape = w.tape
  output : w'.output = w.output
  size : w.heap.size ≤ w'.heap.size
  block : ∀ k, k < w.heap.size → ¬ S k → w'.heap[k]? = w.heap[k]?
theorem Turns.refl (S : Nat → Prop) (w : World) : Turns S w w := ⟨rfl, rfl, rfl, Nat.le_refl _, fun _ _ _ => rfl⟩
theorem Turns.trans {S : Nat → Prop} {a b c : World} (h : Turns S a b) (k : Turns S b c) : Turns S a c :=
  ⟨k.os.trans h.os, k.tape.trans h.tape, k.output.trans h.output, Nat.le_trans h.size k.size, fun i hi hs => (k.block i (Nat.lt_of_lt_of_le hi h.size) hs).trans (h.block i hi hs)⟩
theorem Turns.mono {S T : Nat → Prop} {a b : World} (h : Turns S a b) (hs : ∀ k, k < a.heap.size → S k → T k) : Turns T a b := ⟨h.os, h.tape, h.output, h.size, fun i hi hn => h.block i hi fun e => hn (hs i hi e)⟩
theorem Turns.below {B : Nat} {S : Nat → Prop} {a b : World} (h : Turns S a b) (hB : B ≤ a.heap.size) (hs : ∀ k, k < B → ¬ S k) : Below B a b := ⟨h.os, h.tape, h.output, h.size, fun i hi => h.block i (Nat.lt_of_lt_of_le hi hB) (hs i hi)⟩
theorem Turns.of_below {S : Nat → Prop} {a b : World} (h : Below a.heap.size a b) : Turns S a b := ⟨h.os, h.tape, h.output, h.size, fun i hi _ => h.block i hi⟩
theorem Turns.of_grown {S : Nat → Prop} {a b : World} {row : Option Nat} (h : a.grownBy b row) (hr : ∀ k, row = some k → S k) : Turns S a b := ⟨h.os, h.tape, h.output, h.size, fun i hi hn => h.block i hi fun e => hn (hr i e.symm)⟩
theorem Turns.drew {S : Nat → Prop} {a b : World} (h : Turns S a b) : Turns S a b.drew := ⟨h.os, h.tape, h.output, h.size, h.block⟩
theorem Turns.drewN {S : Nat → Prop} {a b : World} (h : Turns S a b) (n : Nat) : Turns S a (b.drewN n) := ⟨h.os, h.tape, h.output, h.size, h.block⟩
theorem Turns.alloc {S : Nat → Prop} {a b : World} (h : Turns S a b) (o : Obj) : Turns S a (b.alloc o) :=
  h.trans ⟨rfl, rfl, rfl, by simp, fun k hk _ => Below.heap_alloc _ _ _ hk⟩
theorem Turns.setCell {S : Nat → Prop} {a b : World} (h : Turns S a b) {p : Addr} (hp : S p.block ∨ a.heap.size ≤ p.block) (u : Value) : Turns S a (b.setCell p u) :=
  ⟨h.os, h.tape, h.output, by simpa [World.setCell] using h.size, fun k hk hn => (Below.heap_setCell _ _ _ _ (fun e => by subst e; rcases hp with hp | hp; exact hn hp; omega)).trans (h.block k hk hn)⟩
/-- Two stretches, the second's blocks those of S or new ones. -/
theorem Turns.andThen {S T : Nat → Prop} {a b c : World} (h : Turns S a b) (k : Turns T b c) (hs : ∀ i, T i → S i ∨ a.heap.size ≤ i) : Turns S a c :=
  ⟨k.os.trans h.os, k.tape.trans h.tape, k.output.trans h.output, Nat.le_trans h.size k.size, fun i hi hn => (k.block i (Nat.lt_of_lt_of_le hi h.size) (fun e => (hs i e).elim hn (fun e => by omega))).trans (h.block i hi hn)⟩
theorem Turns.below_then {B : Nat} {T : Nat → Prop} {a b c : World} (h : Below B a b) (k : Turns T b c) (hB : B ≤ b.heap.size) (hs : ∀ i, i < B → ¬ T i) : Below B a c := h.trans (k.below hB hs)

/-- Block b holds a map whose entries are m's, in the order in which they came. -/
def MapOf (w : World) (b : Nat) (m : List (ByteArray × Value)) : Prop :=
  ∃ es clock, w.heap[b]? = some (.map es clock) ∧ Stamped es clock ∧ es.toList.map (fun e => (e.key, e.val)) = m.map (fun p => (Value.string p.1, p.2))
theorem MapOf.lt {w : World} {b : Nat} {m : List (ByteArray × Value)} (h : MapOf w b m) : b < w.heap.size := by
  obtain ⟨es, clock, hb, _⟩ := h
  exact (Array.getElem?_eq_some_iff.1 hb).1
theorem MapOf.of_block {w w' : World} {b : Nat} {m : List (ByteArray × Value)} (h : MapOf w b m) (e : w'.heap[b]? = w.heap[b]?) : MapOf w' b m := by
  obtain ⟨es, clock, hb, r⟩ := h
  exact ⟨es, clock, e.trans hb, r⟩
theorem MapOf.kept {S : Nat → Prop} {w w' : World} {b : Nat} {m : List (ByteArray × Value)} (h : MapOf w b m) (t : Turns S w w') (hs : ¬ S b) : MapOf w' b m := h.of_block (t.block b h.lt hs)
theorem MapOf.made (w : World) : MapOf (w.alloc (.map #[] 0)) w.heap.size [] := ⟨#[], 0, (heap_alloc w _).1, stamped_empty 0, rfl⟩
theorem pairs_keys {es : List MapEntry} {m : List (ByteArray × Value)} (h : es.map (fun e => (e.key, e.val)) = m.map (fun p => (Value.string p.1, p.2))) : es.map (·.key) = (akeys m).map Value.string := by
  have := congrArg (List.map Prod.fst) h
  simpa [akeys, Function.comp_def] using this
theorem pairs_isKey {es : List MapEntry} {m : List (ByteArray × Value)} (h : es.map (fun e => (e.key, e.val)) = m.map (fun p => (Value.string p.1, p.2))) : ∀ x ∈ es, IsKey .string x.key := by
  intro x hx
  have h1 : x.key ∈ es.map (·.key) := List.mem_map.2 ⟨x, hx, rfl⟩
  rw [pairs_keys h] at h1
  obtain ⟨s, _, e⟩ := List.mem_map.1 h1
  rw [← e]; trivial
theorem MapOf.nodup {w : World} {b : Nat} {m : List (ByteArray × Value)} (h : MapOf w b m) : (akeys m).Nodup := by
  obtain ⟨es, clock, _, st, e⟩ := h
  have := st.2.2
  rw [pairs_keys e] at this
  exact List.Pairwise.of_map Value.string (fun a b hab e => hab (by rw [e])) this
theorem adel_none {α : Type} {l : List (ByteArray × α)} {s : ByteArray} (h : aget l s = none) : adel l s = l :=
  List.filter_eq_self.2 fun p hp => by simp; exact fun e => aget_none.1 h (List.mem_map.2 ⟨p, hp, e⟩)
/-- What the model's own look-up finds. -/
theorem find_pairs {k : ByteArray} : ∀ {es : List MapEntry} {m : List (ByteArray × Value)} (i : Nat), es.map (fun e => (e.key, e.val)) = m.map (fun p => (Value.string p.1, p.2)) →
    (aget m k = none ∧ Instr.findNow .string (.string k) es i = some none) ∨
    ∃ j e v, aget m k = some v ∧ Instr.findNow .string (.string k) es i = some (some (i + j, v)) ∧ es[j]? = some e ∧ e.key = .string k ∧ e.val = v ∧ (∀ u, aput m k u = m.set j (k, u)) ∧ j < m.length ∧ ((akeys m).Nodup → adel m k = m.eraseIdx j)
  | [], [], i, _ => .inl ⟨rfl, rfl⟩
  | [], _ :: _, _, h => by simp at h
  | _ :: _, [], _, h => by simp at h
  | e :: es, p :: m, i, h => by
    simp only [List.map_cons, List.cons.injEq, Prod.mk.injEq] at h
    obtain ⟨⟨h1, h2⟩, h3⟩ := h
    by_cases hk : p.1 = k
    · right
      refine ⟨0, e, p.2, by simp [aget, hk], ?_, rfl, by rw [h1, hk], h2, fun u => by simp [aput, hk], by simp, fun hn => by
        simp only [akeys, List.map_cons, List.nodup_cons] at hn
        simp only [adel, List.filter_cons, hk, ne_eq, not_true_eq_false, decide_false, Bool.false_eq_true, if_false, List.eraseIdx_cons_zero]
        exact adel_none (aget_none.2 (hk ▸ hn.1))⟩
      have : (k == p.1) = true := (bytes_beq _ _).2 hk.symm
      simp [Instr.findNow, Instr.sameNow, h1, this, h2]
    · have hne : (k == p.1) = false := by
        cases hc : k == p.1 with
        | false => rfl
        | true => exact absurd ((bytes_beq _ _).1 hc).symm hk
      rcases find_pairs (k := k) (i + 1) h3 with ⟨a, b⟩ | ⟨j, e', v, a, b, c, d, f, g, g', g''⟩
      · exact .inl ⟨by simp [aget, hk, a], by simp [Instr.findNow, Instr.sameNow, h1, hne, b]⟩
      · exact .inr ⟨j + 1, e', v, by simp [aget, hk, a], by simp [Instr.findNow, Instr.sameNow, h1, hne, b]; omega, by simpa using c, d, f, fun u => by simp [aput, hk, g], by simp; omega, fun hn => by
        simp only [akeys, List.map_cons, List.nodup_cons] at hn
        have := g'' hn.2
        simp only [adel, List.filter_cons, hk, ne_eq, not_false_eq_true, decide_true, if_true, List.eraseIdx_cons_succ] at this ⊢
        rw [this]⟩
section
variable {P : Program} {w : World} {b : Nat} {m : List (ByteArray × Value)} {t k e : TypeId}
theorem MapOf.lookup (h : MapOf w b m) (ht : P.underlying t = some (.map k e)) (hk : P.underlying k = some .string) {z : Value} (hz : (zeroValue e).run P w = .ok z w) (s : ByteArray) (ok : Bool) :
    (Instr.lookup t (.map (some b)) (.string s) ok).run P w = .ok (if ok then .tuple #[(aget m s).getD z, .bool (aget m s).isSome] else (aget m s).getD z) w := by
  obtain ⟨es, clock, hb, st, he⟩ := h
  have hkey : IsKey .string (.string s) := trivial
  rcases find_pairs (k := s) 0 he with ⟨h1, h2⟩ | ⟨j, e', v, h1, h2, -⟩
  · simp [Instr.lookup, run_underlying ht, Result.andThen, MapKept.run_getObj_map hb, run_checkKey hk hkey, run_findKey hk h2, h1, hz]
  · simp [Instr.lookup, run_underlying ht, Result.andThen, MapKept.run_getObj_map hb, run_checkKey hk hkey, run_findKey hk h2, h1]
theorem lookup_nil (ht : P.underlying t = some (.map k e)) (hk : P.underlying k = some .string) {z : Value} (hz : (zeroValue e).run P w = .ok z w) (s : ByteArray) (ok : Bool) :
    (Instr.lookup t (.map none) (.string s) ok).run P w = .ok (if ok then .tuple #[z, .bool false] else z) w := by
  have hkey : IsKey .string (.string s) := trivial
  simp [Instr.lookup, run_underlying ht, Result.andThen, run_checkKey hk hkey, Instr.findKey, run_underlying hk, Instr.findNow, hz]
theorem sameBits_string (n : Nat) (s : ByteArray) : Instr.sameBits n (.string s) (.string s) = true := by
  cases n <;> exact (bytes_beq s s).2 rfl
theorem MapOf.store (h : MapOf w b m) (ht : P.underlying t = some (.map k e)) (hk : P.underlying k = some .string) (s : ByteArray) (v : Value) :
    ∃ w', (Instr.mapUpdate t (.map (some b)) (.string s) v).run P w = .ok () w' ∧ MapOf w' b (aput m s v) ∧ w.grownBy w' (some b) ∧ w'.heap.size = w.heap.size := by
  obtain ⟨es, clock, hb, st, he⟩ := h
  have hkey : IsKey .string (.string s) := trivial
  have grow : ∀ o, w.grownBy { w with heap := w.heap.setIfInBounds b o } (some b) := fun o => ⟨rfl, rfl, rfl, by simp, fun i _ hi => (heap_set hb).2 i (fun e => hi (by rw [e]))⟩
  rcases find_pairs (k := s) 0 he with ⟨h1, h2⟩ | ⟨j, e', v0, h1, h2, h3, h4, h5, h6, h7, h8⟩
  · refine ⟨{ w with heap := w.heap.setIfInBounds b (.map (es.push ⟨.string s, v, clock⟩) (clock + 1)) }, by simp [Instr.mapUpdate, run_underlying ht, Result.andThen, MapKept.run_getObj_map hb, run_checkKey hk hkey, run_findKey hk h2, MapKept.run_setObj_map _ hb], ⟨_, _, (heap_set hb).1, stamped_push st ?_, ?_⟩, grow _, by simp⟩
    · intro x hx hxk
      have hx' : x.key ∈ es.toList.map (·.key) := List.mem_map.2 ⟨x, hx, rfl⟩
      rw [pairs_keys he, hxk] at hx'
      obtain ⟨s', hs', e⟩ := List.mem_map.1 hx'
      cases e
      exact aget_none.1 h1 hs'
    · rw [aput_none h1]; simp [he]
  · have hj : es[j]? = some e' := by simpa using h3
    have hks : (Instr.keyThatStays (((es[j]?).map (·.key)).getD (.string s)) (.string s)).run P w = .ok (.string s) w := by
      simp [Instr.keyThatStays, hj, h4, sameBits_string]
    have hrun : (Instr.mapUpdate t (.map (some b)) (.string s) v).run P w = .ok () { w with heap := w.heap.setIfInBounds b (.map (es.modify j fun e => { e with key := .string s, val := v }) clock) } := by
      simp only [Nat.zero_add] at h2
      simp [Instr.mapUpdate, run_underlying ht, Result.andThen, MapKept.run_getObj_map hb, run_checkKey hk hkey, run_findKey hk h2]
      rw [hks]
      simp [MapKept.run_setObj_map _ hb]
    refine ⟨_, hrun, ⟨_, _, (heap_set hb).1, stamped_modify st j _ (fun _ _ => rfl) (fun e1 _ he1 => by rw [hj] at he1; cases he1; exact h4.symm), ?_⟩, grow _, by simp⟩
    rw [h6]
    apply List.ext_getElem?
    intro i
    have hi := congrArg (·[i]?) he
    simp only [List.getElem?_map, Array.getElem?_toList] at hi
    simp only [List.getElem?_map, Array.getElem?_toList, Array.getElem?_modify, List.getElem?_set]
    by_cases hij : j = i
    · subst hij
      simp [hj, h7]
    · simp [hij, hi]
theorem map_eraseIdx' {α β : Type} (f : α → β) : ∀ (l : List α) (j : Nat), (l.map f).eraseIdx j = (l.eraseIdx j).map f
  | [], _ => rfl
  | _ :: _, 0 => rfl
  | x :: l, j + 1 => by simp [map_eraseIdx' f l j]
theorem MapOf.delete (h : MapOf w b m) (ht : P.underlying t = some (.map k e)) (hk : P.underlying k = some .string) (s : ByteArray) (ats : Array TypeId) (ty : TypeId) (hat : ats[0]? = some t) :
    ∃ w', (Builtin.delete_ ats ty #[.map (some b), .string s]).run P w = .ok (.tuple #[]) w' ∧ MapOf w' b (adel m s) ∧ w.grownBy w' (some b) ∧ w'.heap.size = w.heap.size := by
  have hnd := h.nodup
  obtain ⟨es, clock, hb, st, he⟩ := h
  have hkey : IsKey .string (.string s) := trivial
  have grow : ∀ o, w.grownBy { w with heap := w.heap.setIfInBounds b o } (some b) := fun o => ⟨rfl, rfl, rfl, by simp, fun i _ hi => (heap_set hb).2 i (fun e => hi (by rw [e]))⟩
  rcases find_pairs (k := s) 0 he with ⟨h1, h2⟩ | ⟨j, e', v0, h1, h2, h3, h4, h5, h6, h7, h8⟩
  · refine ⟨_, by simp [Builtin.delete_, hat, run_underlying ht, Result.andThen, MapKept.run_getObj_map hb, run_checkKey hk hkey, run_findKey hk h2, MapKept.run_setObj_map _ hb], ⟨_, _, (heap_set hb).1, st, ?_⟩, grow _, by simp⟩
    rw [adel_none h1, he]
  · have hj : es[j]? = some e' := by simpa using h3
    simp only [Nat.zero_add] at h2
    refine ⟨_, by simp [Builtin.delete_, hat, run_underlying ht, Result.andThen, MapKept.run_getObj_map hb, run_checkKey hk hkey, run_findKey hk h2, MapKept.run_setObj_map _ hb], ⟨_, _, (heap_set hb).1, stamped_erase st j, ?_⟩, grow _, by simp⟩
    have hlt : j < es.size := (Array.getElem?_eq_some_iff.1 hj).1
    have e1 : (es.eraseIdxIfInBounds j).toList = es.toList.eraseIdx j := by
      unfold Array.eraseIdxIfInBounds
      rw [dif_pos hlt]; simp
    rw [e1, h8 hnd, ← map_eraseIdx', he, map_eraseIdx']
theorem MapOf.len (h : MapOf w b m) (ht : P.underlying t = some (.map k e)) (ats : Array TypeId) (ty : TypeId) (hat : ats[0]? = some t) :
    (Builtin.len_ ats ty #[.map (some b)]).run P w = .ok (.int .i64 m.length) w := by
  obtain ⟨es, clock, hb, st, he⟩ := h
  have : es.size = m.length := by have := congrArg List.length he; simpa using this
  simp [Builtin.len_, hat, run_underlying ht, Result.andThen, MapKept.run_getObj_map hb, this, goInt]
end
/-- Block r is an iterator over the map in block b, which holds m; left: the entries that are still to come. -/
def IterOf (w : World) (r b : Nat) (m left : List (ByteArray × Value)) : Prop :=
  ∃ es clock seen c0, w.heap[b]? = some (.map es clock) ∧ Stamped es clock ∧ es.toList.map (fun e => (e.key, e.val)) = m.map (fun p => (Value.string p.1, p.2)) ∧
    w.heap[r]? = some (.mapIter (some b) clock seen c0) ∧ clock ≤ c0 ∧ (es.toList.filter fun e => !seen.contains e.born).map (fun e => (e.key, e.val)) = left.map (fun p => (Value.string p.1, p.2))
theorem IterOf.map {w : World} {r b : Nat} {m left : List (ByteArray × Value)} (h : IterOf w r b m left) : MapOf w b m := by
  obtain ⟨es, clock, _, _, hb, st, he, _⟩ := h
  exact ⟨es, clock, hb, st, he⟩
theorem IterOf.lt {w : World} {r b : Nat} {m left : List (ByteArray × Value)} (h : IterOf w r b m left) : r < w.heap.size := by
  obtain ⟨es, clock, _, _, hb, st, he, hr, _⟩ := h
  exact (Array.getElem?_eq_some_iff.1 hr).1
theorem IterOf.kept {S : Nat → Prop} {w w' : World} {r b : Nat} {m left : List (ByteArray × Value)} (h : IterOf w r b m left) (t : Turns S w w') (hb : ¬ S b) (hr : ¬ S r) : IterOf w' r b m left := by
  have h1 := h.lt
  have h2 := h.map.lt
  obtain ⟨es, clock, seen, c0, a1, a2, a3, a4, a5⟩ := h
  exact ⟨es, clock, seen, c0, (t.block b h2 hb).trans a1, a2, a3, (t.block r h1 hr).trans a4, a5⟩
theorem perm_pick {α : Type} {p : α → Bool} : ∀ {l : List α} {x : α}, x ∈ l → l.Nodup → (∀ y ∈ l, p y = true → y = x) → p x = true → List.Perm l (x :: l.filter fun y => !p y)
  | y :: l, x, h, hn, hu, hp => by
    simp only [List.nodup_cons] at hn
    by_cases e : y = x
    · subst e
      have : l.filter (fun z => !p z) = l := List.filter_eq_self.2 fun z hz => by
        cases hc : p z
        · rfl
        · have := hu z (.tail _ hz) hc; subst this; exact absurd hz hn.1
      simp [List.filter_cons, hp, this]
    · have hy : p y = false := by
        cases hc : p y
        · rfl
        · exact absurd (hu y (.head _) hc) e
      have hx : x ∈ l := by rcases List.mem_cons.1 h with h | h; exact absurd h.symm e; exact h
      simp only [List.filter_cons, hy, Bool.not_false, if_true]
      exact ((perm_pick hx hn.2 (fun z hz => hu z (.tail _ hz)) hp).cons y).trans (List.Perm.swap _ _ _)
theorem left_pick {left : List (ByteArray × Value)} {k : ByteArray} {v : Value} (hn : (akeys left).Nodup) (h : (k, v) ∈ left) : List.Perm left ((k, v) :: adel left k) := by
  have hn' : left.Nodup := List.Pairwise.of_map (·.1) (fun a b hab e => hab (by rw [e])) hn
  have := perm_pick (p := fun q : ByteArray × Value => decide (q.1 = k)) h hn' (fun y hy e => by
    have e' : y.1 = k := by simpa using e
    obtain ⟨y1, y2⟩ := y
    subst e'
    have h1 := aget_of_mem hn hy
    rw [aget_of_mem hn h] at h1; cases h1; rfl) (by simp)
  have e : (left.filter fun q => !decide (q.1 = k)) = adel left k := by
    unfold adel; congr 1; funext q; by_cases hq : q.1 = k <;> simp [hq]
  rwa [e] at this
section
variable {P : Program} {w : World} {r b : Nat} {m left : List (ByteArray × Value)} {t k e : TypeId}
theorem run_range_map' (w : World) (t k e : TypeId) (b : Nat) (es : Array MapEntry) (clock : Nat) (ht : P.underlying t = some (.map k e)) (hb : w.heap[b]? = some (.map es clock)) :
    (Instr.range t (.map (some b))).run P w = .ok (.pointer (some ⟨w.heap.size, 0, none⟩)) (w.alloc (.mapIter (some b) clock #[] clock)) := run_range_map w t k e b es clock ht hb
theorem MapOf.range (h : MapOf w b m) (ht : P.underlying t = some (.map k e)) :
    ∃ w', (Instr.range t (.map (some b))).run P w = .ok (.pointer (some ⟨w.heap.size, 0, none⟩)) w' ∧ IterOf w' w.heap.size b m m ∧ w.grownBy w' none ∧ w'.heap.size = w.heap.size + 1 := by
  have hlt := h.lt
  obtain ⟨es, clock, hb, st, he⟩ := h
  exact ⟨_, run_range_map' w t k e b es clock ht hb, ⟨es, clock, #[], clock, ((heap_alloc w _).2 b hlt).trans hb, st, he, (heap_alloc w _).1, Nat.le_refl _, by rw [show (es.toList.filter fun e => !(#[] : Array Nat).contains e.born) = es.toList from List.filter_eq_self.2 fun _ _ => by simp]; exact he⟩, World.grownBy_alloc w _ none, by simp⟩
theorem IterOf.nodup (h : IterOf w r b m left) : (akeys left).Nodup := by
  obtain ⟨es, clock, seen, c0, a1, st, a3, a4, a5, a6⟩ := h
  have h1 := ((List.filter_sublist (l := es.toList) (p := fun e => !seen.contains e.born)).map (·.key)).nodup st.2.2
  rw [pairs_keys a6] at h1
  exact List.Pairwise.of_map Value.string (fun a b hab e => hab (by rw [e])) h1
theorem IterOf.next (h : IterOf w r b m left) (ty : TypeId) :
    (left = [] ∧ (Instr.next (.pointer (some ⟨r, 0, none⟩)) false ty).run P w = .ok (.tuple #[.bool false]) w) ∨
    ∃ s v w', (s, v) ∈ left ∧ (Instr.next (.pointer (some ⟨r, 0, none⟩)) false ty).run P w = .ok (.tuple #[.bool true, .string s, v]) w' ∧ IterOf w' r b m (adel left s) ∧ w.grownBy w' (some r) ∧ w'.heap.size = w.heap.size ∧
      (Instr.entry (.pointer (some ⟨r, 0, none⟩))).run P w' = .ok (.tuple #[.string s, v]) w' := by
  have hnl := h.nodup
  obtain ⟨es, clock, seen, c0, hb, st, he, hr, hc, hl⟩ := h
  have hne : r ≠ b := fun e => by subst e; rw [hr] at hb; cases hb
  rcases run_next_at (P := P) w ty r b clock c0 seen es clock hr hb st.1 hc with ⟨h0, hrun⟩ | ⟨e, he', w1, hal, hrun⟩
  · left
    refine ⟨?_, hrun⟩
    have h1 : (leftOf es seen).toList = [] := by simpa using Array.eq_empty_of_size_eq_zero h0
    unfold leftOf at h1
    rw [Array.toList_filter] at h1
    rw [h1] at hl
    simpa using hl.symm
  · right
    have hmem : e ∈ es.toList.filter fun e => !seen.contains e.born := by simpa [leftOf] using he'
    have hml : (e.key, e.val) ∈ left.map (fun p => (Value.string p.1, p.2)) := by rw [← hl]; exact List.mem_map.2 ⟨e, hmem, rfl⟩
    obtain ⟨⟨s, v⟩, hsv, heq⟩ := List.mem_map.1 hml
    simp only [Prod.mk.injEq] at heq
    obtain ⟨hk, hv⟩ := heq
    have hr1 : w1.heap[r]? = some (.mapIter (some b) clock seen c0) := by rcases hal with rfl | rfl <;> exact hr
    have hb1 : w1.heap[b]? = some (.map es clock) := by rcases hal with rfl | rfl <;> exact hb
    have hset := heap_set (o' := .mapIter (some b) clock (seen.push e.born) clock) hr1
    have hem := (List.mem_filter.1 hmem).1
    have hb' : (setBlock w1 r (.mapIter (some b) clock (seen.push e.born) clock)).heap[b]? = some (.map es clock) := (hset.2 b (fun e1 => hne e1.symm)).trans hb1
    have hent := run_entry_at (P := P) (setBlock w1 r (.mapIter (some b) clock (seen.push e.born) clock)) r b clock seen es clock e hset.1 hb' hem st.2.1
    rw [← hk, ← hv] at hrun hent
    refine ⟨s, v, _, hsv, hrun, ⟨es, clock, seen.push e.born, clock, hb', st, he, hset.1, Nat.le_refl _, ?_⟩, ?_, ?_, hent⟩
    · have e1 : (es.toList.filter fun x => !(seen.push e.born).contains x.born) = (es.toList.filter fun x => !seen.contains x.born).filter fun x => !(x.born == e.born) := by
        rw [List.filter_filter]
        congr 1
        funext x
        rw [contains_push]
        cases seen.contains x.born <;> cases (x.born == e.born) <;> rfl
      rw [e1]
      generalize hL : (es.toList.filter fun x => !seen.contains x.born) = L at hl hmem ⊢
      have hbn : ∀ x ∈ L, (x.born == e.born) = true → x.key = .string s := fun x hx hxe => by
        have hx' : x ∈ es.toList := by rw [← hL] at hx; exact (List.mem_filter.1 hx).1
        have := born_inj st.2.1 hx' hem (by simpa using hxe)
        rw [this, hk]
      have hkb : ∀ x ∈ L, x.key = .string s → (x.born == e.born) = true := fun x hx hxk => by
        have hx' : x ∈ es.toList := by rw [← hL] at hx; exact (List.mem_filter.1 hx).1
        have := entry_eq_of_key ((stamped_iff es clock).1 st).2.2 hx' hem (by rw [hxk, hk])
        rw [this]; simp
      clear hL hmem hml hsv hnl
      induction L generalizing left with
      | nil => cases left with
        | nil => rfl
        | cons _ _ => simp at hl
      | cons x L ih => cases left with
        | nil => simp at hl
        | cons p left =>
          simp only [List.map_cons, List.cons.injEq, Prod.mk.injEq] at hl
          obtain ⟨⟨q1, q2⟩, q3⟩ := hl
          have := ih q3 (fun y hy => hbn y (.tail _ hy)) (fun y hy => hkb y (.tail _ hy))
          simp only [adel, List.filter_cons] at this ⊢
          by_cases hp : p.1 = s
          · have hx : (x.born == e.born) = true := hkb x (.head _) (by rw [q1, hp])
            simp only [hx, hp, Bool.not_true, Bool.false_eq_true, if_false, ne_eq, not_true_eq_false, decide_false]
            exact this
          · have hx : (x.born == e.born) = false := by
              cases hc : x.born == e.born
              · rfl
              · exact absurd (Value.string.inj (q1.symm.trans (hbn x (.head _) hc))) hp
            simp only [hx, hp, Bool.not_false, if_true, ne_eq, not_false_eq_true, decide_true, List.map_cons, List.cons.injEq, Prod.mk.injEq]
            exact ⟨⟨q1, q2⟩, this⟩
    · rcases hal with rfl | rfl <;> exact ⟨rfl, rfl, rfl, by simp [setBlock], fun i _ hi => hset.2 i (fun e1 => hi (by rw [e1]))⟩
    · rcases hal with rfl | rfl <;> simp [setBlock]
end
/- at the operation, for a walk -/
section
variable {P : Program} {w : World} {ops : Array Oper} {rest : List Oper} {o : Oper} {a : Act} {Q : Exit → Act → World → Prop} {r b : Nat} {m left : List (ByteArray × Value)}
theorem wpList_lookup_str (t k e : TypeId) (hg : o.guard = none) (x y : Operand) (ok : Bool) (hop : o.op = Op.lookup t x y ok) (ht : P.underlying t = some (.map k e)) (hk : P.underlying k = some .string)
    {z : Value} (hz : (zeroValue e).run P w = .ok z w) (hm : MapOf w b m) (hx : a.eval x = .map (some b)) (s : ByteArray) (hs : a.eval y = .string s)
    (hK : wpList P ops Q rest (a.put o.dst (if ok then .tuple #[(aget m s).getD z, .bool (aget m s).isSome] else (aget m s).getD z)) w) : wpList P ops Q (o :: rest) a w := by
  refine wpList_plain hg fun K' hK' => ?_
  unfold Oper.wp
  simp only [execOp, hop, hx, hs, Sem.run_bind, hm.lookup ht hk hz s ok, Result.andThen]
  exact hK' _ _ hK
theorem wpList_store_str (t k e : TypeId) (hg : o.guard = none) (x y v : Operand) (hop : o.op = Op.mapUpdate t x y v) (ht : P.underlying t = some (.map k e)) (hk : P.underlying k = some .string)
    (hm : MapOf w b m) (hx : a.eval x = .map (some b)) (s : ByteArray) (hs : a.eval y = .string s) (u : Value) (hu : a.eval v = u)
    (hK : ∀ w', MapOf w' b (aput m s u) → w.grownBy w' (some b) → w'.heap.size = w.heap.size → wpList P ops Q rest (a.put o.dst undef) w') : wpList P ops Q (o :: rest) a w := by
  refine wpList_plain hg fun K' hK' => ?_
  obtain ⟨w', hrun, h1, h2, h3⟩ := hm.store ht hk s u
  unfold Oper.wp
  simp only [execOp, hop, hx, hs, hu, Sem.run_bind, hrun, Result.andThen]
  exact hK' _ _ (hK w' h1 h2 h3)
theorem wpList_range_str (t k e : TypeId) (hg : o.guard = none) (x : Operand) (hop : o.op = Op.range t x) (ht : P.underlying t = some (.map k e)) (hm : MapOf w b m) (hx : a.eval x = .map (some b))
    (hK : ∀ w', IterOf w' w.heap.size b m m → w.grownBy w' none → w'.heap.size = w.heap.size + 1 → wpList P ops Q rest (a.put o.dst (.pointer (some ⟨w.heap.size, 0, none⟩))) w') : wpList P ops Q (o :: rest) a w := by
  refine wpList_plain hg fun K' hK' => ?_
  obtain ⟨w', hrun, h1, h2, h3⟩ := hm.range (P := P) ht
  unfold Oper.wp
  simp only [execOp, hop, hx, Sem.run_bind, hrun, Result.andThen]
  exact hK' _ _ (hK w' h1 h2 h3)
theorem wpList_next_str (hg : o.guard = none) (it : Operand) (hop : o.op = Op.next it false) (hit : a.eval it = .pointer (some ⟨r, 0, none⟩)) (hr : IterOf w r b m left)
    (hN : left = [] → wpList P ops Q rest (a.put o.dst (.tuple #[.bool false])) w)
    (hK : ∀ s v w', (s, v) ∈ left → IterOf w' r b m (adel left s) → w.grownBy w' (some r) → w'.heap.size = w.heap.size → (Instr.entry (.pointer (some ⟨r, 0, none⟩))).run P w' = .ok (.tuple #[.string s, v]) w' →
      wpList P ops Q rest (a.put o.dst (.tuple #[.bool true, .string s, v])) w') : wpList P ops Q (o :: rest) a w := by
  refine wpList_plain hg fun K' hK' => ?_
  unfold Oper.wp
  rcases hr.next (P := P) o.type with ⟨h0, hrun⟩ | ⟨s, v, w', h1, hrun, h2, h3, h4, h5⟩
  · simp only [execOp, hop, hit, Sem.run_bind, hrun, Result.andThen]
    exact hK' _ _ (hN h0)
  · simp only [execOp, hop, hit, Sem.run_bind, hrun, Result.andThen]
    exact hK' _ _ (hK s v w' h1 h2 h3 h4 h5)
theorem wpList_delete_str (t k e : TypeId) (hg : o.guard = none) (x y : Operand) (hop : o.op = Op.call { callee := Callee.builtin Builtin.delete, args := #[x, y], argTypes := #[t, k] }) (ht : P.underlying t = some (.map k e)) (hk : P.underlying k = some .string)
    (hm : MapOf w b m) (hx : a.eval x = .map (some b)) (s : ByteArray) (hs : a.eval y = .string s)
    (hK : ∀ w', MapOf w' b (adel m s) → w.grownBy w' (some b) → w'.heap.size = w.heap.size → wpList P ops Q rest (a.put o.dst (.tuple #[])) w') : wpList P ops Q (o :: rest) a w := by
  refine wpList_plain hg fun K' hK' => ?_
  obtain ⟨w', hrun, h1, h2, h3⟩ := hm.delete ht hk s #[t, k] o.type rfl
  unfold Oper.wp
  simp [execOp, hop, resolve, invoke, builtin, hx, hs, hrun, Result.andThen]
  exact hK' _ _ (hK w' h1 h2 h3)
end
end Go.Lany
