/- The document's file system: its files rise; plain laws. -/
import Derived.Test.YthchfkjdbfhnhaaGreatDoorCrash
namespace Go.Proofs.YthchfkjdbfhnhaaGreatDoor
open Go Go.RowKit Go.Lany
set_option maxRecDepth 100000
/-- The place of a path. -/
def findI : List (ByteArray × ByteArray) → ByteArray → Option Nat
  | [], _ => none
  | x :: l, p => if x.1 = p then some 0 else (findI l p).map (· + 1)
theorem findI_some {l : List (ByteArray × ByteArray)} {p : ByteArray} {i : Nat} (h : findI l p = some i) : ∃ b, l[i]? = some (p, b) ∧ aget l p = some b := by
  induction l generalizing i with
  | nil => simp [findI] at h
  | cons x l ih =>
    simp only [findI] at h
    by_cases e : x.1 = p
    · rw [if_pos e] at h
      cases h
      exact ⟨x.2, by rw [← e]; rfl, by simp [aget, e]⟩
    · rw [if_neg e] at h
      obtain ⟨j, hj, rfl⟩ := Option.map_eq_some_iff.1 h
      obtain ⟨b, h1, h2⟩ := ih hj
      exact ⟨b, by simpa using h1, by simp [aget, e, h2]⟩
theorem findI_none {l : List (ByteArray × ByteArray)} {p : ByteArray} : findI l p = none ↔ aget l p = none := by
  induction l with
  | nil => simp [findI, aget]
  | cons x l ih =>
    simp only [findI, aget]
    by_cases e : x.1 = p
    · simp [e]
    · simp [e, ih]
theorem findI_at {l : List (ByteArray × ByteArray)} {p : ByteArray} {k : Nat} {x : ByteArray × ByteArray} (hx : l[k]? = some x) (hp : x.1 = p) (h : ∀ j, j < k → ∀ y, l[j]? = some y → ¬ y.1 = p) : findI l p = some k := by
  induction l generalizing k with
  | nil => simp at hx
  | cons y l ih =>
    simp only [findI]
    rcases k with _ | k
    · simp at hx; rw [hx, if_pos hp]
    · rw [if_neg (h 0 (by omega) y rfl), ih (k := k) (by simpa using hx) fun j hj z hz => h (j + 1) (by omega) z (by simpa using hz)]
      rfl
theorem findI_no {l : List (ByteArray × ByteArray)} {p : ByteArray} (h : ∀ (j : Nat) (y : ByteArray × ByteArray), l[j]? = some y → ¬ y.1 = p) : findI l p = none := by
  rw [findI_none, aget_none]
  intro hm
  obtain ⟨x, hx, e⟩ := List.mem_map.1 hm
  obtain ⟨j, hj⟩ := List.getElem?_of_mem hx
  exact h j x hj e
def intOfI (o : Option Nat) : Int := match o with | some i => (i : Int) | none => -1
/-- Below a directory, as the document says it. -/
def belowB (p d : ByteArray) : Bool := if (d.toList == [47]) then true else decide (d.size < p.size) && ((p.extract 0 d.size).toList == d.toList) && (byteAt p d.size == 47)
theorem belowB_eq {p d : ByteArray} (h : (d.toList == [47]) = false) : belowB p d = Lib.hasPrefix p.data.toList (d ++ slash).data.toList := by
  unfold belowB
  rw [h, if_neg (by simp), Bool.eq_iff_iff, below_iff]
  simp only [Bool.and_eq_true, decide_eq_true_eq, beq_iff_eq]
  constructor
  · rintro ⟨⟨h1, h2⟩, h3⟩
    exact ⟨h1, bytes_eq (by rw [← toList_data, ← toList_data]; exact h2), h3⟩
  · rintro ⟨h1, h2, h3⟩
    exact ⟨⟨h1, by rw [h2]⟩, h3⟩
/-- The files of s, rising. -/
structure Sorts (s : FsSt) (fs : List (ByteArray × ByteArray)) : Prop where
  has : Has s fs
  up : Rising (akeys fs)
theorem less_irrefl (x : List UInt8) : Op.bytesLess x x = false := by rw [less_eq]; simp
theorem less_trans {x y z : List UInt8} (h : Op.bytesLess x y = true) (k : Op.bytesLess y z = true) : Op.bytesLess x z = true := by
  rw [less_eq, decide_eq_true_eq] at *
  exact List.lt_trans h k
theorem less_total {x y : List UInt8} (h : Op.bytesLess x y = false) : x = y ∨ Op.bytesLess y x = true := by
  rw [less_eq, decide_eq_false_iff_not] at h
  rw [less_eq, decide_eq_true_eq]
  rcases List.le_iff_lt_or_eq.1 (List.not_lt.1 h) with e | e
  · exact .inr e
  · exact .inl e.symm
theorem rising_nodup {l : List ByteArray} (h : Rising l) : l.Nodup := List.Pairwise.imp (fun {a b} hab e => by rw [e, less_irrefl] at hab; cases hab) h
theorem Sorts.nodup {s : FsSt} {fs : List (ByteArray × ByteArray)} (h : Sorts s fs) : (akeys fs).Nodup := rising_nodup h.up
theorem Sorts.length {s : FsSt} {fs : List (ByteArray × ByteArray)} (h : Sorts s fs) (hw : s.Wf) : fs.length = s.files.length := by
  have h1 : (akeys fs).Perm (akeys s.files) := (List.perm_ext_iff_of_nodup h.nodup hw.nodup).2 fun p => has_keys h.has p
  have := h1.length_eq
  simpa [akeys] using this
theorem rising_eq : ∀ {l l' : List ByteArray}, Rising l → Rising l' → (∀ x, x ∈ l ↔ x ∈ l') → l = l'
  | [], [], _, _, _ => rfl
  | [], y :: _, _, _, h => by have := (h y).2 (List.mem_cons_self ..); cases this
  | x :: _, [], _, _, h => by have := (h x).1 (List.mem_cons_self ..); cases this
  | x :: l, y :: l', h1, h2, h => by
    obtain ⟨a1, a2⟩ := List.pairwise_cons.1 h1
    obtain ⟨b1, b2⟩ := List.pairwise_cons.1 h2
    have e : x = y := by
      rcases List.mem_cons.1 ((h x).1 (List.mem_cons_self ..)) with e | hx
      · exact e
      · rcases List.mem_cons.1 ((h y).2 (List.mem_cons_self ..)) with e | hy
        · exact e.symm
        · have k1 := b1 x hx
          have k2 := a1 y hy
          rw [less_eq, decide_eq_true_eq] at k1 k2
          exact absurd (List.lt_trans k1 k2) (by rw [← decide_eq_true_eq (p := y.toList < y.toList), ← less_eq, less_irrefl]; simp)
    subst e
    rw [rising_eq a2 b2 fun z => ?_]
    constructor
    · intro hz
      rcases List.mem_cons.1 ((h z).1 (List.mem_cons_of_mem _ hz)) with e | hz'
      · rw [e] at hz; have := a1 x hz; rw [less_irrefl] at this; cases this
      · exact hz'
    · intro hz
      rcases List.mem_cons.1 ((h z).2 (List.mem_cons_of_mem _ hz)) with e | hz'
      · rw [e] at hz; have := b1 x hz; rw [less_irrefl] at this; cases this
      · exact hz'
theorem akeys_append {α : Type} (a b : List (ByteArray × α)) : akeys (a ++ b) = akeys a ++ akeys b := by simp [akeys]
theorem aget_append {α : Type} (a b : List (ByteArray × α)) (p : ByteArray) : aget (a ++ b) p = match aget a p with | some x => some x | none => aget b p := by
  induction a with
  | nil => rfl
  | cons x a ih =>
    simp only [List.cons_append, aget]
    by_cases e : x.1 = p
    · simp [e]
    · simp [e, ih]
/-- A file more, at its place. -/
theorem sorts_insert {s : FsSt} {fs : List (ByteArray × ByteArray)} {p b : ByteArray} {k : Nat} (h : Sorts s fs) (hk : k ≤ fs.length) (hn : aget s.files p = none) (hlo : ∀ j x, j < k → fs[j]? = some x → Op.bytesLess x.1.toList p.toList = true) (hhi : ∀ x, fs[k]? = some x → Op.bytesLess x.1.toList p.toList = false) :
    Sorts (s.put p b) (fs.take k ++ (p, b) :: fs.drop k) := by
  have hnf : p ∉ akeys fs := fun e => aget_none.1 hn ((has_keys h.has p).1 e)
  have hup : Rising (akeys (fs.take k) ++ akeys (fs.drop k)) := by rw [← akeys_append, List.take_append_drop]; exact h.up
  obtain ⟨u1, u2, u3⟩ := List.pairwise_append.1 hup
  have hlow : ∀ x ∈ akeys (fs.take k), Op.bytesLess x.toList p.toList = true := by
    intro x hx
    obtain ⟨y, hy, rfl⟩ := List.mem_map.1 hx
    obtain ⟨j, hj⟩ := List.getElem?_of_mem hy
    have hjl : j < (fs.take k).length := (List.getElem?_eq_some_iff.1 hj).1
    rw [List.length_take] at hjl
    rw [List.getElem?_take, if_pos (by omega)] at hj
    exact hlo j y (by omega) hj
  have hhigh : ∀ x ∈ akeys (fs.drop k), Op.bytesLess p.toList x.toList = true := by
    intro x hx
    cases hd : fs[k]? with
    | none =>
      have : fs.length ≤ k := List.getElem?_eq_none_iff.1 hd
      rw [List.drop_eq_nil_of_le this] at hx
      cases hx
    | some y =>
      have hyl : k < fs.length := (List.getElem?_eq_some_iff.1 hd).1
      have hdk : fs.drop k = y :: fs.drop (k + 1) := by rw [List.drop_eq_getElem_cons hyl]; congr 1; exact (List.getElem?_eq_some_iff.1 hd).2
      have hpy : Op.bytesLess p.toList y.1.toList = true := by
        rcases less_total (hhi y hd) with e | e
        · exfalso
          apply hnf
          have : y.1 = p := bytes_eq (by rw [← toList_data, ← toList_data]; exact e)
          rw [← this]
          exact List.mem_map.2 ⟨y, List.mem_of_getElem? hd, rfl⟩
        · exact e
      rw [hdk] at hx u2
      rcases List.mem_cons.1 hx with rfl | hx
      · exact hpy
      · exact less_trans hpy ((List.pairwise_cons.1 u2).1 x hx)
  refine ⟨fun q => ?_, ?_⟩
  · rw [aget_append]
    show _ = aget (aput s.files p b) q
    rw [aget_aput]
    have hq := h.has q
    rw [← List.take_append_drop k fs, aget_append] at hq
    by_cases e : q = p
    · subst e
      rw [if_pos rfl]
      have : aget (fs.take k) q = none := aget_none.2 fun hm => hnf (by rw [← List.take_append_drop k fs, akeys_append]; exact List.mem_append_left _ hm)
      rw [this]
      simp [aget]
    · rw [if_neg e, ← hq]
      simp only [aget]
      rw [if_neg (fun e' => e e'.symm)]
  · show Rising (akeys (fs.take k ++ (p, b) :: fs.drop k))
    rw [akeys_append]
    refine List.pairwise_append.2 ⟨u1, List.pairwise_cons.2 ⟨hhigh, u2⟩, fun x hx y hy => ?_⟩
    rcases List.mem_cons.1 hy with e | hy
    · have e' : y = p := e
      rw [e']; exact hlow x hx
    · exact u3 x hx y hy
theorem akeys_set {α : Type} {fs : List (ByteArray × α)} {k : Nat} {p : ByteArray} {b d : α} (h : fs[k]? = some (p, d)) : akeys (fs.set k (p, b)) = akeys fs := by
  unfold akeys
  rw [List.map_set]
  have : (fs.map (·.1))[k]? = some p := by rw [List.getElem?_map, h]; rfl
  apply List.ext_getElem?
  intro i
  rw [List.getElem?_set]
  by_cases e : k = i
  · subst e
    have hl := (List.getElem?_eq_some_iff.1 this).1
    rw [if_pos rfl, if_pos hl, this]
  · rw [if_neg e]
theorem aget_set {α : Type} {fs : List (ByteArray × α)} {k : Nat} {p q : ByteArray} {b d : α} (hn : (akeys fs).Nodup) (h : fs[k]? = some (p, d)) : aget (fs.set k (p, b)) q = if q = p then some b else aget fs q := by
  have hn' : (akeys (fs.set k (p, b))).Nodup := by rw [akeys_set h]; exact hn
  have hk : k < fs.length := (List.getElem?_eq_some_iff.1 h).1
  by_cases e : q = p
  · rw [if_pos e, e]
    exact aget_of_mem hn' (List.mem_of_getElem? (by rw [List.getElem?_set_self hk] : (fs.set k (p, b))[k]? = some (p, b)))
  · rw [if_neg e]
    cases hq : aget fs q with
    | none =>
      rw [aget_none, akeys_set h, ← aget_none]
      exact hq
    | some x =>
      have hm := aget_mem hq
      obtain ⟨j, hj⟩ := List.getElem?_of_mem hm
      have hjk : k ≠ j := fun e' => by rw [e', hj] at h; exact e (congrArg Prod.fst (Option.some.inj h))
      exact aget_of_mem hn' (List.mem_of_getElem? (by rw [List.getElem?_set_ne hjk]; exact hj : (fs.set k (p, b))[j]? = some (q, x)))
/-- A file anew, at its place. -/
theorem sorts_set {s : FsSt} {fs : List (ByteArray × ByteArray)} {p b d : ByteArray} {k : Nat} (h : Sorts s fs) (hk : fs[k]? = some (p, d)) : Sorts (s.put p b) (fs.set k (p, b)) := by
  refine ⟨fun q => ?_, by rw [akeys_set hk]; exact h.up⟩
  rw [aget_set h.nodup hk]
  show _ = aget (aput s.files p b) q
  rw [aget_aput, h.has q]
theorem sorts_drop {s : FsSt} {fs : List (ByteArray × ByteArray)} {p d : ByteArray} {k : Nat} (h : Sorts s fs) (hk : fs[k]? = some (p, d)) : Sorts { s with files := adel s.files p } (fs.take k ++ fs.drop (k + 1)) := by
  have hl : k < fs.length := (List.getElem?_eq_some_iff.1 hk).1
  have hs : fs = fs.take k ++ (p, d) :: fs.drop (k + 1) := by
    conv => lhs; rw [← List.take_append_drop k fs, List.drop_eq_getElem_cons hl, (List.getElem?_eq_some_iff.1 hk).2]
  have hn := h.nodup
  rw [hs, akeys_append] at hn
  have hu := h.up
  rw [hs, akeys_append] at hu
  obtain ⟨u1, u2, u3⟩ := List.pairwise_append.1 hu
  obtain ⟨u4, u5⟩ := List.pairwise_cons.1 u2
  obtain ⟨n1, n2, n3⟩ := List.nodup_append.1 hn
  refine ⟨fun q => ?_, ?_⟩
  · show _ = aget (adel s.files p) q
    rw [aget_adel, ← h.has q, aget_append]
    by_cases e : q = p
    · rw [if_pos e, e]
      have h1 : aget (fs.take k) p = none := aget_none.2 fun hm => n3 p hm p (List.mem_cons_self ..) rfl
      have h2 : aget (fs.drop (k + 1)) p = none := aget_none.2 fun hm => (List.nodup_cons.1 n2).1 hm
      rw [h1, h2]
    · rw [if_neg e]
      conv => rhs; rw [hs, aget_append]
      simp only [aget]
      rw [if_neg (fun e' => e e'.symm)]
  · show Rising (akeys (fs.take k ++ fs.drop (k + 1)))
    rw [akeys_append]
    exact List.pairwise_append.2 ⟨u1, u5, fun x hx y hy => u3 x hx y (List.mem_cons_of_mem _ hy)⟩
theorem Sorts.same {s t : FsSt} {fs : List (ByteArray × ByteArray)} (h : Sorts s fs) (hf : t.files = s.files) : Sorts t fs := ⟨fun p => by rw [hf]; exact h.has p, h.up⟩
/-- What is wrong with a path that is to be a file's, told by the files alone. -/
theorem free_iff {s : FsSt} {p : ByteArray} (hw : s.Wf) : freeE s p ⟨#[]⟩ = if dirB (akeys s.files) p ⟨#[]⟩ then 24 else if (akeys s.files).any (fun k => belowB p k) then 24 else 0 := by
  unfold freeE
  by_cases hd : dirB (akeys s.files) p ⟨#[]⟩ = true
  · rw [if_pos hd, if_pos hd]
  · rw [if_neg hd, if_neg hd]
    have : (List.range p.size).any (fun i => decide (1 ≤ i) && overB s p ⟨#[]⟩ i) = (akeys s.files).any (fun k => belowB p k) := by
      rw [Bool.eq_iff_iff, List.any_eq_true, List.any_eq_true]
      constructor
      · rintro ⟨i, hi, ho⟩
        simp only [Bool.and_eq_true, decide_eq_true_eq] at ho
        obtain ⟨h1, h2⟩ := ho
        have hlt := List.mem_range.1 hi
        unfold overB isFile at h2
        simp only [Bool.and_eq_true, beq_iff_eq] at h2
        obtain ⟨⟨h3, _⟩, h4⟩ := h2
        obtain ⟨v, hv⟩ := Option.isSome_iff_exists.1 h4
        have hk := mem_akeys.2 ⟨v, hv⟩
        refine ⟨p.extract 0 i, hk, ?_⟩
        rw [belowB_eq (dir_of_good (hw.good _ hk)), below_iff]
        have hsz : (p.extract 0 i).size = i := by simp; omega
        exact ⟨by omega, by rw [hsz], by rw [hsz]; exact h3⟩
      · rintro ⟨k, hk, hb⟩
        have hg := hw.good k hk
        rw [belowB_eq (dir_of_good hg), below_iff] at hb
        obtain ⟨h1, h2, h3⟩ := hb
        have hp := good_pos hg
        refine ⟨k.size, List.mem_range.2 h1, ?_⟩
        simp only [Bool.and_eq_true, decide_eq_true_eq]
        refine ⟨hp, ?_⟩
        unfold overB isFile
        rw [h2, h3]
        obtain ⟨v, hv⟩ := mem_akeys.1 hk
        rw [hv, show (k.toList == (⟨#[]⟩ : ByteArray).toList) = false by
          rw [toList_data, toList_data, beq_eq_false_iff_ne]
          exact fun e => empty_not hp (bytes_eq e)]
        rfl
    rw [this]
theorem any_keys {l l' : List ByteArray} (h : ∀ x, x ∈ l ↔ x ∈ l') (t : ByteArray → Bool) : l.any t = l'.any t := by
  rw [Bool.eq_iff_iff, List.any_eq_true, List.any_eq_true]
  exact ⟨fun ⟨x, hx, ht⟩ => ⟨x, (h x).1 hx, ht⟩, fun ⟨x, hx, ht⟩ => ⟨x, (h x).2 hx, ht⟩⟩
theorem dir_iff {s : FsSt} {d : ByteArray} (hw : s.Wf) {ks : List ByteArray} (hk : ∀ x, x ∈ ks ↔ x ∈ akeys s.files) : dirB (akeys s.files) d ⟨#[]⟩ = (ks.any (fun p => belowB p d) || (d.toList == [47])) := by
  unfold dirB
  rw [any_keys hk]
  cases hd : (d.toList == [47]) with
  | true => simp
  | false =>
    rw [Bool.false_or, Bool.or_false, Bool.eq_iff_iff, List.any_eq_true, List.any_eq_true]
    have hu : ∀ x ∈ akeys s.files, under d ⟨#[]⟩ x = belowB x d := fun x hx => by
      unfold under
      rw [belowB_eq hd, show (x.toList == (⟨#[]⟩ : ByteArray).toList) = false by
        rw [toList_data, toList_data, beq_eq_false_iff_ne]
        exact fun e => empty_not (good_pos (hw.good x hx)) (bytes_eq e)]
      rfl
    exact ⟨fun ⟨x, hx, ht⟩ => ⟨x, hx, by rw [← hu x hx]; exact ht⟩, fun ⟨x, hx, ht⟩ => ⟨x, hx, by rw [hu x hx]; exact ht⟩⟩
/-- One file thought away, or dropped. -/
theorem free_drop {s : FsSt} {p q : ByteArray} (hw : s.Wf) (hp : 1 ≤ p.size) : freeE s q p = freeE { s with files := adel s.files p } q ⟨#[]⟩ := by
  have hne : ∀ x y : ByteArray, (x.toList == y.toList) = decide (x = y) := fun x y => by
    rw [Bool.eq_iff_iff, beq_iff_eq, decide_eq_true_eq, toList_data, toList_data]
    exact ⟨fun e => bytes_eq e, fun e => by rw [e]⟩
  have hd : dirB (akeys s.files) q p = dirB (akeys (adel s.files p)) q ⟨#[]⟩ := by
    unfold dirB
    congr 1
    rw [Bool.eq_iff_iff, List.any_eq_true, List.any_eq_true]
    constructor
    · rintro ⟨x, hx, h⟩
      unfold under at h
      rw [hne] at h
      simp only [Bool.and_eq_true, Bool.not_eq_true', decide_eq_false_iff_not] at h
      obtain ⟨v, hv⟩ := mem_akeys.1 hx
      refine ⟨x, mem_akeys.2 ⟨v, by rw [aget_adel, if_neg h.1]; exact hv⟩, ?_⟩
      unfold under
      rw [hne, h.2, decide_eq_false (empty_not (good_pos (hw.good x hx)))]
      rfl
    · rintro ⟨x, hx, h⟩
      obtain ⟨h1, h2⟩ := mem_adel hx
      unfold under at h
      simp only [Bool.and_eq_true] at h
      refine ⟨x, h2, ?_⟩
      unfold under
      rw [hne, h.2, decide_eq_false h1]
      rfl
  unfold freeE
  rw [hd]
  have ho : ∀ i, 1 ≤ i → i < q.size → overB s q p i = overB { s with files := adel s.files p } q ⟨#[]⟩ i := by
    intro i h1 h2
    have hsz : (q.extract 0 i).size = i := by simp; omega
    unfold overB isFile
    rw [hne, hne, decide_eq_false (empty_not (by omega)), show aget (adel s.files p) (q.extract 0 i) = if q.extract 0 i = p then none else aget s.files (q.extract 0 i) from aget_adel]
    by_cases e : q.extract 0 i = p
    · rw [if_pos e, decide_eq_true e]; simp
    · rw [if_neg e, decide_eq_false e]
  have : (List.range q.size).any (fun i => decide (1 ≤ i) && overB s q p i) = (List.range q.size).any (fun i => decide (1 ≤ i) && overB { s with files := adel s.files p } q ⟨#[]⟩ i) := by
    rw [Bool.eq_iff_iff, List.any_eq_true, List.any_eq_true]
    constructor
    all_goals
      rintro ⟨i, hi, h⟩
      simp only [Bool.and_eq_true, decide_eq_true_eq] at h
      refine ⟨i, hi, ?_⟩
      simp only [Bool.and_eq_true, decide_eq_true_eq]
      have := ho i h.1 (List.mem_range.1 hi)
      refine ⟨h.1, ?_⟩
      first | rw [← this]; exact h.2 | rw [this]; exact h.2
  rw [this]
end Go.Proofs.YthchfkjdbfhnhaaGreatDoor
