/- Keys that rise: plain laws. -/
import Derived.Test.YthchfkjdbfhnhaaGreatDoorListP
import Derived.Test.YthchfkjdbfhnhaaGreatDoorTree
namespace Go.Proofs.YthchfkjdbfhnhaaGreatDoor
open Go Go.RowKit Go.Lany
set_option maxRecDepth 100000
theorem less_eq : ∀ (x y : List UInt8), Op.bytesLess x y = decide (x < y)
  | [], [] => by simp [Op.bytesLess]
  | _ :: _, [] => by simp [Op.bytesLess]
  | [], _ :: _ => by simp [Op.bytesLess]
  | a :: x, b :: y => by
    rw [Op.bytesLess, less_eq x y]
    simp only [List.cons_lt_cons_iff]
    by_cases h1 : a < b <;> by_cases h2 : a = b <;> by_cases h3 : x < y <;> simp [h1, h2, h3]
theorem ofL_data (x : ByteArray) : ofL x.data.toList = x := by simp [ofL]
theorem mem_rise {l : List ByteArray} {x : ByteArray} : x ∈ rise l ↔ x ∈ l := by
  unfold rise
  rw [List.mem_map]
  constructor
  · rintro ⟨y, hy, rfl⟩
    rw [List.mem_mergeSort, List.mem_map] at hy
    obtain ⟨z, hz, rfl⟩ := hy
    rw [ofL_data]; exact hz
  · intro h
    exact ⟨x.data.toList, by rw [List.mem_mergeSort]; exact List.mem_map.2 ⟨x, h, rfl⟩, ofL_data x⟩
theorem rise_length (l : List ByteArray) : (rise l).length = l.length := by unfold rise; simp
theorem rise_nodup {l : List ByteArray} (h : l.Nodup) : (rise l).Nodup := by
  unfold rise
  have hp : ((l.map (·.data.toList)).mergeSort leB).Perm (l.map (·.data.toList)) := List.mergeSort_perm _ _
  have hn : (l.map (·.data.toList)).Nodup := (List.pairwise_map).2 (List.Pairwise.imp (fun hne e => hne (bytes_eq e)) h)
  exact (List.pairwise_map).2 (List.Pairwise.imp (fun hne e => hne (by simpa [ofL] using e)) (hp.nodup_iff.2 hn))
def Rising (l : List ByteArray) : Prop := l.Pairwise fun a b => Op.bytesLess a.toList b.toList = true
theorem rise_rising {l : List ByteArray} (h : l.Nodup) : Rising (rise l) := by
  have tr : ∀ a b c : List UInt8, leB a b = true → leB b c = true → leB a c = true := fun a b c h1 h2 => by simp only [leB, decide_eq_true_eq] at *; exact List.le_trans h1 h2
  have tot : ∀ a b : List UInt8, (leB a b || leB b a) = true := fun a b => by simp only [leB, Bool.or_eq_true, decide_eq_true_eq]; exact List.le_total a b
  have hs := List.pairwise_mergeSort tr tot (l.map (·.data.toList))
  have hn := rise_nodup h
  unfold rise Rising at *
  have hn := (List.pairwise_map).1 hn
  rw [List.pairwise_map]
  refine (hs.and hn).imp fun {a b} ⟨h1, h2⟩ => ?_
  rw [toList_data, toList_data, less_eq, decide_eq_true_eq]
  simp only [leB, decide_eq_true_eq] at h1
  show a < b
  rcases List.le_iff_lt_or_eq.1 h1 with h | h
  · exact h
  · exact absurd (by rw [h]) h2
theorem Rising.at {l : List ByteArray} (h : Rising l) {i j : Nat} (hij : i < j) (hj : j < l.length) : Op.bytesLess (l[i]'(by omega)).toList l[j].toList = true := List.pairwise_iff_getElem.1 h i j (by omega) hj hij
/-- A file system that no fault waits in, with the files of s. -/
structure Still (s t : FsSt) : Prop where
  files : t.files = s.files
  down : t.down = false
  left : t.left = 0
theorem Still.call {s t : FsSt} (h : Still s t) : t.call = ((0, 0, 0), { t with calls := wrap64 (t.calls + 1) }) := by unfold FsSt.call; rw [if_pos h.left]
theorem Still.after {s t : FsSt} (h : Still s t) : Still s t.after := by
  unfold FsSt.after
  rw [h.call]
  unfold FsSt.fall
  rw [if_neg (show ¬ (0 : Int) = 3 by decide)]
  exact ⟨h.files, h.down, h.left⟩
theorem Still.begun {s : FsSt} : Still s ((s.restart.2).setFault 0 0 0).2 ∧ ((s.restart.2).setFault 0 0 0).1 = 0 := by
  have hd : s.restart.2.down = false ∧ s.restart.2.files = s.files := by
    unfold FsSt.restart
    cases h : s.down with
    | true => exact ⟨rfl, rfl⟩
    | false => exact ⟨h, rfl⟩
  unfold FsSt.setFault
  rw [if_neg (by omega), hd.1, if_neg (by simp), if_pos rfl]
  exact ⟨⟨hd.2, rfl, rfl⟩, rfl⟩
theorem root_bad : goodB ⟨#[47]⟩ = false := by kernel_rfl
theorem dir_of_good {d : ByteArray} (h : goodB d = true) : (d.toList == [47]) = false := by
  cases hc : (d.toList == [47]) with
  | false => rfl
  | true =>
    have : d = ⟨#[47]⟩ := bytes_eq (by rw [← toList_data]; exact eq_of_beq hc)
    rw [this, root_bad] at h; cases h
/-- A directory of a file: it is one, and no file. -/
theorem ahead {s : FsSt} (hw : s.Wf) (ht : Tree s) {p : ByteArray} (hp : p ∈ akeys s.files) {k : Nat} (h0 : 1 ≤ k) (h1 : k < p.size) (h2 : byteAt p k = 47) :
    isFile s (p.extract 0 k) = false ∧ dirB (akeys s.files) (p.extract 0 k) ⟨#[]⟩ = true ∧ goodB (p.extract 0 k) = true ∧ Lib.hasPrefix p.data.toList ((p.extract 0 k) ++ slash).data.toList = true := by
  have hsz : (p.extract 0 k).size = k := by simp; omega
  have hb : Lib.hasPrefix p.data.toList ((p.extract 0 k) ++ slash).data.toList = true := below_iff.2 ⟨by omega, by rw [hsz], by rw [hsz]; exact h2⟩
  refine ⟨?_, ?_, good_ahead (hw.good p hp) h0 h1 h2, hb⟩
  · cases hc : isFile s (p.extract 0 k) with
    | false => rfl
    | true =>
      unfold isFile at hc
      obtain ⟨v, hv⟩ := Option.isSome_iff_exists.1 hc
      have := ht p hp _ (mem_akeys.2 ⟨v, hv⟩)
      rw [hb] at this; cases this
  · unfold dirB
    rw [Bool.or_eq_true, List.any_eq_true]
    refine .inr ⟨p, hp, ?_⟩
    unfold under
    rw [hb, show (p.toList == (⟨#[]⟩ : ByteArray).toList) = false by
      rw [toList_data, toList_data, beq_eq_false_iff_ne]
      exact fun e => empty_not (good_pos (hw.good p hp)) (bytes_eq e)]
    rfl
theorem Still.isDir {s t : FsSt} (h : Still s t) (hw : s.Wf) (ht : Tree s) {p : ByteArray} (hp : p ∈ akeys s.files) {k : Nat} (h0 : 1 ≤ k) (h1 : k < p.size) (h2 : byteAt p k = 47) :
    isFile t (p.extract 0 k) = false ∧ isDir t (p.extract 0 k) = true := by
  obtain ⟨a, b, c, _⟩ := ahead hw ht hp h0 h1 h2
  refine ⟨by unfold isFile at *; rw [h.files]; exact a, ?_⟩
  unfold Go.Proofs.YthchfkjdbfhnhaaGreatDoor.isDir
  rw [h.files, b, c]; simp
theorem Still.list {s t : FsSt} (h : Still s t) (hw : s.Wf) (ht : Tree s) {p : ByteArray} (hp : p ∈ akeys s.files) {k : Nat} (h0 : 1 ≤ k) (h1 : k < p.size) (h2 : byteAt p k = 47) :
    t.list (p.extract 0 k) = (listOf (akeys s.files) (p.extract 0 k ++ slash), 0, t.after) := by
  obtain ⟨a, b, c, _⟩ := ahead hw ht hp h0 h1 h2
  unfold FsSt.list
  have e1 : looksE t [] = 0 := by unfold looksE; rw [h.down, if_neg (by simp)]; rfl
  have e2 : badDir (p.extract 0 k) = false := by unfold badDir; rw [c]; simp
  have e3 : isFile t.after (p.extract 0 k) = false := by unfold isFile at *; rw [h.after.files]; exact a
  rw [if_pos e1, e2, if_neg (by simp), h.call, if_pos (by rfl), e3, if_neg (by simp), h.after.files, if_pos b]
  unfold dirOf
  rw [dir_of_good c, if_neg (by simp)]
theorem rest_of {p : ByteArray} {k : Nat} (h1 : k < p.size) (h2 : Lib.hasPrefix p.data.toList ((p.extract 0 k) ++ slash).data.toList = true) : restOf (p.extract 0 k ++ slash) p = p.extract (k + 1) p.size := by
  unfold restOf Lib.trimPrefix
  rw [h2, if_pos rfl]
  apply bytes_eq
  have hl : (p.extract 0 k ++ slash).data.toList.length = k + 1 := by
    rw [slash_list, extract_list]
    have : p.data.toList.length = p.size := by simp
    simp
    omega
  rw [hl]
  simp [ByteArray.data_extract]
  rw [List.take_of_length_le]
  simp
/-- The first name of what is below. -/
def firstName (r : ByteArray) : ByteArray := if (Lib.cut r.data.toList [47]).2.2 then ⟨(Lib.cut r.data.toList [47]).1.toArray⟩ ++ slash else ⟨(Lib.cut r.data.toList [47]).1.toArray⟩
def cntB (l : List ByteArray) (x : ByteArray) : Nat := l.countP fun y => y.toList == x.toList
theorem cnt_one {l : List ByteArray} {x : ByteArray} (h : l.Nodup) (hx : x ∈ l) : cntB l x = 1 := by
  have he : cntB l x = (l.map ByteArray.toList).count x.toList := by
    unfold cntB
    rw [List.count_eq_countP, List.countP_map]
    rfl
  have hn : (l.map ByteArray.toList).Nodup := (List.pairwise_map).2 (List.Pairwise.imp (fun hne e => hne (bytes_eq (by rw [← toList_data, ← toList_data]; exact e))) h)
  have h3 := List.nodup_iff_count.1 hn x.toList
  have h4 := List.count_pos_iff.2 (List.mem_map.2 ⟨x, hx, rfl⟩ : x.toList ∈ l.map ByteArray.toList)
  omega
theorem cnt_take {l : List ByteArray} {x y : ByteArray} {k : Nat} (h : l[k]? = some y) : cntB (l.take (k + 1)) x = cntB (l.take k) x + if (y.toList == x.toList) then 1 else 0 := by
  unfold cntB
  rw [List.take_add_one, h, List.countP_append]
  simp [List.countP_cons]
theorem name_once {s : FsSt} (hw : s.Wf) (ht : Tree s) {p : ByteArray} (hp : p ∈ akeys s.files) {k : Nat} (h0 : 1 ≤ k) (h1 : k < p.size) (h2 : byteAt p k = 47) :
    cntB (listOf (akeys s.files) (p.extract 0 k ++ slash)) (firstName (p.extract (k + 1) p.size)) = 1 := by
  obtain ⟨a, b, c, d⟩ := ahead hw ht hp h0 h1 h2
  have hm : firstName (p.extract (k + 1) p.size) ∈ listOf (akeys s.files) (p.extract 0 k ++ slash) := by
    unfold listOf
    rw [mem_rise, mem_uniq, List.mem_map]
    refine ⟨p, List.mem_filter.2 ⟨hp, d⟩, ?_⟩
    unfold nameOf
    rw [rest_of h1 d]
    rfl
  have hn : (listOf (akeys s.files) (p.extract 0 k ++ slash)).Nodup := rise_nodup (nodup_uniq _)
  exact cnt_one hn hm
theorem uniq_length (l : List ByteArray) : (uniq l).length ≤ l.length := by
  induction l with
  | nil => simp [uniq]
  | cons y l ih =>
    simp only [uniq]
    split <;> simp <;> omega
theorem list_len (ks : List ByteArray) (d : ByteArray) : (listOf ks d).length ≤ ks.length := by
  unfold listOf
  rw [rise_length]
  refine Nat.le_trans (uniq_length _) ?_
  rw [List.length_map]
  exact List.length_filter_le _ _
theorem cnt_le (l : List ByteArray) (x : ByteArray) : cntB l x ≤ l.length := List.countP_le_length
end Go.Proofs.YthchfkjdbfhnhaaGreatDoor
