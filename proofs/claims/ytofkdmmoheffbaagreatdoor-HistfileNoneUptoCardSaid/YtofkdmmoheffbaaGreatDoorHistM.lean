/- Lines that are written are read as they were: plain. -/
import Derived.Test.YtofkdmmoheffbaaGreatDoorHistD
import Derived.Lib.IndexLaws
namespace Go.Proofs.YtofkdmmoheffbaaGreatDoor
open Go Go.RowKit Go.Lany
set_option maxRecDepth 100000
theorem indexByte_first (L : List UInt8) : Lib.indexByte L 10 = if 10 ∈ L then ((first L).length : Int) else -1 := by
  induction L with
  | nil => simp [Lib.indexByte]
  | cons b L ih =>
    unfold Lib.indexByte
    by_cases hb : b = 10
    · subst hb; simp [first]
    · rw [if_neg (by simpa using hb), ih]
      by_cases h : 10 ∈ L
      · have hf : first (b :: L) = b :: first L := by unfold first; rw [List.takeWhile_cons, if_pos (bne_iff_ne.2 hb)]
        rw [if_pos h, if_pos (List.mem_cons_of_mem _ h), hf, if_neg (by simp)]
        simp
      · have h' : 10 ∉ b :: L := by rw [List.mem_cons, not_or]; exact ⟨Ne.symm hb, h⟩
        rw [if_neg h, if_neg h', if_pos (by decide)]
theorem first_all {L : List UInt8} (h : 10 ∉ L) : first L = L := by
  unfold first
  induction L with
  | nil => rfl
  | cons b L ih =>
    rw [List.mem_cons, not_or] at h
    rw [List.takeWhile_cons, if_pos (bne_iff_ne.2 (Ne.symm h.1)), ih h.2]
theorem hasNl_iff (s : ByteArray) : hasNl s = true ↔ 10 ∈ s.data.toList := by
  unfold hasNl
  rw [decide_eq_true_eq, indexByte_first]
  by_cases h : 10 ∈ s.data.toList
  · rw [if_pos h]; exact ⟨fun _ => h, fun _ => by omega⟩
  · rw [if_neg h]; exact ⟨fun e => absurd e (by decide), fun e => absurd e h⟩
theorem badLine_zero {x : HL} (h : badLine x = 0) : x.1.data.toList ≠ [] ∧ 10 ∉ x.1.data.toList ∧ stampL x.1.data.toList = none := by
  unfold badLine at h
  split at h
  · cases h
  · rename_i hn
    rw [not_or, not_or] at hn
    obtain ⟨h1, h2, h3⟩ := hn
    refine ⟨fun e => h1 ?_, fun e => h2 ((hasNl_iff _).2 e), ?_⟩
    · rw [ByteArray.toList_eq, e]; rfl
    · cases hs : stampL x.1.data.toList with
      | none => rfl
      | some n => exact absurd (by unfold stampB; rw [hs]; rfl) h3
theorem badLine_iff {x : HL} : badLine x = 0 ↔ (x.1.data.toList ≠ [] ∧ 10 ∉ x.1.data.toList ∧ stampL x.1.data.toList = none) ∧ 0 ≤ x.2 ∧ x.2 ≤ 999999999999 := by
  constructor
  · intro h; exact ⟨badLine_zero h, badLine_time h⟩
  · rintro ⟨⟨h1, h2, h3⟩, h4, h5⟩
    refine badLine_ok ?_ ?_ ?_ (by omega) (by omega)
    · rw [beq_eq_false_iff_ne, ByteArray.toList_eq]; exact h1
    · cases h : hasNl x.1 with
      | false => rfl
      | true => exact absurd ((hasNl_iff _).1 h) h2
    · unfold stampB; rw [h3]; rfl
theorem parse_text {x : HL} (hx : badLine x = 0) (R : List UInt8) (s : Int) : parseT (x.1.data.toList ++ 10 :: R) s = (x.1, s) :: parseT R 0 := by
  obtain ⟨h1, h2, h3⟩ := badLine_zero hx
  have hf := first_append (R := R) h2
  rw [parseT_line s (by simp) (by rw [hf]; exact h3) (by rw [hf]; exact h1), hf, rest_append h2]
  rfl
theorem parse_fmtOne {t : Bool} {x : HL} (hx : badLine x = 0) (R : List UInt8) (s : Int) : parseT (fmtOne t x ++ R) s = (x.1, if (t && decide (0 < x.2)) = true then x.2 else s) :: parseT R 0 := by
  have ht := badLine_time hx
  unfold fmtOne
  by_cases h : (t && decide (0 < x.2)) = true
  · rw [if_pos h, if_pos h]
    have hn : (10 : UInt8) ∉ 35 :: Lib.itoa x.2 := by
      rw [List.mem_cons, not_or]; exact ⟨by decide, itoa_nonl ht.1⟩
    have e : (35 :: (Lib.itoa x.2 ++ [10])) ++ (x.1.data.toList ++ [10]) ++ R = (35 :: Lib.itoa x.2) ++ 10 :: (x.1.data.toList ++ 10 :: R) := by simp
    rw [e, parseT_stamp s (by simp) (by rw [first_append hn]; exact stamp_itoa ht.1 ht.2), rest_append hn, parse_text hx, Int.toNat_of_nonneg ht.1]
  · rw [if_neg h, if_neg h]
    have e : [] ++ (x.1.data.toList ++ [10]) ++ R = x.1.data.toList ++ 10 :: R := by simp
    rw [e, parse_text hx]
/-- Lines, their times struck where they are not written. -/
def timed (t : Bool) (l : List HL) : List HL := l.map fun x => (x.1, if t then x.2 else 0)
theorem timed_true (l : List HL) : timed true l = l := by simp [timed]
theorem parse_format {t : Bool} {l : List HL} (h : ∀ x ∈ l, badLine x = 0) (R : List UInt8) : parseT (formatL t l ++ R) 0 = timed t l ++ parseT R 0 := by
  induction l with
  | nil => rfl
  | cons x l ih =>
    have hx := h x (List.mem_cons_self ..)
    have ht := badLine_time hx
    rw [show formatL t (x :: l) = fmtOne t x ++ formatL t l from rfl, List.append_assoc, parse_fmtOne hx, ih fun y hy => h y (List.mem_cons_of_mem _ hy)]
    have : (if (t && decide (0 < x.2)) = true then x.2 else 0) = if t = true then x.2 else 0 := by
      cases t
      · rfl
      · by_cases h0 : 0 < x.2
        · simp [h0]
        · simp [h0]; omega
    rw [this]
    rfl
theorem parse_back {l : List HL} (h : checkE l = 0) : parseL (formatL true l) = l := by
  have := parse_format (t := true) (checkE_zero h) []
  rw [List.append_nil, timed_true, parseT_nil, List.append_nil] at this
  exact this
end Go.Proofs.YtofkdmmoheffbaaGreatDoor
