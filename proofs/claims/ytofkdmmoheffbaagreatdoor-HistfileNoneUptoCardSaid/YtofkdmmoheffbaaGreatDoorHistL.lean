/- Lines of bytes: plain. -/
import Derived.Test.YtofkdmmoheffbaaGreatDoorHistP
import Derived.Lib.ItoaNum
namespace Go.Proofs.YtofkdmmoheffbaaGreatDoor
open Go Go.RowKit Go.Lany
set_option maxRecDepth 100000
abbrev HL := ByteArray × Int
def bs (L : List UInt8) : ByteArray := ⟨L.toArray⟩
theorem bs_list (L : List UInt8) : (bs L).data.toList = L := rfl
theorem bs_of (s : ByteArray) : bs s.data.toList = s := rfl
theorem bs_size (L : List UInt8) : (bs L).size = L.length := by show L.toArray.size = _; simp
theorem stampB_bs (L : List UInt8) : stampB (bs L) = stampL L := rfl
/-- The first line; what is behind it. -/
def first (L : List UInt8) : List UInt8 := L.takeWhile (· != 10)
def rest (L : List UInt8) : List UInt8 := (L.dropWhile (· != 10)).drop 1
theorem first_length (L : List UInt8) : (first L).length ≤ L.length := (List.takeWhile_sublist _).length_le
theorem rest_eq (L : List UInt8) : rest L = L.drop ((first L).length + 1) := by
  unfold rest first
  induction L with
  | nil => simp
  | cons c L ih =>
    by_cases h : (c != 10) = true
    · rw [List.dropWhile_cons, if_pos h, List.takeWhile_cons, if_pos h, ih]; rfl
    · rw [List.dropWhile_cons, if_neg h, List.takeWhile_cons, if_neg h]; rfl
theorem rest_length {L : List UInt8} (h : L ≠ []) : (rest L).length < L.length := by
  rw [rest_eq, List.length_drop]
  have := List.length_pos_iff.2 h
  omega
theorem first_append {A R : List UInt8} (h : 10 ∉ A) : first (A ++ 10 :: R) = A := by
  unfold first
  induction A with
  | nil => rfl
  | cons c A ih =>
    rw [List.mem_cons, not_or] at h
    rw [List.cons_append, List.takeWhile_cons, if_pos (bne_iff_ne.2 (Ne.symm h.1)), ih h.2]
theorem rest_append {A R : List UInt8} (h : 10 ∉ A) : rest (A ++ 10 :: R) = R := by
  rw [rest_eq, first_append h]
  have : (A ++ 10 :: R).drop (A.length + 1) = R := by rw [← List.drop_drop, List.drop_left]; rfl
  exact this
/-- Is a line one that counts? -/
def proper (L : List UInt8) : Bool := !(stampL L).isSome && !L.isEmpty
/-- What lines say, t being the last stamp. -/
def parseT (L : List UInt8) (t : Int) : List HL :=
  if h : L = [] then [] else
    match stampL (first L) with
    | some n => parseT (rest L) n
    | none => if first L = [] then parseT (rest L) 0 else (bs (first L), t) :: parseT (rest L) 0
termination_by L.length
decreasing_by all_goals exact rest_length h
theorem parseT_nil (t : Int) : parseT [] t = [] := by rw [parseT]; simp
theorem parseT_stamp {L : List UInt8} {n : Nat} (t : Int) (h : L ≠ []) (hs : stampL (first L) = some n) : parseT L t = parseT (rest L) n := by rw [parseT, dif_neg h, hs]
theorem parseT_empty {L : List UInt8} (t : Int) (h : L ≠ []) (he : first L = []) : parseT L t = parseT (rest L) 0 := by rw [parseT, dif_neg h, he]; simp [stampL]
theorem parseT_line {L : List UInt8} (t : Int) (h : L ≠ []) (hs : stampL (first L) = none) (he : first L ≠ []) : parseT L t = (bs (first L), t) :: parseT (rest L) 0 := by rw [parseT, dif_neg h, hs]; simp [he]
theorem parseT_len (L : List UInt8) (t t' : Int) : (parseT L t).length = (parseT L t').length := by
  by_cases h : L = []
  · rw [h, parseT_nil, parseT_nil]
  · cases hs : stampL (first L) with
    | some n => rw [parseT_stamp t h hs, parseT_stamp t' h hs]
    | none =>
      by_cases he : first L = []
      · rw [parseT_empty t h he, parseT_empty t' h he]
      · rw [parseT_line t h hs he, parseT_line t' h hs he, List.length_cons, List.length_cons]
def parseL (L : List UInt8) : List HL := parseT L 0
theorem parseT_length_le (L : List UInt8) (t : Int) : (parseT L t).length ≤ L.length := by
  induction hn : L.length using Nat.strongRecOn generalizing L t with
  | _ n ih =>
    subst hn
    by_cases h : L = []
    · rw [h, parseT_nil]; simp
    · have hr := rest_length h
      cases hs : stampL (first L) with
      | some n => rw [parseT_stamp t h hs]; exact Nat.le_trans (ih _ hr _ _ rfl) (Nat.le_of_lt hr)
      | none =>
        by_cases he : first L = []
        · rw [parseT_empty t h he]; exact Nat.le_trans (ih _ hr _ _ rfl) (Nat.le_of_lt hr)
        · rw [parseT_line t h hs he, List.length_cons]
          have := ih _ hr (rest L) 0 rfl
          omega
/-- What is left when m lines that count are behind. -/
def skipL (m : Nat) (L : List UInt8) : List UInt8 :=
  if h : L = [] then [] else if m = 0 then L else skipL (if proper (first L) then m - 1 else m) (rest L)
termination_by L.length
decreasing_by exact rest_length h
theorem skipL_nil (m : Nat) : skipL m [] = [] := by rw [skipL]; simp
theorem skipL_zero (L : List UInt8) : skipL 0 L = L := by
  rw [skipL]
  by_cases h : L = []
  · simp [h]
  · simp [h]
theorem skipL_step {m : Nat} {L : List UInt8} (h : L ≠ []) (hm : m ≠ 0) : skipL m L = skipL (if proper (first L) then m - 1 else m) (rest L) := by rw [skipL, dif_neg h, if_neg hm]
theorem parse_skip (L : List UInt8) (m : Nat) (t : Int) (h0 : m = 0 → t = 0) : parseT (skipL m L) 0 = (parseT L t).drop m := by
  induction hn : L.length using Nat.strongRecOn generalizing L t m with
  | _ n ih =>
    subst hn
    by_cases h : L = []
    · rw [h, skipL_nil, parseT_nil, parseT_nil]; simp
    · by_cases hm : m = 0
      · subst hm
        rw [skipL_zero, h0 rfl]; rfl
      · have hr := rest_length h
        rw [skipL_step h hm]
        cases hs : stampL (first L) with
        | some n => 
          rw [parseT_stamp t h hs, show proper (first L) = false by simp [proper, hs]]
          exact ih _ hr _ _ _ (fun e => absurd e hm) rfl
        | none =>
          by_cases he : first L = []
          · rw [parseT_empty t h he, show proper (first L) = false by simp [proper, he]]
            exact ih _ hr _ _ _ (fun e => absurd e hm) rfl
          · rw [parseT_line t h hs he, show proper (first L) = true by simp [proper, hs, he], if_pos rfl, ih _ hr _ (m - 1) 0 (fun _ => rfl) rfl]
            obtain ⟨m, rfl⟩ : ∃ q, m = q + 1 := ⟨m - 1, by omega⟩
            rfl
/-- The bytes that have the last n lines. -/
def lastL (L : List UInt8) (n : Int) : List UInt8 := if n ≤ 0 then [] else skipL ((parseL L).length - n.toNat) L
theorem parse_last (L : List UInt8) (n : Int) : parseL (lastL L n) = (parseL L).drop ((parseL L).length - n.toNat) := by
  unfold lastL
  by_cases h : n ≤ 0
  · rw [if_pos h, show n.toNat = 0 by omega, Nat.sub_zero, List.drop_length]
    exact parseT_nil _
  · rw [if_neg h]
    exact parse_skip L _ 0 fun _ => rfl
/- numerals -/
theorem decDigits_digits (u : Nat) : (Lib.decDigits u).all digitB = true := by
  induction u using Nat.strongRecOn with
  | _ u ih =>
    rw [Lib.decDigits]
    have hd : ∀ c : Nat, c < 10 → digitB (UInt8.ofNat (48 + c)) = true := fun c hc => by
      unfold digitB
      rw [UInt8.toNat_ofNat_of_lt' (by show _ < 256; omega)]
      simp; omega
    by_cases h : u < 10
    · rw [dif_pos h]; simp only [List.all_cons, List.all_nil, Bool.and_true]; exact hd u h
    · rw [dif_neg h, List.all_append, ih (u / 10) (by omega)]
      simp only [List.all_cons, List.all_nil, Bool.and_true, Bool.true_and]; exact hd (u % 10) (by omega)
theorem digitsVal_dec (u : Nat) : digitsVal (Lib.decDigits u) = u := by
  induction u using Nat.strongRecOn with
  | _ u ih =>
    rw [Lib.decDigits]
    have hd : ∀ c : Nat, c < 10 → (UInt8.ofNat (48 + c)).toNat = 48 + c := fun c hc => UInt8.toNat_ofNat_of_lt' (by show _ < 256; omega)
    by_cases h : u < 10
    · rw [dif_pos h, show ([UInt8.ofNat (48 + u)] : List UInt8) = [] ++ [UInt8.ofNat (48 + u)] from rfl, digitsVal_snoc, hd u h]
      show 10 * 0 + (48 + u - 48) = u
      omega
    · rw [dif_neg h, digitsVal_snoc, ih (u / 10) (by omega), hd (u % 10) (by omega)]
      omega
theorem nDigits_le : ∀ (k u : Nat), u < 10 ^ (k + 1) → Lib.nDigits u ≤ k + 1
  | 0, u, h => by rw [Lib.nDigits_small (by simpa using h)]; exact Nat.le_refl _
  | k + 1, u, h => by
    by_cases h10 : u < 10
    · rw [Lib.nDigits_small h10]; omega
    · rw [Lib.nDigits_big h10]
      have := nDigits_le k (u / 10) (by rw [Nat.pow_succ] at h; omega)
      omega
theorem stamp_itoa {n : Int} (h0 : 0 ≤ n) (h1 : n ≤ 999999999999) : stampL (35 :: Lib.itoa n) = some n.toNat := by
  unfold Lib.itoa
  rw [if_neg (by omega)]
  show (if (35 : UInt8).toNat = 35 ∧ (Lib.decDigits n.toNat).length ≤ 12 ∧ (Lib.decDigits n.toNat).all digitB = true then some (digitsVal (Lib.decDigits n.toNat)) else none) = _
  rw [if_pos ⟨rfl, by rw [Lib.decDigits_length]; exact nDigits_le 11 _ (by omega), decDigits_digits _⟩, digitsVal_dec]
theorem itoa_nonl {n : Int} (h0 : 0 ≤ n) : (10 : UInt8) ∉ Lib.itoa n := by
  unfold Lib.itoa
  rw [if_neg (by omega)]
  intro h
  have := List.all_eq_true.1 (decDigits_digits n.toNat) _ h
  simp [digitB] at this
end Go.Proofs.YtofkdmmoheffbaaGreatDoor
