/- Stamps and lines: plain. -/
import Derived.Test.YtofkdmmoheffbaaGreatDoorBy
import Derived.Lib.ParseIntB
import Derived.Lib.ParseIntBCases
import Derived.Lib.SlTrimSet
namespace Go.Proofs.YtofkdmmoheffbaaGreatDoor
open Go Go.RowKit Go.Lany
set_option maxRecDepth 100000
def digitB (c : UInt8) : Bool := decide (48 ≤ c.toNat) && decide (c.toNat ≤ 57)
def digitsVal (l : List UInt8) : Nat := l.foldl (fun a c => 10 * a + (c.toNat - 48)) 0
/-- A stamp's number. -/
def stampL : List UInt8 → Option Nat
  | [] => none
  | c :: d => if c.toNat = 35 ∧ d.length ≤ 12 ∧ d.all digitB = true then some (digitsVal d) else none
def stampB (s : ByteArray) : Option Nat := stampL s.data.toList
theorem digitsVal_snoc (l : List UInt8) (c : UInt8) : digitsVal (l ++ [c]) = 10 * digitsVal l + (c.toNat - 48) := by simp [digitsVal]
theorem digitsVal_lt (l : List UInt8) (h : l.all digitB = true) : digitsVal l < 10 ^ l.length := by
  have : ∀ (l : List UInt8) (a : Nat), l.all digitB = true → l.foldl (fun a c => 10 * a + (c.toNat - 48)) a < (a + 1) * 10 ^ l.length := by
    intro l
    induction l with
    | nil => intro a _; simp
    | cons c l ih =>
      intro a h
      simp only [List.all_cons, Bool.and_eq_true] at h
      obtain ⟨h1, h2⟩ := h
      unfold digitB at h1
      simp only [Bool.and_eq_true, decide_eq_true_eq] at h1
      have := ih (10 * a + (c.toNat - 48)) h2
      simp only [List.foldl_cons, List.length_cons, Nat.pow_succ]
      have h3 : 10 * a + (c.toNat - 48) + 1 ≤ (a + 1) * 10 := by omega
      calc _ < (10 * a + (c.toNat - 48) + 1) * 10 ^ l.length := this
        _ ≤ ((a + 1) * 10) * 10 ^ l.length := Nat.mul_le_mul_right _ h3
        _ = (a + 1) * (10 ^ l.length * 10) := by rw [Nat.mul_assoc, Nat.mul_comm 10]
  have := this l 0 h
  simpa [digitsVal] using this
theorem parse_digits (M : Nat) : ∀ (l : List UInt8) (acc : Nat), l.all digitB = true → (acc + 1) * 10 ^ l.length ≤ 10000000000000 → 10000000000000 ≤ M → Lib.parseUintM M acc l = .ok (l.foldl (fun a c => 10 * a + (c.toNat - 48)) acc)
  | [], _, _, _, _ => rfl
  | c :: l, acc, h, hb, hM => by
    simp only [List.all_cons, Bool.and_eq_true] at h
    obtain ⟨h1, h2⟩ := h
    unfold digitB at h1
    simp only [Bool.and_eq_true, decide_eq_true_eq] at h1
    have hp : 1 ≤ 10 ^ l.length := Nat.one_le_pow _ _ (by decide)
    have e : (acc + 1) * 10 ^ (c :: l).length = ((acc + 1) * 10) * 10 ^ l.length := by
      rw [List.length_cons, Nat.pow_succ, Nat.mul_comm (10 ^ l.length) 10, Nat.mul_assoc]
    rw [e] at hb
    have hle : (acc + 1) * 10 ≤ (acc + 1) * 10 * 10 ^ l.length := Nat.le_mul_of_pos_right _ hp
    have hb' : (acc * 10 + (c.toNat - 48) + 1) * 10 ^ l.length ≤ 10000000000000 := Nat.le_trans (Nat.mul_le_mul_right _ (by omega)) hb
    unfold Lib.parseUintM
    rw [if_pos h1, if_neg (by omega), if_neg (by omega), parse_digits M l _ h2 hb' hM, List.foldl_cons, Nat.mul_comm acc 10]
theorem parse_int_digits {c : UInt8} {l : List UInt8} (h : (c :: l).all digitB = true) (hl : (c :: l).length ≤ 12) : Lib.parseIntB 64 (c :: l) = .ok (digitsVal (c :: l) : Int) := by
  have hc : digitB c = true := by simp only [List.all_cons, Bool.and_eq_true] at h; exact h.1
  unfold digitB at hc
  simp only [Bool.and_eq_true, decide_eq_true_eq] at hc
  have hpow : 10 ^ (c :: l).length ≤ 10 ^ 12 := Nat.pow_le_pow_right (by decide) hl
  have hlt := digitsVal_lt (c :: l) h
  have hp := parse_digits (2 ^ 64 - 1) (c :: l) 0 h (by omega) (by decide)
  have hu : Lib.parseUintB 64 (c :: l) = .ok (digitsVal (c :: l)) := by
    unfold Lib.parseUintB
    rw [if_neg (by simp), hp]
    rfl
  unfold Lib.parseIntB
  have h43 : ¬ c.toNat = 43 := by omega
  have h45 : ¬ c.toNat = 45 := by omega
  simp only [h43, h45, or_self, if_false, not_false_eq_true, true_and, false_and]
  rw [hu]
  have hlt' : digitsVal (c :: l) < 1000000000000 := Nat.lt_of_lt_of_le hlt hpow
  show (if 2 ^ (64 - 1) ≤ digitsVal (c :: l) then Lib.NumEnd.range else _) = _
  rw [if_neg (by omega)]
theorem contains_digits (b : UInt8) : ([48, 49, 50, 51, 52, 53, 54, 55, 56, 57] : List UInt8).contains b = digitB b := by
  have : ∀ b : Fin 256, ([48, 49, 50, 51, 52, 53, 54, 55, 56, 57] : List UInt8).contains (UInt8.ofNat b.val) = digitB (UInt8.ofNat b.val) := by decide +kernel
  have h := this ⟨b.toNat, b.toNat_lt⟩
  simpa using h
theorem dropWhile_nil {p : UInt8 → Bool} : ∀ {l : List UInt8}, l.dropWhile p = [] ↔ l.all p = true
  | [] => by simp
  | c :: l => by
    rw [List.dropWhile_cons, List.all_cons]
    cases h : p c with
    | true => simpa using dropWhile_nil
    | false => simp
/-- Nothing is left where all are digits. -/
theorem trim_digits (l : List UInt8) : (Lib.trimS l [48, 49, 50, 51, 52, 53, 54, 55, 56, 57] = []) ↔ l.all digitB = true := by
  have hf : (fun x : UInt8 => ([48, 49, 50, 51, 52, 53, 54, 55, 56, 57] : List UInt8).contains x) = digitB := funext contains_digits
  unfold Lib.trimS Lib.trimLeftS Lib.trimRightS
  rw [hf, dropWhile_nil]
  constructor
  · intro h
    by_cases ha : l.all digitB = true
    · exact ha
    · exfalso
      have hne : l.reverse.dropWhile digitB ≠ [] := fun e => ha (by have := dropWhile_nil.1 e; rwa [List.all_reverse] at this)
      obtain ⟨x, r, e⟩ := List.exists_cons_of_ne_nil hne
      have hx : digitB x = false := by
        have := List.head?_dropWhile_not digitB l.reverse
        rw [e] at this
        simpa using this
      rw [e, List.all_reverse, List.all_cons, hx] at h
      simp at h
  · intro h
    have : l.reverse.dropWhile digitB = [] := dropWhile_nil.2 (by rw [List.all_reverse]; exact h)
    rw [this]; rfl
end Go.Proofs.YtofkdmmoheffbaaGreatDoor
