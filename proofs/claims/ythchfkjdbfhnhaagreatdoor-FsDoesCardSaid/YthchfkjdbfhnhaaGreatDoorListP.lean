/- What a directory's list holds: plain. -/
import Derived.Test.YthchfkjdbfhnhaaGreatDoorLooks
import Derived.Test.YthchfkjdbfhnhaaGreatDoorSorted
import Derived.Test.YthchfkjdbfhnhaaGreatDoorFsC
namespace Go.Proofs.YthchfkjdbfhnhaaGreatDoor
open Go Go.RowKit Go.Lany
set_option maxRecDepth 100000
def hasB (l : List ByteArray) (x : ByteArray) : Bool := l.any fun y => decide (y = x)
theorem hasB_iff {l : List ByteArray} {x : ByteArray} : hasB l x = true ↔ x ∈ l := by
  unfold hasB
  rw [List.any_eq_true]
  constructor
  · rintro ⟨y, hy, e⟩; have := of_decide_eq_true e; subst this; exact hy
  · intro h; exact ⟨x, h, decide_eq_true rfl⟩
def uniq : List ByteArray → List ByteArray
  | [] => []
  | x :: l => if hasB l x then uniq l else x :: uniq l
theorem mem_uniq {l : List ByteArray} {x : ByteArray} : x ∈ uniq l ↔ x ∈ l := by
  induction l with
  | nil => simp [uniq]
  | cons y l ih =>
    simp only [uniq]
    cases h : hasB l y with
    | true =>
      have := hasB_iff.1 h
      simp only [if_true, ih, List.mem_cons]
      exact ⟨.inr, fun e => e.elim (fun e => e ▸ this) id⟩
    | false => simp [ih]
theorem nodup_uniq (l : List ByteArray) : (uniq l).Nodup := by
  induction l with
  | nil => simp [uniq]
  | cons y l ih =>
    simp only [uniq]
    cases h : hasB l y with
    | true => simpa using ih
    | false =>
      simp only [Bool.false_eq_true, if_false, List.nodup_cons]
      refine ⟨fun e => ?_, ih⟩
      rw [hasB_iff.2 (mem_uniq.1 e)] at h; cases h
theorem rise_same {l l' : List ByteArray} (h1 : l.Nodup) (h2 : l'.Nodup) (h : ∀ x, x ∈ l ↔ x ∈ l') : rise l = rise l' := by
  have hp := (List.perm_ext_iff_of_nodup h1 h2).2 h
  unfold rise
  rw [Go.mergeSort_of_perm (hp.map _)]
/-- The directory with its slash. -/
def dirOf (d : ByteArray) : ByteArray := if (d.toList == [47]) then d else d ++ slash
def restOf (d p : ByteArray) : ByteArray := ⟨(Lib.trimPrefix p.data.toList d.data.toList).toArray⟩
/-- The first name of what is below. -/
def nameOf (d p : ByteArray) : ByteArray :=
  if (Lib.cut (restOf d p).data.toList [47]).2.2 then ⟨(Lib.cut (restOf d p).data.toList [47]).1.toArray⟩ ++ slash else ⟨(Lib.cut (restOf d p).data.toList [47]).1.toArray⟩
def inDir (d p : ByteArray) : Bool := Lib.hasPrefix p.data.toList d.data.toList
def listOf (ks : List ByteArray) (d : ByteArray) : List ByteArray := rise (uniq ((ks.filter (inDir d)).map (nameOf d)))
def badDir (d : ByteArray) : Bool := !(d.toList == [47]) && !goodB d
def FsSt.list (s : FsSt) (d : ByteArray) : List ByteArray × Int × FsSt :=
  if looksE s [] = 0 then
    if badDir d then ([], 23, s)
    else if ansOf s.call.1.2.1 = 0 then
      if isFile s.after d then ([], 24, s.after)
      else if dirB (akeys s.after.files) d ⟨#[]⟩ then (listOf (akeys s.after.files) (dirOf d), 0, s.after) else ([], 4, s.after)
    else ([], ansOf s.call.1.2.1, s.after)
  else ([], looksE s [], s)
end Go.Proofs.YthchfkjdbfhnhaaGreatDoor
