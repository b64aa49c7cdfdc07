/- A history's file: what is done to a file system, plain. -/
import Derived.Test.YtofkdmmoheffbaaGreatDoorHistS
import Derived.Test.YtofkdmmoheffbaaGreatDoorWfA
namespace Go.Proofs.YtofkdmmoheffbaaGreatDoor
open Go Go.RowKit Go.Lany
set_option maxRecDepth 100000
/-- '.tmp' -/
def dotTmp : ByteArray := ⟨#[46, 116, 109, 112]⟩
def tmpOf (p : ByteArray) : ByteArray := p ++ dotTmp
def FsSt.histRead (s : FsSt) (p : ByteArray) : List HL × Int × FsSt :=
  if (s.read p).2.1 = 0 then (parseL (s.read p).1.data.toList, 0, (s.read p).2.2) else ([], (s.read p).2.1, (s.read p).2.2)
/-- The write of the temporary file, and its renaming. -/
def FsSt.histMove (s : FsSt) (p b : ByteArray) : Int × FsSt :=
  if (s.write (tmpOf p) ByteArray.empty b).1 = 0 then (s.write (tmpOf p) ByteArray.empty b).2.rename (tmpOf p) p else s.write (tmpOf p) ByteArray.empty b
def FsSt.histPut (s : FsSt) (p b : ByteArray) : Int × FsSt :=
  if (s.histMove p b).1 ≠ 0 ∧ (s.histMove p b).1 ≠ 22 then ((s.histMove p b).1, ((s.histMove p b).2.remove (tmpOf p)).2) else s.histMove p b
def FsSt.histWrite (s : FsSt) (p : ByteArray) (t : Bool) (l : List HL) : Int × FsSt :=
  if checkE l = 0 then s.histPut p (bs (formatL t l)) else (checkE l, s)
/-- The bytes that an append adds. -/
def addL (old : ByteArray) (e : Int) (L : List UInt8) : List UInt8 := if e = 0 ∧ old.data.toList ≠ [] ∧ old.data.toList.getLast? ≠ some 10 then [10, 10] ++ L else L
def FsSt.histAppend (s : FsSt) (p : ByteArray) (t : Bool) (l : List HL) : Int × FsSt :=
  if checkE l ≠ 0 then (checkE l, s)
  else if (s.read p).2.1 ≠ 0 ∧ (s.read p).2.1 ≠ 4 then ((s.read p).2.1, (s.read p).2.2)
  else if l = [] then (0, (s.read p).2.2)
  else (s.read p).2.2.write p ((aget (s.read p).2.2.files p).getD ByteArray.empty) (bs (addL (s.read p).1 (s.read p).2.1 (formatL t l)))
def FsSt.histTruncate (s : FsSt) (p : ByteArray) (n : Int) : Int × FsSt :=
  if n < 0 then (1, s)
  else if (s.read p).2.1 ≠ 0 then ((s.read p).2.1, (s.read p).2.2)
  else if ((parseL (s.read p).1.data.toList).length : Int) ≤ n then (0, (s.read p).2.2)
  else (s.read p).2.2.histPut p (bs (lastL (s.read p).1.data.toList n))
theorem FsSt.Wf.histMove {s : FsSt} (h : s.Wf) (p b : ByteArray) : (s.histMove p b).2.Wf := by
  unfold FsSt.histMove
  split
  · exact (h.write _ _ _).rename _ _
  · exact h.write _ _ _
theorem FsSt.Wf.histPut {s : FsSt} (h : s.Wf) (p b : ByteArray) : (s.histPut p b).2.Wf := by
  unfold FsSt.histPut
  split
  · exact (h.histMove _ _).remove _
  · exact h.histMove _ _
theorem FsSt.Wf.histRead {s : FsSt} (h : s.Wf) (p : ByteArray) : (s.histRead p).2.2.Wf := by
  unfold FsSt.histRead
  split <;> exact (h.read p).1
theorem FsSt.Wf.histWrite {s : FsSt} (h : s.Wf) (p : ByteArray) (t : Bool) (l : List HL) : (s.histWrite p t l).2.Wf := by
  unfold FsSt.histWrite
  split
  · exact h.histPut _ _
  · exact h
theorem FsSt.Wf.histAppend {s : FsSt} (h : s.Wf) (p : ByteArray) (t : Bool) (l : List HL) : (s.histAppend p t l).2.Wf := by
  unfold FsSt.histAppend
  repeat' split
  all_goals first | exact h | exact (h.read p).1 | exact (h.read p).1.write _ _ _
theorem FsSt.Wf.histTruncate {s : FsSt} (h : s.Wf) (p : ByteArray) (n : Int) : (s.histTruncate p n).2.Wf := by
  unfold FsSt.histTruncate
  repeat' split
  all_goals first | exact h | exact (h.read p).1 | exact (h.read p).1.histPut _ _
end Go.Proofs.YtofkdmmoheffbaaGreatDoor
