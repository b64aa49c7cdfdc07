/- An operation on a history's file. -/
import Derived.Test.YtofkdmmoheffbaaGreatDoorHistH
namespace Go.Proofs.YtofkdmmoheffbaaGreatDoor
open Go Go.RowKit Go.Lany
set_option maxRecDepth 100000
/-- What an operation holds. -/
structure HOp where
  kind : Int
  path : ByteArray
  times : Bool
  lines : List HL
  n : Int
  fault : Int
  keep : Int
  bytes : ByteArray
def R64 (n : Int) : Prop := -9223372036854775808 ≤ n ∧ n ≤ 9223372036854775807
/-- Cells that hold an operation; its slices' arrays in blocks of F. -/
def HOp.reads (F : Nat → Prop) (w : World) (o : HOp) (cs : List Value) : Prop :=
  ∃ vl vb, cs = [.int .i64 o.kind, .string o.path, .bool o.times, vl, .int .i64 o.n, .int .i64 o.fault, .int .i64 o.keep, vb] ∧ Lines F w vl o.lines ∧ Bytes F w vb o.bytes
/-- An operation whose parts fit. -/
structure HOp.Fits (o : HOp) : Prop where
  path_ : o.path.size ≤ 1048576
  lines_ : Fit o.lines
  bytes_ : o.bytes.size ≤ 1048576
  kind_ : R64 o.kind
  n_ : R64 o.n
  fault_ : R64 o.fault
  keep_ : R64 o.keep
end Go.Proofs.YtofkdmmoheffbaaGreatDoor
