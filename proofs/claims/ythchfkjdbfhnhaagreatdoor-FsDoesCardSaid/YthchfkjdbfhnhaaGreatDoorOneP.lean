/- One operation of a script: plain. -/
import Derived.Test.YthchfkjdbfhnhaaGreatDoorWf
namespace Go.Proofs.YthchfkjdbfhnhaaGreatDoor
open Go Go.RowKit Go.Lany
set_option maxRecDepth 100000
def FsSt.one (s : FsSt) (d k kind keep : Int) (path dest b : ByteArray) : Int × FsSt :=
  if (d == 0) = true then ((s.read path).2.1, (s.read path).2.2)
  else if (d == 1) = true then s.write path ByteArray.empty b
  else if (d == 2) = true then s.write path ((aget s.files path).getD ByteArray.empty) b
  else if (d == 3) = true then s.rename path dest
  else if (d == 4) = true then s.remove path
  else if (d == 5) = true then ((s.list path).2.1, (s.list path).2.2)
  else if (d == 6) = true then s.setFault k kind keep
  else if (d == 7) = true then s.restart
  else (0, s)
theorem FsSt.Wf.one {s : FsSt} (h : s.Wf) (d k kind keep : Int) (path dest b : ByteArray) : (s.one d k kind keep path dest b).2.Wf := by
  unfold FsSt.one
  repeat' split
  · exact (h.read path).1
  · exact h.write _ _ _
  · exact h.write _ _ _
  · exact h.rename _ _
  · exact h.remove _
  · exact h.list _
  · exact h.setFault _ _ _
  · exact h.restart
  · exact h
theorem FsAt.grow_le {w : World} {f m c : Nat} {F : Nat → Prop} {s : FsSt} {n n' : Nat} (h : FsAt w f m c (Grow F n') s) (hn : n ≤ n') (hg : ¬ F 0) (hl : 0 < n) : FsAt w f m c (Grow F n) s :=
  h.mono (fun k _ hk => hk.imp id (fun e => by omega)) (by rintro (e | e); exact hg e; omega)
theorem Ml.lt {w : World} (h : Ml w) : 0 < w.heap.size := by
  obtain ⟨n, h⟩ := h
  exact World.block_lt_of_cell? _ _ h
abbrev opObj (d k kind keep : Int) (path dest : ByteArray) (a : Option Addr) (n c : Nat) : Obj := .cells #[.int .i64 d, .string path, .string dest, .slice a n c, .int .i64 k, .int .i64 kind, .int .i64 keep] 32 (0, 0)
end Go.Proofs.YthchfkjdbfhnhaaGreatDoor
