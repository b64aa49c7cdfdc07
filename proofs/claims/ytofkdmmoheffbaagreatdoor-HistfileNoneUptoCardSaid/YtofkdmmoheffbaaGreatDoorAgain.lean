/- A file system whose blocks lie from a block on. -/
import Derived.Test.YtofkdmmoheffbaaGreatDoorFsF
namespace Go.Proofs.YtofkdmmoheffbaaGreatDoor
open Go Go.RowKit Go.Lany
theorem From.far {n g : Nat} (h : g < n) : ¬ From n g := fun e => Nat.not_le_of_lt h e
/-- A file system in blocks from base on, behind a call. -/
theorem FsAt.again {w w' : World} {f m c base : Nat} {s : FsSt} (h : FsAt w' f m c (Grow (From base) w.heap.size) s) (hb : base ≤ w.heap.size) (hg : 1 < base) : FsAt w' f m c (From base) s :=
  h.mono (fun k _ hk => hk.elim id fun e => Nat.le_trans hb e) (From.far hg)
theorem FsAt.own_from {w : World} {f m c base : Nat} {s : FsSt} (h : FsAt w f m c (From base) s) : ∀ k, k < base → ¬ Own3 f m c k := by
  obtain ⟨h1, h2, h3⟩ := h.inF
  have h1' : base ≤ f := h1
  have h2' : base ≤ m := h2
  have h3' : base ≤ c := h3
  rintro k hk (rfl | rfl | rfl) <;> omega
end Go.Proofs.YtofkdmmoheffbaaGreatDoor
