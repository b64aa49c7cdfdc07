/- The simulated file system's Is. -/
import Derived.Test.YthchfkjdbfhnhaaGreatDoorFsD
import Derived.Deep.RegionHeld3
import Derived.Deep.DeepCutAuto
import Derived.KernelRfl
namespace Go.Proofs.YthchfkjdbfhnhaaGreatDoor
open Go Go.RowKit Go.Lany
set_option maxRecDepth 100000
def IsPost (w : World) (a b : Bool) (e : Ending) (w' : World) : Prop := e = .returned (.tuple #[.bool a, .bool b]) ∧ Below w.heap.size w w'
set_option maxHeartbeats 1000000 in
theorem is_at {w : World} {f m c : Nat} {F : Nat → Prop} {s : FsSt} (h : FsAt w f m c F s) (p : ByteArray) (hp : p.size ≤ 140737488351232) :
    Calls Tryz.prog 29 #[fsPtr f, .string p] w (IsPost w (isFile s p) (isDir s p)) := by
  obtain ⟨c0, -, -, -, -, -, -⟩ := h.cells
  obtain ⟨vs, hm, hb⟩ := h.map
  have hd := dir_at h p ⟨#[]⟩ hp
  obtain ⟨v, hlv⟩ := look_ok hm p (get_isSome hb p)
  unfold isDir isFile
  generalize hif : (aget s.files p).isSome = i at hlv
  clear hm hb hif
  cases e0 : dirB (akeys s.files) p ⟨#[]⟩ with
  | false =>
    rw [e0] at hd
    clear e0
    go_enter Tryz.func29, Tryz.ntmps29
    go_wp2_with (first | (go_at_call 32; refine (none_at h).mono ?_; rintro e w' ⟨rfl, rfl⟩) | (go_at_call 42; refine hd.mono ?_; rintro e w1 ⟨rfl, hb1⟩))
    go_ret2
    exact ⟨rfl, hb1⟩
  | true =>
    rw [e0] at hd
    clear e0
    cases e1 : (p.toList == [47]) with
    | true =>
      go_enter Tryz.func29, Tryz.ntmps29
      go_wp2_with (first | (go_at_call 32; refine (none_at h).mono ?_; rintro e w' ⟨rfl, rfl⟩) | (go_at_call 42; refine hd.mono ?_; rintro e w1 ⟨rfl, hb1⟩))
      go_ret2
      exact ⟨rfl, hb1⟩
    | false =>
      go_enter Tryz.func29, Tryz.ntmps29
      go_wp2_with (first | (go_at_call 32; refine (none_at h).mono ?_; rintro e w' ⟨rfl, rfl⟩) | (go_at_call 42; refine hd.mono ?_; rintro e w1 ⟨rfl, hb1⟩; have hml := h.ml.below hb1) | (go_at_call 41; refine (good_any p _ hml).mono ?_; rintro e w2 ⟨rfl, hb2⟩))
      go_ret2
      exact ⟨rfl, hb1.trans (hb2.mono hb1.size)⟩
/- write -/
end Go.Proofs.YthchfkjdbfhnhaaGreatDoor
