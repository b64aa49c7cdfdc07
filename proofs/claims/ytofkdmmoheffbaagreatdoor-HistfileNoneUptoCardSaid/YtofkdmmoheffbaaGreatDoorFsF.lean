/- The simulated file system's calls, continued: Write, Append, Paths, Clone. -/
import Derived.Test.YtofkdmmoheffbaaGreatDoorFsE
import Derived.Shelf.SlIter.Nil
import Derived.Shelf.SortM.Plain
import Derived.Shelf.SortM.SortNone
namespace Go.Proofs.YtofkdmmoheffbaaGreatDoor
open Go Go.RowKit Go.Lany
set_option maxRecDepth 100000
theorem Write_at {w : World} {f m c : Nat} {F G : Nat → Prop} {s : FsSt} (h : FsAt w f m c F s) (p : ByteArray) (vb : Value) (b : ByteArray) (hb : Bytes G w vb b) (hbs : b.size ≤ 140737488355328) (hk : 0 ≤ s.keep) :
    Calls Tryz.prog 38 #[fsPtr f, .string p, vb] w (WritePost f m c F w (s.write p ByteArray.empty b)) := by
  have hw := write_at h p (.slice none 0 0) vb ByteArray.empty b false (G := G) (bytes_nil _ _) hb (by decide) hbs hk
  clear hk
  go_enter Tryz.func38, Tryz.ntmps38
  go_wp2_with (go_at_call 59; refine hw.mono ?_; rintro e w1 ⟨rfl, h1, t1⟩)
  go_ret
  exact ⟨rfl, h1, t1⟩
theorem Append_at {w : World} {f m c : Nat} {F G : Nat → Prop} {s : FsSt} (h : FsAt w f m c F s) (p : ByteArray) (vb : Value) (b : ByteArray) (hb : Bytes G w vb b) (hbs : b.size ≤ 140737488355328) (hk : 0 ≤ s.keep)
    (hos : ((aget s.files p).getD ByteArray.empty).size ≤ 140737488355328) :
    Calls Tryz.prog 28 #[fsPtr f, .string p, vb] w (WritePost f m c F w (s.write p ((aget s.files p).getD ByteArray.empty) b)) := by
  obtain ⟨v, hl, hv⟩ := look_at h p
  have hw := write_at h p v vb _ b true (G := fun k => F k ∨ G k) (hv.mono fun _ _ e => .inl e) (hb.mono fun _ _ e => .inr e) hos hbs hk
  obtain ⟨c0, -, -, -, -, -, -⟩ := h.cells
  clear hk hv hb hos
  go_enter Tryz.func28, Tryz.ntmps28
  go_wp2_with (first | (go_at_call 31; refine (none_at h).mono ?_; rintro e w' ⟨rfl, rfl⟩) | (go_at_call 59; refine hw.mono ?_; rintro e w1 ⟨rfl, h1, t1⟩))
  go_ret
  exact ⟨rfl, h1, t1⟩
end Go.Proofs.YtofkdmmoheffbaaGreatDoor
