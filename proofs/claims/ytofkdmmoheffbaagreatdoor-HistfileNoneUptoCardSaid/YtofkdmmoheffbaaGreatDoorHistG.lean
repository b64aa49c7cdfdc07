/- A history's file in a file system: the temporary file. -/
import Derived.Test.YtofkdmmoheffbaaGreatDoorHistFs
import Derived.Test.YtofkdmmoheffbaaGreatDoorHistV
import Derived.Test.YtofkdmmoheffbaaGreatDoorAgain
namespace Go.Proofs.YtofkdmmoheffbaaGreatDoor
open Go Go.RowKit Go.Shelf Go.Lany
set_option maxRecDepth 100000
/-- The library's variables lie below block B. -/
def VarsB (B : Nat) (w : World) : Prop := B ≤ w.heap.size ∧ ∀ w', Below B w w' → Vars w'
theorem VarsB.of {w : World} (h : Vars w) : VarsB w.heap.size w := ⟨Nat.le_refl _, fun _ t => h.below t⟩
theorem VarsB.below {B : Nat} {w w' : World} (h : VarsB B w) (t : Below B w w') : VarsB B w' := ⟨Nat.le_trans h.1 t.size, fun _ t2 => h.2 _ (t.trans t2)⟩
theorem VarsB.vars {B : Nat} {w : World} (h : VarsB B w) : Vars w := h.2 w (Below.refl _ _)
/-- A file system of blocks from B on, in a state that calls bring about; the library's variables below B. -/
structure HF (B f m c : Nat) (w : World) (s : FsSt) : Prop where
  at_ : FsAt w f m c (From B) s
  vars : VarsB B w
  wf : s.Wf
  ml : 1 < B
theorem HF.size {B f m c : Nat} {w : World} {s : FsSt} (h : HF B f m c w s) : B ≤ w.heap.size := h.vars.1
theorem HF.below {B f m c : Nat} {w w' : World} {s : FsSt} (h : HF B f m c w s) (t : Below w.heap.size w w') : HF B f m c w' s :=
  ⟨h.at_.below t, h.vars.below (t.mono h.size), h.wf, h.ml⟩
theorem HF.low {B f m c : Nat} {w w' : World} {s : FsSt} (h : HF B f m c w s) (t : Turns (Own3 f m c) w w') : Below B w w' := t.below h.size h.at_.own_from
theorem HF.turn {B f m c : Nat} {w w' : World} {s s' : FsSt} (h : HF B f m c w s) (t : Turns (Own3 f m c) w w') (h' : FsAt w' f m c (From B) s') (wf : s'.Wf) : HF B f m c w' s' :=
  ⟨h', h.vars.below (h.low t), wf, h.ml⟩
theorem HF.again {B f m c : Nat} {w w' : World} {s s' : FsSt} (h : HF B f m c w s) (t : Turns (Own3 f m c) w w') (h' : FsAt w' f m c (Grow (From B) w.heap.size) s') (wf : s'.Wf) : HF B f m c w' s' :=
  h.turn t (h'.again h.size h.ml) wf
theorem put_move {s : FsSt} {p b : ByteArray} (h : (s.histMove p b).1 = 0 ∨ (s.histMove p b).1 = 22) : s.histPut p b = s.histMove p b := by
  unfold FsSt.histPut
  rw [if_neg (fun e => h.elim e.1 e.2)]
theorem put_rm {s : FsSt} {p b : ByteArray} (h1 : (s.histMove p b).1 ≠ 0) (h2 : (s.histMove p b).1 ≠ 22) : s.histPut p b = ((s.histMove p b).1, ((s.histMove p b).2.remove (tmpOf p)).2) := by
  unfold FsSt.histPut
  rw [if_pos ⟨h1, h2⟩]
theorem move_two {s : FsSt} {p b : ByteArray} (h : ((s.write (tmpOf p) ByteArray.empty b).1 == 0) = true) : s.histMove p b = (s.write (tmpOf p) ByteArray.empty b).2.rename (tmpOf p) p := by
  unfold FsSt.histMove; rw [if_pos (eq_of_beq h)]
theorem move_one {s : FsSt} {p b : ByteArray} (h : ((s.write (tmpOf p) ByteArray.empty b).1 == 0) = false) : s.histMove p b = s.write (tmpOf p) ByteArray.empty b := by
  unfold FsSt.histMove; rw [if_neg (by simpa using h)]
theorem or_down {n : Int} (h : (n != 0) = false ∨ (n != 22) = false) : n = 0 ∨ n = 22 := by simpa using h
theorem and_down {n : Int} (h : (n != 0) = true ∧ (n != 22) = true) : n ≠ 0 ∧ n ≠ 22 := by simpa using h
set_option maxHeartbeats 2000000 in
theorem hput_at {B f m c : Nat} {w : World} {s : FsSt} {G : Nat → Prop} (h : HF B f m c w s) (p : ByteArray) (hp : p.size ≤ 1099511627776) {vb : Value} {b : ByteArray} (hb : Bytes G w vb b) (hbs : b.size ≤ 1099511627776) :
    Calls Tryz.prog 29 #[fsPtr f, .string p, vb] w (StPost f m c (From B) w (s.histPut p b)) := by
  have hw := Write_at h.at_ (tmpOf p) vb b hb (by omega) h.wf.keep
  have HF0 := Lib.hid h
  have hwf1 : (s.write (tmpOf p) ByteArray.empty b).2.Wf := h.wf.write _ _ _
  have HWF := Lib.hid hwf1
  clear h hb hwf1
  go_enter Tryz.func29, Tryz.ntmps29
  go_wp2_with (first
    | (go_at_call 38; go_must (refine hw.mono ?_); rintro e w1 ⟨rfl, h1, t1⟩; have H1 := Lib.hid (HF0.out.again t1 h1 HWF.out); have T1 := Lib.hid t1; clear h1 t1)
    | (go_at_call 60; go_must (refine (rename_at H1.out.at_ (tmpOf p) p).mono ?_); rintro e w2 ⟨rfl, h2, t2⟩; have H2 := Lib.hid h2; have T2 := Lib.hid (T1.out.trans t2); clear h2 t2)
    | (go_at_call 61; have hx2 := H2.out; go_must (refine (remove_at H2.out (tmpOf p)).mono ?_); rintro e w3 ⟨rfl, h3, t3⟩; have T3 := Lib.hid (T2.out.trans t3); have H3 := Lib.hid h3; clear h3 t3)
    | (go_at_call 61; go_must (refine (remove_at H1.out.at_ (tmpOf p)).mono ?_); rintro e w3 ⟨rfl, h3, t3⟩; have T3 := Lib.hid (T1.out.trans t3); have H3 := Lib.hid h3; clear h3 t3))
  · have e1 := move_two (by assumption : ((s.write (tmpOf p) ByteArray.empty b).1 == 0) = true)
    rename_i h0
    go_ret
    rw [put_move (.inl (by rw [e1]; exact h0)), e1]
    exact ⟨by rw [h0]; rfl, H2.out, T2.out⟩
  · have e1 := move_two (by assumption : ((s.write (tmpOf p) ByteArray.empty b).1 == 0) = true)
    rename_i hor
    have h2 := and_down hor
    go_ret
    rw [put_rm (by rw [e1]; exact h2.1) (by rw [e1]; exact h2.2), e1]
    exact ⟨rfl, H3.out, T3.out⟩
  · have e1 := move_two (by assumption : ((s.write (tmpOf p) ByteArray.empty b).1 == 0) = true)
    rename_i hor
    have h3 := or_down hor
    go_ret
    rw [put_move (by rw [e1]; exact h3), e1]
    exact ⟨rfl, H2.out, T2.out⟩
  · rename_i h1 h0
    rw [h0] at h1
    exact absurd h1 (by decide)
  · have e1 := move_one (by assumption : ((s.write (tmpOf p) ByteArray.empty b).1 == 0) = false)
    rename_i hor
    have h2 := and_down hor
    go_ret
    rw [put_rm (by rw [e1]; exact h2.1) (by rw [e1]; exact h2.2), e1]
    exact ⟨rfl, H3.out, T3.out⟩
  · have e1 := move_one (by assumption : ((s.write (tmpOf p) ByteArray.empty b).1 == 0) = false)
    rename_i hor
    have h3 := or_down hor
    go_ret
    rw [put_move (by rw [e1]; exact h3), e1]
    exact ⟨rfl, H1.out.at_, T1.out⟩
end Go.Proofs.YtofkdmmoheffbaaGreatDoor
