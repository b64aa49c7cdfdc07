/- The simulated file system's calls: New, Read, Remove, Rename, Is. -/
import Derived.Test.YtofkdmmoheffbaaGreatDoorLooks
import Derived.Test.YtofkdmmoheffbaaGreatDoorBytes
namespace Go.Proofs.YtofkdmmoheffbaaGreatDoor
open Go Go.RowKit Go.Lany
set_option maxRecDepth 100000
def FsSt.zero : FsSt := ⟨[], 0, 0, 0, 0, false⟩
def From (b k : Nat) : Prop := b ≤ k
def NewPost (w : World) (e : Ending) (w' : World) : Prop := ∃ f m c, e = .returned (fsPtr f) ∧ FsAt w' f m c (From w.heap.size) FsSt.zero ∧ Below w.heap.size w w'
theorem new_at {w : World} (hml : Ml w) : Calls Tryz.prog 8 #[] w (NewPost w) := by
  have hmm := @run_makeMap Tryz.prog
  go_enter Tryz.func8, Tryz.ntmps8
  go_wp2
  go_ret
  have hb : Below w.heap.size w (((w.alloc (.map #[] 0)).alloc (.cells #[.int .i64 0] 65)).alloc (fsObj w.heap.size (w.heap.size + 1) 0 0 0 false)) := (((Below.refl _ _).alloc (Nat.le_refl _) _).alloc (by simp) _).alloc (by simp; omega) _
  have hlt : 1 < w.heap.size := by obtain ⟨n, h⟩ := hml; exact World.block_lt_of_cell? _ _ h
  refine ⟨w.heap.size + 2, w.heap.size, w.heap.size + 1, rfl, ⟨?_, ?_, ⟨[], ?_, .nil⟩, ⟨by unfold From; omega, by unfold From; omega, by unfold From; omega⟩, by unfold From; omega, hml.below hb⟩, hb⟩
  · have := get_new ((w.alloc (.map #[] 0)).alloc (.cells #[.int .i64 0] 65)) (fsObj w.heap.size (w.heap.size + 1) 0 0 0 false)
    rw [size_alloc, size_alloc] at this
    exact this
  · rw [get_alloc _ _ (by simp)]
    have := get_new (w.alloc (.map #[] 0)) (.cells #[.int .i64 0] 65)
    rw [size_alloc] at this
    exact this
  · exact ((MapOf.made w).of_block (get_alloc _ _ (by simp))).of_block (get_alloc _ _ (by simp; omega))
def FsSt.after (s : FsSt) : FsSt := s.call.2.fall s.call.1.2.1
def FsSt.read (s : FsSt) (p : ByteArray) : ByteArray × Int × FsSt :=
  if looksE s [p] = 0 then
    if ansOf s.call.1.2.1 = 0 then
      if thereE s.after p = 0 then ((aget s.after.files p).getD ByteArray.empty, 0, s.after) else (ByteArray.empty, thereE s.after p, s.after)
    else (ByteArray.empty, ansOf s.call.1.2.1, s.after)
  else (ByteArray.empty, looksE s [p], s)
/-- An answer of bytes and an error; the state behind it. -/
def ReadPost (f m c : Nat) (F : Nat → Prop) (w : World) (r : ByteArray × Int × FsSt) (e : Ending) (w' : World) : Prop :=
  ∃ v, e = .returned (.tuple #[v, .int .i64 r.2.1]) ∧ Bytes (From w.heap.size) w' v r.1 ∧ FsAt w' f m c F r.2.2 ∧ Turns (Own3 f m c) w w'
/-- .. the bytes are the caller's own. -/
def ReadRow (f m c : Nat) (F : Nat → Prop) (w : World) (r : ByteArray × Int × FsSt) (e : Ending) (w' : World) : Prop :=
  ∃ v, e = .returned (.tuple #[v, .int .i64 r.2.1]) ∧ w'.ownsRow w.heap.size 5 1 v r.1.size (byteCells r.1) ∧ FsAt w' f m c F r.2.2 ∧ Turns (Own3 f m c) w w'
theorem row_nil (w : World) (b : Nat) : w.ownsRow b 5 1 (.slice none 0 0) ByteArray.empty.size (byteCells ByteArray.empty) := World.ownsRow_nil _ _ _ _
def StPost (f m c : Nat) (F : Nat → Prop) (w : World) (r : Int × FsSt) (e : Ending) (w' : World) : Prop :=
  e = .returned (.int .i64 r.1) ∧ FsAt w' f m c F r.2 ∧ Turns (Own3 f m c) w w'
theorem _root_.Go.Lany.Turns.lift {S : Nat → Prop} {w w1 w2 : World} (h : Below w.heap.size w w1) (k : Turns S w1 w2) : Turns S w w2 := (Turns.of_below (S := S) h).trans k
/-- The looks of a call with one path, its slice made ahead. -/
theorem looks_one {w : World} {f m c : Nat} {F : Nat → Prop} {s : FsSt} (h : FsAt w f m c F s) (p : ByteArray) :
    Calls Tryz.prog 53 #[fsPtr f, .slice (some ⟨w.heap.size, 0, none⟩) 1 1] (w.alloc (.cells #[.string p] 9)) fun e w' => e = .returned (.int .i64 (looksE s [p])) ∧ Below w.heap.size w w' := by
  have hb : Below w.heap.size w (w.alloc (.cells #[.string p] 9)) := (Below.refl _ _).alloc (Nat.le_refl _) _
  refine (looks_at (h.below hb) [p] w.heap.size 0 1 1 rfl (by decide) ?_).mono fun e w' ⟨h1, h2⟩ => ⟨h1, hb.trans (h2.mono (by simp))⟩
  intro i hi
  obtain rfl : i = 0 := by omega
  rw [cell_of_block (get_new w _)]; rfl
theorem looks_two {w : World} {f m c : Nat} {F : Nat → Prop} {s : FsSt} (h : FsAt w f m c F s) (p q : ByteArray) :
    Calls Tryz.prog 53 #[fsPtr f, .slice (some ⟨w.heap.size, 0, none⟩) 2 2] (w.alloc (.cells #[.string p, .string q] 9)) fun e w' => e = .returned (.int .i64 (looksE s [p, q])) ∧ Below w.heap.size w w' := by
  have hb : Below w.heap.size w (w.alloc (.cells #[.string p, .string q] 9)) := (Below.refl _ _).alloc (Nat.le_refl _) _
  refine (looks_at (h.below hb) [p, q] w.heap.size 0 2 2 rfl (by decide) ?_).mono fun e w' ⟨h1, h2⟩ => ⟨h1, hb.trans (h2.mono (by simp))⟩
  intro i hi
  rw [cell_of_block (get_new w _)]
  rcases i with _ | _ | i
  · rfl
  · rfl
  · omega
/-- A call is counted, and has its fault. -/
theorem good_size {s : FsSt} {p : ByteArray} {l : List ByteArray} (h : looksE s l = 0) (hp : p ∈ l) : p.size ≤ 140737488351232 := by
  unfold looksE at h
  split at h
  · cases h
  · split at h
    · rename_i hg
      have := List.all_eq_true.1 hg p hp
      unfold goodB at this
      simp at this
      omega
    · cases h
theorem look_at {w : World} {f m c : Nat} {F : Nat → Prop} {s : FsSt} (h : FsAt w f m c F s) (p : ByteArray) :
    ∃ v, (Instr.lookup 47 (.map (some m)) (.string p) false).run Tryz.prog w = .ok v w ∧ Bytes F w v ((aget s.files p).getD ByteArray.empty) := by
  obtain ⟨vs, hm, hb⟩ := h.map
  refine ⟨_, by rw [hm.lookup (P := Tryz.prog) (k := 9) (e := 37) (by kernel_rfl) (by kernel_rfl) (zeroB w) p false, if_neg (by decide)], ?_⟩
  rcases hb.get p with ⟨a, b⟩ | ⟨x, y, a, b, hr⟩
  · rw [a, b]; exact .inl ⟨rfl, rfl⟩
  · rw [a, b]; exact hr
theorem after_files (s : FsSt) : s.after.files = s.files := by
  have h1 : s.call.2.files = s.files := by
    unfold FsSt.call
    by_cases h : s.left = 0
    · rw [if_pos h]
    · rw [if_neg h]; by_cases h' : 0 < wrap64 (s.left - 1)
      · rw [if_pos h']
      · rw [if_neg h']
  unfold FsSt.after FsSt.fall
  split
  · exact h1
  · exact h1
theorem read_size {s : FsSt} {p : ByteArray} (h : ∀ b, aget s.files p = some b → b.size ≤ 140737488355328) : ((aget s.after.files p).getD ByteArray.empty).size ≤ 140737488355328 := by
  rw [after_files]
  cases e : aget s.files p with
  | none => exact Nat.zero_le _
  | some b => exact h b e
theorem ne_zero {n : Int} (h : (n != 0) = true) : ¬ n = 0 := by simpa using h
theorem eq_zero {n : Int} (h : (n != 0) = false) : n = 0 := by simpa using h
set_option maxHeartbeats 1000000 in
theorem read_row {w : World} {f m c : Nat} {F : Nat → Prop} {s : FsSt} (h : FsAt w f m c F s) (p : ByteArray) (hsz : ∀ b, aget s.files p = some b → b.size ≤ 140737488355328) :
    Calls Tryz.prog 26 #[fsPtr f, .string p] w (ReadRow f m c F w (s.read p)) := by
  have hlk := looks_one h p
  have HZ := Lib.hid hsz
  clear hsz
  go_enter Tryz.func26, Tryz.ntmps26
  go_wp2_with (first
    | (go_at_call 53; refine hlk.mono ?_; rintro e w1 ⟨rfl, hb1⟩; have h1 := h.below hb1; have T1 := Lib.hid hb1)
    | (go_at_call 55; refine (call_at h1).mono ?_; rintro e w2 ⟨rfl, h2, t2⟩; have T2 := Lib.hid t2)
    | (go_at_call 54; refine (answers_at h2 _ _ _).mono ?_; rintro e w3 ⟨rfl, h3, t3⟩; have T3 := Lib.hid t3)
    | (go_at_call 56; refine (there_at h3 p (good_size (eq_zero (by assumption : (looksE s [p] != 0) = false)) (.head _))).mono ?_; rintro e w4 ⟨rfl, hb4⟩; have h4 := h3.below hb4; have T4 := Lib.hid hb4; obtain ⟨c0, -, -, -, -, -, -⟩ := h4.cells; obtain ⟨v, hlv, hbv⟩ := look_at h4 p; have HV := Lib.hid hbv; clear hbv)
    | (go_at_call 57; refine (clone_row HV.out (read_size HZ.out)).mono ?_; rintro e w5 ⟨u, rfl, hbu, hb5⟩; have HU := Lib.hid hbu; clear hbu))
  · have e0 : ¬ looksE s [p] = 0 := ne_zero (by assumption)
    have eR : s.read p = (ByteArray.empty, looksE s [p], s) := by unfold FsSt.read; rw [if_neg e0]
    go_ret2
    rw [eR]
    exact ⟨_, rfl, row_nil _ _, h1, Turns.of_below T1.out⟩
  · have e0 : looksE s [p] = 0 := eq_zero (by assumption)
    have e1 : ¬ ansOf s.call.1.2.1 = 0 := ne_zero (by assumption)
    have eR : s.read p = (ByteArray.empty, ansOf s.call.1.2.1, s.after) := by unfold FsSt.read; rw [if_pos e0, if_neg e1]
    go_ret2
    rw [eR]
    exact ⟨_, rfl, row_nil _ _, h3, (Turns.lift T1.out T2.out).trans (Own1.three T3.out)⟩
  · have e0 : looksE s [p] = 0 := eq_zero (by assumption)
    have e1 : ansOf s.call.1.2.1 = 0 := eq_zero (by assumption)
    have e2 : ¬ thereE s.after p = 0 := ne_zero (by assumption)
    have eR : s.read p = (ByteArray.empty, thereE s.after p, s.after) := by unfold FsSt.read; rw [if_pos e0, if_pos e1, if_neg e2]
    go_ret2
    rw [eR]
    exact ⟨_, rfl, row_nil _ _, h4, ((Turns.lift T1.out T2.out).trans (Own1.three T3.out)).trans (Turns.of_below T4.out)⟩
  · have e0 : looksE s [p] = 0 := eq_zero (by assumption)
    have e1 : ansOf s.call.1.2.1 = 0 := eq_zero (by assumption)
    have e2 : thereE s.after p = 0 := eq_zero (by assumption)
    have eR : s.read p = ((aget s.after.files p).getD ByteArray.empty, 0, s.after) := by unfold FsSt.read; rw [if_pos e0, if_pos e1, if_pos e2]
    go_ret2
    rw [eR]
    have tt := ((Turns.lift T1.out T2.out).trans (Own1.three T3.out)).trans (Turns.of_below T4.out)
    exact ⟨_, rfl, row_base HU.out tt.size, h4.below hb5, tt.trans (Turns.of_below hb5)⟩
theorem read_at {w : World} {f m c : Nat} {F : Nat → Prop} {s : FsSt} (h : FsAt w f m c F s) (p : ByteArray) (hsz : ∀ b, aget s.files p = some b → b.size ≤ 140737488355328) :
    Calls Tryz.prog 26 #[fsPtr f, .string p] w (ReadPost f m c F w (s.read p)) :=
  (read_row h p hsz).mono fun _ _ ⟨v, he, hr, h1, h2⟩ => ⟨v, he, bytes_of_row hr, h1, h2⟩
end Go.Proofs.YtofkdmmoheffbaaGreatDoor
