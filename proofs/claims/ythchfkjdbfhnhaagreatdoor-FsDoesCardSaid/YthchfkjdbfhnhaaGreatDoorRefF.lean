/- The document's file system: Read, Remove, Is. -/
import Derived.Test.YthchfkjdbfhnhaaGreatDoorRefE
import Derived.Test.YthchfkjdbfhnhaaGreatDoorIs
namespace Go.Proofs.YthchfkjdbfhnhaaGreatDoor
open Go Go.RowKit Go.Lany
set_option maxRecDepth 100000
section
variable {W : World} {r : Nat} {G : Nat → Prop} {s : FsSt} {v : Value} {K Kp : Int} {vs : List (ByteArray × Value)} {fs : List (ByteArray × ByteArray)} {m : Nat}
theorem RA.fault_of (h : RA W r G s v K Kp vs fs) : s.call.1.2.1 = 0 ∨ ((s.call.1.2.1 = 1 ∨ s.call.1.2.1 = 2 ∨ s.call.1.2.1 = 3) ∧ Kp = s.call.1.2.2) := by
  unfold FsSt.call
  split
  · exact .inl rfl
  · rename_i hl
    obtain ⟨k1, k2, k3, k4⟩ := h.fault hl
    split
    · exact .inl rfl
    · exact .inr ⟨by show s.kind = 1 ∨ s.kind = 2 ∨ s.kind = 3; omega, k2⟩
theorem after_zero (h : s.call.1.2.1 = 0) : s.after = s.call.2 := by unfold FsSt.after FsSt.fall; rw [h, if_neg (by decide)]
theorem ans_zero (h : s.call.1.2.1 = 0) : ansOf s.call.1.2.1 = 0 := by rw [h]; rfl
theorem ans_some {k : Int} (h : k = 1 ∨ k = 2 ∨ k = 3) : ¬ ansOf k = 0 := by rcases h with rfl | rfl | rfl <;> decide
theorem RA.drew (h : RA W r G s v K Kp vs fs) : RA W.drew r G s v K Kp vs fs := h.below (Below.refl _ _).drew
theorem RA.found (h : RA W r G s v K Kp vs fs) {p : ByteArray} (hf : isFile s p = true) : ∃ k d, findI fs p = some k ∧ fs[k]? = some (p, d) ∧ aget s.files p = some d := by
  cases hk : findI fs p with
  | none =>
    have := findI_none.1 hk
    rw [h.sorts.has p] at this
    unfold isFile at hf
    rw [this] at hf
    cases hf
  | some k =>
    obtain ⟨d, h1, h2⟩ := findI_some hk
    exact ⟨k, d, rfl, h1, by rw [← h.sorts.has p]; exact h2⟩
def ReadRPost (r : Nat) (G : Nat → Prop) (W : World) (res : ByteArray × Int × FsSt) (v : Value) (K Kp : Int) (vs : List (ByteArray × Value)) (fs : List (ByteArray × ByteArray)) (e : Ending) (w' : World) : Prop :=
  ∃ u, e = .returned (.tuple #[u, .int .i64 res.2.1]) ∧ w'.ownsRow W.heap.size 5 1 u res.1.size (byteCells res.1) ∧ RA w' r G res.2.2 v K Kp vs fs ∧ Turns (Own1 r) W w'
set_option maxHeartbeats 4000000 in
theorem readR_at (h : RA W r G s v K Kp vs fs) (hw : s.Wf) (hl : fs.length ≤ 4096) (p : ByteArray) :
    Calls Tryz.prog 15 #[.pointer (some ⟨r, 0, none⟩), .string p] W (ReadRPost r G W (s.read p) v K Kp vs fs) := by
  have hlk := looksR_one h p
  have HX := Lib.hid h.fault_of
  have hw2 : s.call.2.Wf := hw.call
  have HH := Lib.hid h
  clear h
  go_enter Tryz.func15, Tryz.ntmps15
  go_wp2_with (first
    | (go_at_call 47; refine hlk.mono ?_; rintro e w1 ⟨rfl, hb1⟩; have h1 := HH.out.below hb1; have T1 := Lib.hid hb1)
    | (go_at_call 48; refine (callR_at h1).mono ?_; rintro e w2 ⟨rfl, h2, t2⟩; have T2 := Lib.hid t2)
    | (go_at_call 49; refine (goesR_at h2 (HX.out.resolve_left (ne_zero (by assumption))).1).mono ?_; rintro e w3 ⟨rfl, h3, t3⟩; have T3 := Lib.hid t3)
    | (go_at_call 50; refine (fileR_at h2 hw2 hl p).mono ?_; rintro e w3 ⟨rfl, rfl⟩))
  · have e0 : ¬ looksE s [p] = 0 := ne_zero (by assumption)
    have eR : s.read p = (ByteArray.empty, looksE s [p], s) := by unfold FsSt.read; rw [if_neg e0]
    go_ret2
    rw [eR]
    exact ⟨_, rfl, row_nil _ _, h1, Turns.of_below T1.out⟩
  · have e0 : looksE s [p] = 0 := eq_zero (by assumption)
    have e1 : ¬ s.call.1.2.1 = 0 := ne_zero (by assumption)
    have eR : s.read p = (ByteArray.empty, ansOf s.call.1.2.1, s.after) := by unfold FsSt.read; rw [if_pos e0, if_neg (ans_some (HX.out.resolve_left e1).1)]
    go_ret2
    rw [eR]
    exact ⟨_, rfl, row_nil _ _, h3, (Turns.lift T1.out T2.out).trans T3.out⟩
  · have e0 : looksE s [p] = 0 := eq_zero (by assumption)
    have e1 : s.call.1.2.1 = 0 := eq_zero (by assumption)
    have e2 : ¬ thereE s.call.2 p = 0 := ne_zero (by assumption)
    have eR : s.read p = (ByteArray.empty, thereE s.call.2 p, s.call.2) := by unfold FsSt.read; rw [if_pos e0, if_pos (ans_zero e1), after_zero e1, if_neg e2]
    go_ret2
    rw [eR]
    exact ⟨_, rfl, row_nil _ _, h2, Turns.lift T1.out T2.out⟩
  · have e0 : looksE s [p] = 0 := eq_zero (by assumption)
    have e1 : s.call.1.2.1 = 0 := eq_zero (by assumption)
    have e2 : thereE s.call.2 p = 0 := eq_zero (by assumption)
    have eR : s.read p = ((aget s.call.2.files p).getD ByteArray.empty, 0, s.call.2) := by unfold FsSt.read; rw [if_pos e0, if_pos (ans_zero e1), after_zero e1, if_pos e2]
    obtain ⟨k, d, hk, hkd, had⟩ := h2.found (there_file e2)
    have hf : Calls Tryz.prog 51 #[.pointer (some ⟨r, 0, none⟩), .string p] w2.drew (RetQ (.int .i64 (k : Int)) w2.drew) := by
      have := findR_at h2.drew hl p
      rw [hk] at this
      exact this
    obtain ⟨c0, -, -, -, -, -, -⟩ := h2.cells
    obtain ⟨a, cap, rfl, hfo⟩ := h2.form
    obtain ⟨g, u, rfl, hvs, -, x1, -, hu⟩ := hfo k _ hkd
    obtain ⟨au, cu, rfl⟩ := rowF_slice hu
    have hkl : k < fs.length := (List.getElem?_eq_some_iff.1 hkd).1
    have hds : d.size ≤ 1048576 := hw2.size p d had
    have eR' : s.read p = (d, 0, s.call.2) := by rw [eR, had]; rfl
    have ER := Lib.hid eR'
    have HU := Lib.hid (bytes_of_row hu)
    have H2 := Lib.hid h2
    clear e0 e1 e2 eR eR' hk hkd had hfo hvs hu h1 h2 t2 hb1 hlk HX
    go_region_held3 (fun w' => w'.cell? ⟨r, 0, none⟩ = some (.slice (some ⟨g, 0, none⟩) fs.length cap) ∧ w'.cell? ⟨g, k * 2 + 1, none⟩ = some (.slice au d.size cu)) (first | exact ⟨by assumption, by assumption⟩ | go_keep)
      (first
        | (go_at_call 51; refine hf.mono ?_; rintro e w5 ⟨rfl, rfl⟩)
        | (refine step_append_bytes (by rfl) _ _ (by rfl) w2.heap.size (.slice none 0 0) (.slice au d.size cu) 0 ByteArray.empty d (fun k => 0 ≤ k) (by rfl) (by rfl) (World.ownsRow_nil _ _ _ _) HU.out (by omega) (Nat.le_refl _) ?_; intro v5 w5 h5 g5; obtain ⟨a5, c5, rfl⟩ := rowF_slice h5; have g5' : w2.grownBy w5 none := ⟨g5.os, g5.tape, g5.output, g5.size, fun k hk hn => g5.block k hk hn⟩; have y0 := g5'.cell c0 (by simp); have y1 := g5'.cell x1 (by simp); have H5 := Lib.hid (And.intro h5 g5'); clear g5 g5' h5))
    all_goals
      go_wp2
      go_ret2
      obtain ⟨h5, g5⟩ := H5.out
      rw [ER.out]
      have tt := Turns.lift T1.out T2.out
      have h5' : w5.ownsRow w2.heap.size 5 1 (.slice a5 d.size c5) d.size (byteCells d) := by
        have : ByteArray.empty ++ d = d := by simp
        rw [this] at h5
        simpa using h5
      have tg : Turns (Own1 r) w2 w5 := Turns.of_grown g5 fun k e => by cases e
      exact ⟨_, rfl, row_base h5' tt.size, H2.out.kept (S := fun _ => False) (Turns.of_grown g5 fun k e => by cases e) (fun _ _ => id), tt.trans tg⟩
def DropRPost (r : Nat) (G : Nat → Prop) (W : World) (res : Int × FsSt) (K Kp : Int) (e : Ending) (w' : World) : Prop :=
  e = .returned (.int .i64 res.1) ∧ (∃ v vs fs, RA w' r (Grow G W.heap.size) res.2 v K Kp vs fs) ∧ Turns (Own1 r) W w'
theorem ret_two {a b c : Bool} (h : b = c) : Ending.returned (.tuple #[.bool a, .bool b]) = Ending.returned (.tuple #[.bool a, .bool c]) := by rw [h]
theorem RA.grow (h : RA W r G s v K Kp vs fs) {n : Nat} (hn : 0 < n) : RA W r (Grow G n) s v K Kp vs fs := h.mono (fun _ _ hg => .inl hg) fun e => e.elim h.far (fun e => by omega)
theorem RA.grow2 (h : RA W r (Grow G m) s v K Kp vs fs) {n : Nat} (hn : 0 < n) (hm : n ≤ m) (hf : ¬ G 0) : RA W r (Grow G n) s v K Kp vs fs := h.mono (fun _ _ hg => hg.elim .inl fun e => .inr (Nat.le_trans hm e)) fun e => e.elim hf (fun e => by omega)
set_option maxHeartbeats 4000000 in
theorem removeR_at (h : RA W r G s v K Kp vs fs) (hw : s.Wf) (hl : fs.length ≤ 4096) (hml : 0 < W.heap.size) (p : ByteArray) :
    Calls Tryz.prog 22 #[.pointer (some ⟨r, 0, none⟩), .string p] W (DropRPost r G W (s.remove p) K Kp) := by
  have hlk := looksR_one h p
  have HX := Lib.hid h.fault_of
  have hw2 : s.call.2.Wf := hw.call
  have HH := Lib.hid h
  clear h
  go_enter Tryz.func22, Tryz.ntmps22
  go_wp2_with (first
    | (go_at_call 47; refine hlk.mono ?_; rintro e w1 ⟨rfl, hb1⟩; have h1 := HH.out.below hb1; have T1 := Lib.hid hb1)
    | (go_at_call 48; refine (callR_at h1).mono ?_; rintro e w2 ⟨rfl, h2, t2⟩; have T2 := Lib.hid t2)
    | (go_at_call 49; refine (goesR_at h2 (HX.out.resolve_left (ne_zero (by assumption))).1).mono ?_; rintro e w3 ⟨rfl, h3, t3⟩; have T3 := Lib.hid t3)
    | (go_at_call 50; refine (fileR_at h2 hw2 hl p).mono ?_; rintro e w3 ⟨rfl, rfl⟩)
    | (go_at_call 54; obtain ⟨k, d, hk, hkd, had⟩ := h2.found (there_file (eq_zero (by assumption : (thereE s.call.2 p != 0) = false))); refine (dropR_at h2 hl (Nat.lt_of_lt_of_le hml (Turns.lift T1.out T2.out).size) hk).mono ?_; rintro e w3 ⟨rfl, h3, t3⟩; have T3 := Lib.hid t3))
  · have e0 : ¬ looksE s [p] = 0 := ne_zero (by assumption)
    have eR : s.remove p = (looksE s [p], s) := by unfold FsSt.remove; rw [if_neg e0]
    go_ret
    rw [eR]
    exact ⟨rfl, ⟨_, _, _, h1.grow hml⟩, Turns.of_below T1.out⟩
  · have e0 : looksE s [p] = 0 := eq_zero (by assumption)
    have e1 : ¬ s.call.1.2.1 = 0 := ne_zero (by assumption)
    have eR : s.remove p = (ansOf s.call.1.2.1, s.after) := by unfold FsSt.remove; rw [if_pos e0, if_neg (ans_some (HX.out.resolve_left e1).1)]
    go_ret
    rw [eR]
    exact ⟨rfl, ⟨_, _, _, h3.grow hml⟩, (Turns.lift T1.out T2.out).trans T3.out⟩
  · have e0 : looksE s [p] = 0 := eq_zero (by assumption)
    have e1 : s.call.1.2.1 = 0 := eq_zero (by assumption)
    have e2 : ¬ thereE s.call.2 p = 0 := ne_zero (by assumption)
    have eR : s.remove p = (thereE s.call.2 p, s.call.2) := by unfold FsSt.remove; rw [if_pos e0, if_pos (ans_zero e1), after_zero e1, if_neg e2]
    go_ret
    rw [eR]
    exact ⟨rfl, ⟨_, _, _, h2.grow hml⟩, Turns.lift T1.out T2.out⟩
  · have e0 : looksE s [p] = 0 := eq_zero (by assumption)
    have e1 : s.call.1.2.1 = 0 := eq_zero (by assumption)
    have e2 : thereE s.call.2 p = 0 := eq_zero (by assumption)
    have eR : s.remove p = (0, { s.call.2 with files := adel s.call.2.files p }) := by unfold FsSt.remove; rw [if_pos e0, if_pos (ans_zero e1), after_zero e1, if_pos e2]
    go_ret
    rw [eR]
    obtain ⟨v', vs', fs', q⟩ := h3
    exact ⟨rfl, ⟨_, _, _, q.grow2 hml (Turns.lift T1.out T2.out).size HH.out.far⟩, (Turns.lift T1.out T2.out).trans T3.out⟩
/-- Is. -/
theorem isR_at (h : RA W r G s v K Kp vs fs) (hw : s.Wf) (hl : fs.length ≤ 4096) (p : ByteArray) :
    Calls Tryz.prog 30 #[.pointer (some ⟨r, 0, none⟩), .string p] W (IsPost W (isFile s p) (isDir s p)) := by
  have hf := findR_at h hl p
  have hg := refGood_any p W
  have hi := find_isFile h p
  obtain ⟨x, hx⟩ : ∃ x, x = intOfI (findI fs p) := ⟨_, rfl⟩
  rw [← hx] at hf hi
  have HH := Lib.hid h
  clear hx h
  unfold isDir
  have hxe : isFile s p = decide (0 ≤ x) := by
    by_cases e : x < 0
    · rw [hi.1 e, decide_eq_false (by omega)]
    · rw [decide_eq_true (by omega)]
      cases hh : isFile s p with
      | true => rfl
      | false => exact absurd (hi.2 hh) e
  rw [hxe]
  clear hi hxe
  cases e0 : (p.toList == [47]) with
  | true =>
    go_enter Tryz.func30, Tryz.ntmps30
    go_wp2_with (first
      | (go_at_call 51; refine hf.mono ?_; rintro e w' ⟨rfl, rfl⟩)
      | (go_at_call 58; refine (dirR_at HH.out hw hl p).mono ?_; rintro e w' ⟨rfl, rfl⟩))
    go_ret2
    exact ⟨ret_two (by simp), Below.refl _ _⟩
  | false =>
    cases e1 : goodB p with
    | true =>
      rw [e1] at hg
      go_enter Tryz.func30, Tryz.ntmps30
      go_wp2_with (first
        | (go_at_call 51; refine hf.mono ?_; rintro e w' ⟨rfl, rfl⟩)
        | (go_at_call 57; refine hg.mono ?_; rintro e w1 ⟨rfl, hb1⟩)
        | (go_at_call 58; refine (dirR_at (HH.out.below hb1) hw hl p).mono ?_; rintro e w' ⟨rfl, rfl⟩))
      go_ret2
      exact ⟨ret_two (by simp), hb1⟩
    | false =>
      rw [e1] at hg
      go_enter Tryz.func30, Tryz.ntmps30
      go_wp2_with (first
        | (go_at_call 51; refine hf.mono ?_; rintro e w' ⟨rfl, rfl⟩)
        | (go_at_call 57; refine hg.mono ?_; rintro e w1 ⟨rfl, hb1⟩))
      go_ret2
      exact ⟨ret_two (by simp), hb1⟩
end
end Go.Proofs.YthchfkjdbfhnhaaGreatDoor
