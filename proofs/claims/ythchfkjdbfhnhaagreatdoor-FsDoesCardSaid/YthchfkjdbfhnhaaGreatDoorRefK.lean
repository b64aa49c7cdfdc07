/- The document's file system: List. -/
import Derived.Test.YthchfkjdbfhnhaaGreatDoorRefJ
import Derived.Test.YthchfkjdbfhnhaaGreatDoorList
namespace Go.Proofs.YthchfkjdbfhnhaaGreatDoor
open Go Go.RowKit Go.Lany
set_option maxRecDepth 100000
section
variable {W : World} {r : Nat} {G : Nat → Prop} {s : FsSt} {v : Value} {K Kp : Int} {vs : List (ByteArray × Value)} {fs : List (ByteArray × ByteArray)}
def ListRPost (r : Nat) (G : Nat → Prop) (W : World) (res : List ByteArray × Int × FsSt) (v : Value) (K Kp : Int) (vs : List (ByteArray × Value)) (fs : List (ByteArray × ByteArray)) (e : Ending) (w' : World) : Prop :=
  ∃ u, e = .returned (.tuple #[u, .int .i64 res.2.1]) ∧ w'.ownsRow W.heap.size 9 1 u res.1.length (strs res.1) ∧ RA w' r G res.2.2 v K Kp vs fs ∧ Turns (Own1 r) W w'
theorem strs_nil (w : World) (b : Nat) : w.ownsRow b 9 1 (.slice none 0 0) ([] : List ByteArray).length (strs []) := World.ownsRow_nil _ _ _ _
theorem rowS_base {w : World} {b b' : Nat} {v : Value} {n : Nat} {xs : List Value} (h : w.ownsRow b 9 1 v n xs) (hb : b' ≤ b) : w.ownsRow b' 9 1 v n xs :=
  ⟨h.1, h.2.imp id fun ⟨g, cap, cur, e, hg, r⟩ => ⟨g, cap, cur, e, Nat.le_trans hb hg, r⟩⟩
set_option maxHeartbeats 4000000 in
theorem listR_at (h : RA W r G s v K Kp vs fs) (hw : s.Wf) (hl : fs.length ≤ 4096) (d : ByteArray) :
    Calls Tryz.prog 23 #[.pointer (some ⟨r, 0, none⟩), .string d] W (ListRPost r G W (s.list d) v K Kp vs fs) := by
  obtain ⟨-, -, -, -, -, c5, -⟩ := h.cells
  have HX := Lib.hid h.fault_of
  have hw2 : s.call.2.Wf := hw.call
  have HH := Lib.hid h
  clear h
  cases hdn : s.down with
  | true =>
    rw [hdn] at c5
    have eR : Hid (s.list d = ([], 22, s)) := Lib.hid (by
      have : looksE s [] = 22 := by unfold looksE; rw [hdn]; rfl
      unfold FsSt.list; rw [this, if_neg (by decide)])
    clear hdn
    go_enter Tryz.func23, Tryz.ntmps23
    go_wp2
    go_ret2
    rw [eR.out]
    exact ⟨_, rfl, strs_nil _ _, HH.out, Turns.refl _ _⟩
  | false =>
    rw [hdn] at c5
    have e0 : Hid (looksE s [] = 0) := Lib.hid (by unfold looksE; rw [hdn]; rfl)
    clear hdn
    go_enter Tryz.func23, Tryz.ntmps23
    go_upto_region 3 with fail
    go_cut [17] (fun v wc => v = .bool (badDir d) ∧ Below W.heap.size W wc)
    case first =>
      have hg := refGood_any d W
      cases e1 : (d.toList == [47]) with
      | true =>
        go_wp2
        go_meet
        exact ⟨by unfold badDir; rw [e1]; rfl, Below.refl _ _⟩
      | false =>
        go_wp2_with (go_at_call 57; refine hg.mono ?_; rintro e w1 ⟨rfl, hb1⟩)
        go_meet
        exact ⟨by unfold badDir; rw [e1]; rfl, hb1⟩
    case rest =>
      obtain ⟨rfl, hb1⟩ := hcut
      have h1 := HH.out.below hb1
      have T1 := Lib.hid hb1
      have H1 := Lib.hid h1
      clear hb1 h1
      cases eB : badDir d with
      | true =>
        have eR : Hid (s.list d = ([], 23, s)) := Lib.hid (by unfold FsSt.list; rw [if_pos e0.out, eB, if_pos rfl])
        clear eB
        go_wp2
        go_ret2
        rw [eR.out]
        exact ⟨_, rfl, strs_nil _ _, H1.out, Turns.of_below T1.out⟩
      | false =>
        have hds := dir_size eB
        have EL : Hid (s.list d = if ansOf s.call.1.2.1 = 0 then (if isFile s.after d then ([], 24, s.after) else if dirB (akeys s.after.files) d ⟨#[]⟩ then (listOf (akeys s.after.files) (dirOf d), 0, s.after) else ([], 4, s.after)) else ([], ansOf s.call.1.2.1, s.after)) := Lib.hid (by unfold FsSt.list; rw [if_pos e0.out, eB, if_neg (by decide)])
        clear eB
        go_upto_if 28 with (first
          | (go_at_call 48; refine (callR_at H1.out).mono ?_; rintro e w2 ⟨rfl, h2, t2⟩; have T2 := Lib.hid t2; have H2 := Lib.hid h2; have hff := findR_at h2 hl d; have hii := find_isFile h2 d; obtain ⟨x, hx⟩ : ∃ x, x = intOfI (findI fs d) := ⟨_, rfl⟩; rw [← hx] at hff hii; clear hx; have HII := Lib.hid hii; clear hii)
          | (go_at_call 49; refine (goesR_at h2 (HX.out.resolve_left (ne_zero (by assumption))).1).mono ?_; rintro e w3 ⟨rfl, h3, t3⟩; have T3 := Lib.hid t3)
          | (go_at_call 51; refine hff.mono ?_; rintro e w3 ⟨rfl, rfl⟩))
        · have e1 : ¬ s.call.1.2.1 = 0 := ne_zero (by assumption)
          go_ret2
          rw [EL.out, if_neg (ans_some (HX.out.resolve_left e1).1)]
          exact ⟨_, rfl, strs_nil _ _, h3, (Turns.lift T1.out T2.out).trans T3.out⟩
        · have e1 : s.call.1.2.1 = 0 := eq_zero (by assumption)
          have ER : Hid (s.list d = if isFile s.call.2 d then ([], 24, s.call.2) else if dirB (akeys s.call.2.files) d ⟨#[]⟩ then (listOf (akeys s.call.2.files) (dirOf d), 0, s.call.2) else ([], 4, s.call.2)) := Lib.hid (by rw [EL.out, if_pos (ans_zero e1), after_zero e1])
          have TT := Lib.hid (Turns.lift T1.out T2.out)
          clear e1 EL h2 t2 T2 HX hff
          by_cases hx0 : x < 0
          · have hif := HII.out.1 hx0
            have EF := Lib.hid hif
            have hx0' : decide (0 ≤ x) = false := decide_eq_false (by omega)
            clear hif
            have hdr := dirR_at H2.out hw2 hl d
            cases hdb : dirB (akeys s.call.2.files) d ⟨#[]⟩ with
            | false =>
              rw [hdb] at hdr
              have ER2 : Hid (s.list d = ([], 4, s.call.2)) := Lib.hid (by rw [ER.out, EF.out, if_neg (by simp), hdb, if_neg (by simp)])
              clear hdb
              go_wp2_with (go_at_call 58; refine hdr.mono ?_; rintro e w3 ⟨rfl, rfl⟩)
              go_ret2
              rw [ER2.out]
              exact ⟨_, rfl, strs_nil _ _, H2.out, TT.out⟩
            | true =>
              rw [hdb] at hdr
              have ER2 : Hid (s.list d = (listOf (akeys s.call.2.files) (dirOf d), 0, s.call.2)) := Lib.hid (by rw [ER.out, EF.out, if_neg (by simp), hdb, if_pos rfl])
              clear hdb
              go_wp2_with (first
                | (go_at_call 58; refine hdr.mono ?_; rintro e w3 ⟨rfl, rfl⟩)
                | (go_at_call 59; refine (namesR_at H2.out hw2 hl d hds).mono ?_; rintro e w3 ⟨u, rfl, hu, hb3⟩; have HU := Lib.hid (And.intro hu hb3); clear hu hb3))
              go_ret2
              rw [ER2.out]
              exact ⟨_, rfl, rowS_base HU.out.1 TT.out.size, H2.out.below HU.out.2, TT.out.trans (Turns.of_below HU.out.2)⟩
          · have hif : isFile s.call.2 d = true := by
              cases hh : isFile s.call.2 d with
              | true => rfl
              | false => exact absurd (HII.out.2 hh) hx0
            have ER2 : Hid (s.list d = ([], 24, s.call.2)) := Lib.hid (by rw [ER.out, hif, if_pos rfl])
            have hx0' : decide (0 ≤ x) = true := decide_eq_true (by omega)
            clear hif
            go_wp2
            go_ret2
            rw [ER2.out]
            exact ⟨_, rfl, strs_nil _ _, H2.out, TT.out⟩
end
end Go.Proofs.YthchfkjdbfhnhaaGreatDoor
