/- A history's file in a file system: Append. -/
import Derived.Test.YtofkdmmoheffbaaGreatDoorHistH
namespace Go.Proofs.YtofkdmmoheffbaaGreatDoor
open Go Go.RowKit Go.Shelf Go.Lany
set_option maxRecDepth 100000
theorem append_bad {s : FsSt} {p : ByteArray} {t : Bool} {l : List HL} (hc : checkE l = 0) (h : (s.read p).2.1 ≠ 0 ∧ (s.read p).2.1 ≠ 4) : s.histAppend p t l = ((s.read p).2.1, (s.read p).2.2) := by
  unfold FsSt.histAppend; rw [if_neg (by simpa using hc), if_pos h]
theorem append_nil {s : FsSt} {p : ByteArray} {t : Bool} {l : List HL} (hc : checkE l = 0) (h : (s.read p).2.1 = 0 ∨ (s.read p).2.1 = 4) (hl : l = []) : s.histAppend p t l = (0, (s.read p).2.2) := by
  unfold FsSt.histAppend; rw [if_neg (by simpa using hc), if_neg (fun e => h.elim e.1 e.2), if_pos hl]
theorem append_eq {s : FsSt} {p : ByteArray} {t : Bool} {l : List HL} (hc : checkE l = 0) (h : (s.read p).2.1 = 0 ∨ (s.read p).2.1 = 4) (hl : l ≠ []) :
    s.histAppend p t l = (s.read p).2.2.write p ((aget (s.read p).2.2.files p).getD ByteArray.empty) (bs (addL (s.read p).1 (s.read p).2.1 (formatL t l))) := by
  unfold FsSt.histAppend; rw [if_neg (by simpa using hc), if_neg (fun e => h.elim e.1 e.2), if_neg hl]
theorem addL_no {old : ByteArray} {e : Int} {L : List UInt8} (h : e = 0 → old.data.toList ≠ [] → old.data.toList.getLast? = some 10) : addL old e L = L := by
  unfold addL; rw [if_neg]; rintro ⟨h1, h2, h3⟩; exact h3 (h h1 h2)
theorem addL_yes {old : ByteArray} {e : Int} {L : List UInt8} (h1 : e = 0) (h2 : old.data.toList ≠ []) (h3 : old.data.toList.getLast? ≠ some 10) : addL old e L = [10, 10] ++ L := by
  unfold addL; rw [if_pos ⟨h1, h2, h3⟩]
/-- A read answer of bytes has no more bytes than a file. -/
theorem bs_add (L : List UInt8) : bs ([10, 10] ++ L) = ⟨#[10, 10]⟩ ++ bs L := by
  apply ByteArray.ext
  rw [ByteArray.data_append]
  show ([10, 10] ++ L).toArray = #[10, 10] ++ L.toArray
  simp
theorem or_none {n : Int} (h : (n != 0) = false ∨ (n != 4) = false) : n = 0 ∨ n = 4 := by simpa using h
theorem and_none {n : Int} (h : (n != 0) = true ∧ (n != 4) = true) : n ≠ 0 ∧ n ≠ 4 := by simpa using h
theorem len_zero {l : List HL} (h : ((l.length : Int) == 0) = true) : l = [] := by simpa using h
theorem len_some {l : List HL} (h : ((l.length : Int) == 0) = false) : l ≠ [] := by simpa using h
theorem list_none {s : ByteArray} (h : s.size = 0) : s.data.toList = [] := List.eq_nil_of_length_eq_zero (by simpa using h)
theorem last_of {s : ByteArray} {N : Nat} (h : s.size = N + 1) : ∃ x, s.data.toList[N]? = some x ∧ s.data.toList.getLast? = some x := by
  have hl : s.data.toList.length = N + 1 := by simpa using h
  have hlt : N < s.data.toList.length := by omega
  refine ⟨s.data.toList[N], List.getElem?_eq_getElem hlt, ?_⟩
  rw [List.getLast?_eq_getElem?, hl]
  exact List.getElem?_eq_getElem hlt
theorem concat_here {w : World} {G : Nat → Prop} {v1 v2 : Value} {x y : ByteArray} (h1 : Bytes G w v1 x) (h2 : Bytes G w v2 y) (hs : x.size + y.size ≤ 140737488355328) :
    Calls Tryz.prog 27 #[.slice (some ⟨w.heap.size, 0, none⟩) 2 2] (w.alloc (.cells #[v1, v2] 37)) fun e w' => ∃ v, e = .returned v ∧ Bytes (From w.heap.size) w' v (x ++ y) ∧ Below w.heap.size w w' := by
  have hb : Below w.heap.size w (w.alloc (.cells #[v1, v2] 37)) := (Below.refl _ _).alloc (Nat.le_refl _) _
  have hcat : cat [x, y] = x ++ y := by simp [cat]
  refine (concat_any (G := G) [x, y] 2 w.heap.size 0 2 rfl (by decide) (by rw [hcat]; simpa using hs) ?_).mono ?_
  · intro i z hz
    rcases i with _ | _ | i
    · cases hz; exact ⟨v1, by show (w.alloc (.cells #[v1, v2] 37)).cell? _ = _; rw [cell_of_block (get_new w _)]; rfl, h1.below hb⟩
    · cases hz; exact ⟨v2, by show (w.alloc (.cells #[v1, v2] 37)).cell? _ = _; rw [cell_of_block (get_new w _)]; rfl, h2.below hb⟩
    · simp at hz
  · rintro e w' ⟨v, rfl, hv, hb'⟩
    rw [hcat] at hv
    exact ⟨v, rfl, hv.mono fun k _ hk => by have hk' : w.heap.size + 1 ≤ k := by simpa using hk
                                            unfold From; omega, hb.trans (hb'.mono (by simp))⟩
theorem ten_no {x : UInt8} (h : ((x.toNat : Int) != 10) = true) : some x ≠ some 10 := by
  rintro e
  cases e
  exact absurd h (by decide)
theorem ten_yes {x : UInt8} (h : ((x.toNat : Int) != 10) = false) : x = 10 := by
  have h1 : (x.toNat : Int) = 10 := by simpa using h
  apply UInt8.toNat_inj.1
  show x.toNat = 10
  omega
theorem ten_cells : ∀ i (hi : i < (⟨#[10, 10]⟩ : ByteArray).size), (#[.int .u8 10, .int .u8 10] : Array Value)[i]? = some (.int .u8 ((⟨#[10, 10]⟩ : ByteArray)[i].toNat : Int)) := by
  intro i hi
  have h2 : i < 2 := hi
  rcases i with _ | _ | i
  all_goals first | rfl | omega
set_option maxHeartbeats 400000 in
theorem happend_at {B f m c : Nat} {w : World} {s : FsSt} {F : Nat → Prop} (h : HF B f m c w s) (p : ByteArray) (t : Bool) {v : Value} {l : List HL} (hl : Lines F w v l) (hf : Fit l) :
    Calls Tryz.prog 11 #[fsPtr f, .string p, .bool t, v] w (StPost f m c (From B) w (s.histAppend p t l)) := by
  have hfm := format_at t hl hf.len hf.txt hf.wt_ h.vars.vars.ev h.vars.vars.pow
  have HF0 := Lib.hid h
  have HFT := Lib.hid hf
  obtain ⟨a0, c0, rfl, -, -⟩ := hl.form
  clear h hl hf
  by_cases hc : checkE l = 0
  case neg =>
    have e0 : s.histAppend p t l = (checkE l, s) := by unfold FsSt.histAppend; rw [if_pos hc]
    rw [e0]
    have HC := Lib.hid hc
    have hc' : (checkE l != 0) = true := by simpa using hc
    clear hc e0
    go_enter Tryz.func11, Tryz.ntmps11
    go_wp2_with (go_at_call 24; go_must (refine hfm.mono ?_); rintro e w1 ⟨v1, rfl, hb1, -, hv1⟩; have HB1 := Lib.hid hb1; clear hb1; have hv := hv1 HC.out; clear hv1; subst hv)
    go_ret
    exact ⟨rfl, (HF0.out.below HB1.out).at_, Turns.of_below HB1.out⟩
  have HC := Lib.hid hc
  have HWF := Lib.hid (HF0.out.wf.read p)
  have HFS := Lib.hid (HFT.out.format hc t)
  clear hc
  by_cases hz : (s.read p).1.size = 0
  · have HZ := Lib.hid hz
    clear hz
    go_enter Tryz.func11, Tryz.ntmps11
    go_wp2_with (first
      | (go_at_call 24; go_must (refine hfm.mono ?_); rintro e w1 ⟨v1, rfl, hb1, hv1, -⟩; have H1 := Lib.hid (HF0.out.below hb1); have HV1 := Lib.hid (hv1 HC.out).bytes; have HB1 := Lib.hid hb1; have hr := read_at H1.out.at_ p (H1.out.wf.at_size p); clear hb1 hv1; rw [HC.out])
      | (go_at_call 26; go_must (refine hr.mono ?_); rintro e w2 ⟨v2, rfl, hv2, h2, t2⟩; obtain ⟨a2, c2, rfl⟩ := hv2.len; rw [HZ.out]; have H2 := Lib.hid (H1.out.turn t2 h2 HWF.out.1); have T2 := Lib.hid t2; have hap := Append_at H2.out.at_ p v1 _ (HV1.out.kept3 H1.out.at_ t2) (Nat.le_trans HFS.out (by decide)) H2.out.wf.keep (Nat.le_trans (H2.out.wf.getD p) (by decide)); clear h2 t2 hv2)
      | (go_at_call 28; go_must (refine hap.mono ?_); rintro e w3 ⟨rfl, h3, t3⟩; have H3 := Lib.hid (h3.again H2.out.size H2.out.ml); have T3 := Lib.hid ((Turns.lift HB1.out T2.out).trans t3); clear h3 t3))
    all_goals first
      | (have hb := and_none (by assumption : ((s.read p).2.1 != 0) = true ∧ ((s.read p).2.1 != 4) = true)
         go_ret
         rw [append_bad HC.out hb]
         exact ⟨rfl, H2.out.at_, Turns.lift HB1.out T2.out⟩)
      | (have ho : (s.read p).2.1 = 0 ∨ (s.read p).2.1 = 4 := by first | exact .inl (by assumption) | exact or_none (by assumption)
         have hl := len_zero (by assumption)
         go_ret
         rw [append_nil HC.out ho hl]
         exact ⟨rfl, H2.out.at_, Turns.lift HB1.out T2.out⟩)
      | (have ho : (s.read p).2.1 = 0 ∨ (s.read p).2.1 = 4 := by first | exact .inl (by assumption) | exact or_none (by assumption)
         have hl := len_some (by assumption)
         go_ret
         rw [append_eq HC.out ho hl, addL_no (fun _ e => absurd (list_none HZ.out) e)]
         exact ⟨rfl, H3.out, T3.out⟩)
  · obtain ⟨N, hN⟩ : ∃ N, (s.read p).1.size = N + 1 := ⟨_, (Nat.succ_pred_eq_of_ne_zero hz).symm⟩
    obtain ⟨x, hx, hlast⟩ := last_of hN
    have hNb : N ≤ 1048576 := by have := HWF.out.2; omega
    have HX := Lib.hid hx
    have HLA := Lib.hid hlast
    have HN := Lib.hid hN
    have HZ := Lib.hid hz
    clear hz hN hx hlast
    go_enter Tryz.func11, Tryz.ntmps11
    go_wp2_with (first
      | (go_at_call 24; go_must (refine hfm.mono ?_); rintro e w1 ⟨v1, rfl, hb1, hv1, -⟩; have H1 := Lib.hid (HF0.out.below hb1); have hv1' := (hv1 HC.out).bytes; obtain ⟨a1, c1, rfl⟩ := hv1'.len; have HV1 := Lib.hid hv1'; have HB1 := Lib.hid hb1; have hr := read_at H1.out.at_ p (H1.out.wf.at_size p); clear hb1 hv1 hv1'; rw [HC.out])
      | (go_at_call 26; go_must (refine hr.mono ?_); rintro e w2 ⟨v2, rfl, hv2, h2, t2⟩; obtain ⟨b2, o2, c2, rfl, -, -, hce⟩ := bytes_get hv2 HZ.out; rw [HN.out]; have hcx := hce N x HX.out; clear hce; have H2 := Lib.hid (H1.out.turn t2 h2 HWF.out.1); have T2 := Lib.hid t2; have HV2 := Lib.hid (HV1.out.kept3 H1.out.at_ t2); have hcc := concat_here (w := w2.alloc (.cells #[.int .u8 10, .int .u8 10] 5)) (G := fun _ => True) (v1 := .slice (some ⟨w2.heap.size, 0, none⟩) 2 2) (v2 := .slice a1 (bs (formatL t l)).size c1) (x := ⟨#[10, 10]⟩) ((bytes_lit (s := ⟨#[10, 10]⟩) ten_cells).mono fun _ _ _ => trivial) ((HV2.out.below ((Below.refl _ _).alloc (Nat.le_refl _) _)).mono fun _ _ _ => trivial) (Nat.le_trans (Nat.add_le_add_left HFS.out 2) (by decide)); rw [size_alloc] at hcc; have hap := Append_at H2.out.at_ p (.slice a1 (bs (formatL t l)).size c1) _ HV2.out (Nat.le_trans HFS.out (by decide)) H2.out.wf.keep (Nat.le_trans (H2.out.wf.getD p) (by decide)); clear h2 t2 hv2)
      | (go_at_call 27; go_must (refine hcc.mono ?_); rintro e w4 ⟨v4, rfl, hv4, hb4⟩; have hb5 := ((Below.refl w2.heap.size w2).alloc (Nat.le_refl _) (.cells #[.int .u8 10, .int .u8 10] 5)).trans (hb4.mono (by simp)); have HB5 := Lib.hid hb5; have HV5 := Lib.hid hv4; have H5 := Lib.hid (H2.out.below hb5); have hap5 := Append_at H5.out.at_ p v4 _ hv4 (by rw [ByteArray.size_append]; exact Nat.le_trans (Nat.add_le_add_left HFS.out 2) (by decide)) H5.out.wf.keep (Nat.le_trans (H5.out.wf.getD p) (by decide)); clear hb4 hb5 hv4)
      | (go_at_call 28; have hx5 := H5.out; go_must (refine hap5.mono ?_); rintro e w6 ⟨rfl, h6, t6⟩; have H6 := Lib.hid (h6.again H5.out.size H5.out.ml); have T6 := Lib.hid (((Turns.lift HB1.out T2.out).trans (Turns.of_below HB5.out)).trans t6); clear h6 t6)
      | (go_at_call 28; go_must (refine hap.mono ?_); rintro e w3 ⟨rfl, h3, t3⟩; have H3 := Lib.hid (h3.again H2.out.size H2.out.ml); have T3 := Lib.hid ((Turns.lift HB1.out T2.out).trans t3); clear h3 t3))
    all_goals first
      | (have hb := and_none (by assumption : ((s.read p).2.1 != 0) = true ∧ ((s.read p).2.1 != 4) = true)
         go_ret
         rw [append_bad HC.out hb]
         exact ⟨rfl, H2.out.at_, Turns.lift HB1.out T2.out⟩)
      | (have ho : (s.read p).2.1 = 0 ∨ (s.read p).2.1 = 4 := by first | exact .inl (by assumption) | exact or_none (by assumption)
         have hl := len_zero (by assumption)
         go_ret
         rw [append_nil HC.out ho hl]
         exact ⟨rfl, H2.out.at_, Turns.lift HB1.out T2.out⟩)
      | (have ho : (s.read p).2.1 = 0 := by assumption
         have hl := len_some (by assumption)
         have hx := ten_no (by assumption : ((x.toNat : Int) != 10) = true)
         go_ret
         rw [append_eq HC.out (.inl ho) hl, addL_yes ho (fun e => by have := HLA.out; rw [e] at this; cases this) (by rw [HLA.out]; exact hx), bs_add]
         exact ⟨rfl, H6.out, T6.out⟩)
      | (have ho : (s.read p).2.1 = 0 := by assumption
         have hl := len_some (by assumption)
         have hx := ten_yes (by assumption : ((x.toNat : Int) != 10) = false)
         go_ret
         rw [append_eq HC.out (.inl ho) hl, addL_no (fun _ _ => by rw [HLA.out, hx])]
         exact ⟨rfl, H3.out, T3.out⟩)
      | (have ho := or_none (by assumption : ((s.read p).2.1 != 0) = false ∨ ((s.read p).2.1 != 4) = false)
         have hne : ¬ (s.read p).2.1 = 0 := by assumption
         have hl := len_some (by assumption)
         go_ret
         rw [append_eq HC.out ho hl, addL_no (fun e => absurd e hne)]
         exact ⟨rfl, H3.out, T3.out⟩)
end Go.Proofs.YtofkdmmoheffbaaGreatDoor
