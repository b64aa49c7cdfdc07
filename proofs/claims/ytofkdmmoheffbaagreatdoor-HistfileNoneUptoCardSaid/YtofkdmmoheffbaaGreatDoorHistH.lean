/- A history's file in a file system: Read, Write, Truncate. -/
import Derived.Test.YtofkdmmoheffbaaGreatDoorHistG
namespace Go.Proofs.YtofkdmmoheffbaaGreatDoor
open Go Go.RowKit Go.Shelf Go.Lany
set_option maxRecDepth 100000
theorem FsSt.Wf.at_size {s : FsSt} (h : s.Wf) (p : ByteArray) : ∀ b, aget s.files p = some b → b.size ≤ 140737488355328 := fun b e => Nat.le_trans (h.size p b e) (by decide)
def HReadPost (B f m c : Nat) (w : World) (r : List HL × Int × FsSt) (e : Ending) (w' : World) : Prop :=
  ∃ v, e = .returned (.tuple #[v, .int .i64 r.2.1]) ∧ Lines (fun k => w.heap.size ≤ k) w' v r.1 ∧ FsAt w' f m c (From B) r.2.2 ∧ Turns (Own3 f m c) w w'
theorem hist_read_ok {s : FsSt} {p : ByteArray} (h : ((s.read p).2.1 != 0) = false) : s.histRead p = (parseL (s.read p).1.data.toList, 0, (s.read p).2.2) := by
  unfold FsSt.histRead; rw [if_pos (eq_zero h)]
theorem hist_read_bad {s : FsSt} {p : ByteArray} (h : ((s.read p).2.1 != 0) = true) : s.histRead p = ([], (s.read p).2.1, (s.read p).2.2) := by
  unfold FsSt.histRead; rw [if_neg (ne_zero h)]
theorem lines_nil (F : Nat → Prop) (w : World) : Lines F w (.slice none 0 0) [] := .inl ⟨rfl, rfl⟩
set_option maxHeartbeats 1000000 in
theorem hread_at {B f m c : Nat} {w : World} {s : FsSt} (h : HF B f m c w s) (p : ByteArray) :
    Calls Tryz.prog 12 #[fsPtr f, .string p] w (HReadPost B f m c w (s.histRead p)) := by
  have hr := read_at h.at_ p (h.wf.at_size p)
  have hwf := h.wf.read p
  have HF0 := Lib.hid h
  have HWF := Lib.hid hwf
  clear h hwf
  go_enter Tryz.func12, Tryz.ntmps12
  go_wp2_with (first
    | (go_at_call 26; go_must (refine hr.mono ?_); rintro e w1 ⟨v1, rfl, hv1, h1, t1⟩; have H1 := Lib.hid (HF0.out.turn t1 h1 HWF.out.1); have T1 := Lib.hid t1; have hpa := parse_at (hv1.mono fun k hk _ => hk) (Nat.le_trans HWF.out.2 (by decide)) H1.out.vars.vars.ev; have HV1 := Lib.hid hv1; clear h1 t1 hv1)
    | (go_at_call 25; go_must (refine hpa.mono ?_); rintro e w2 ⟨v2, rfl, hl2, hb2⟩; have HL2 := Lib.hid hl2.lines; have HB2 := Lib.hid hb2; clear hl2 hb2))
  · go_ret2
    rw [hist_read_bad (by assumption)]
    exact ⟨_, rfl, lines_nil _ _, H1.out.at_, T1.out⟩
  · have e0 : (s.read p).2.1 = 0 := eq_zero (by assumption)
    go_ret2
    rw [hist_read_ok (by assumption)]
    exact ⟨_, rfl, HL2.out.mono fun k _ hk => Nat.le_trans T1.out.size hk, (H1.out.below HB2.out).at_, T1.out.trans (Turns.of_below HB2.out)⟩
/-- Lines that fit. -/
structure Fit (l : List HL) : Prop where
  len : l.length ≤ 1048576
  txt : ∀ x ∈ l, x.1.size ≤ 1048576
  wt_ : wt l ≤ 1099511627776
theorem Fit.format {l : List HL} (h : Fit l) (hc : checkE l = 0) (t : Bool) : (bs (formatL t l)).size ≤ 1099511627776 := by
  rw [bs_size]; exact Nat.le_trans (formatL_len (checkE_zero hc)) h.wt_
set_option maxHeartbeats 1000000 in
theorem hwrite_at {B f m c : Nat} {w : World} {s : FsSt} {F : Nat → Prop} (h : HF B f m c w s) (p : ByteArray) (hp : p.size ≤ 1099511627776) (t : Bool) {v : Value} {l : List HL} (hl : Lines F w v l) (hf : Fit l) :
    Calls Tryz.prog 20 #[fsPtr f, .string p, .bool t, v] w (StPost f m c (From B) w (s.histWrite p t l)) := by
  have hfm := format_at t hl hf.len hf.txt hf.wt_ h.vars.vars.ev h.vars.vars.pow
  have HF0 := Lib.hid h
  have HFT := Lib.hid hf
  clear h hl hf
  by_cases hc : checkE l = 0
  · rw [show s.histWrite p t l = s.histPut p (bs (formatL t l)) by unfold FsSt.histWrite; rw [if_pos hc]]
    have HC := Lib.hid hc
    clear hc
    go_enter Tryz.func20, Tryz.ntmps20
    go_wp2_with (first
      | (go_at_call 24; go_must (refine hfm.mono ?_); rintro e w1 ⟨v1, rfl, hb1, hv1, -⟩; have hpu := hput_at (HF0.out.below hb1) p hp (hv1 HC.out).bytes (HFT.out.format HC.out t); have HB1 := Lib.hid hb1; clear hb1 hv1; rw [HC.out])
      | (go_at_call 29; go_must (refine hpu.mono ?_); rintro e w2 ⟨rfl, h2, t2⟩; have H2 := Lib.hid h2; have T2 := Lib.hid t2; clear h2 t2))
    go_ret
    exact ⟨rfl, H2.out, Turns.lift HB1.out T2.out⟩
  · have e0 : s.histWrite p t l = (checkE l, s) := by unfold FsSt.histWrite; rw [if_neg hc]
    rw [e0]
    have HC := Lib.hid hc
    have hc' : (checkE l != 0) = true := by simpa using hc
    clear hc e0
    go_enter Tryz.func20, Tryz.ntmps20
    go_wp2_with (go_at_call 24; go_must (refine hfm.mono ?_); rintro e w1 ⟨v1, rfl, hb1, -, hv1⟩; have HB1 := Lib.hid hb1; clear hb1; have hv := hv1 HC.out; clear hv1; subst hv)
    go_ret
    exact ⟨rfl, (HF0.out.below HB1.out).at_, Turns.of_below HB1.out⟩
theorem trunc_keep {s : FsSt} {p : ByteArray} {n : Int} (hn : ¬ n < 0) (h : ((s.read p).2.1 != 0) = false) (hk : ((parseL (s.read p).1.data.toList).length : Int) ≤ n) : s.histTruncate p n = (0, (s.read p).2.2) := by
  unfold FsSt.histTruncate; rw [if_neg hn, if_neg (by simpa using h), if_pos hk]
theorem trunc_cut {s : FsSt} {p : ByteArray} {n : Int} (hn : ¬ n < 0) (h : ((s.read p).2.1 != 0) = false) (hk : ¬ ((parseL (s.read p).1.data.toList).length : Int) ≤ n) : s.histTruncate p n = (s.read p).2.2.histPut p (bs (lastL (s.read p).1.data.toList n)) := by
  unfold FsSt.histTruncate; rw [if_neg hn, if_neg (by simpa using h), if_neg hk]
theorem trunc_bad {s : FsSt} {p : ByteArray} {n : Int} (hn : ¬ n < 0) (h : ((s.read p).2.1 != 0) = true) : s.histTruncate p n = ((s.read p).2.1, (s.read p).2.2) := by
  unfold FsSt.histTruncate; rw [if_neg hn, if_pos (ne_zero h)]
theorem skipL_le : ∀ (k m : Nat) (L : List UInt8), L.length ≤ k → (skipL m L).length ≤ L.length
  | 0, m, L, h => by
    have h0 : L = [] := List.length_eq_zero_iff.1 (Nat.le_zero.1 h)
    rw [h0, skipL_nil]; exact Nat.le_refl _
  | k + 1, m, L, h => by
    by_cases hl : L = []
    · rw [hl, skipL_nil]; exact Nat.le_refl _
    · by_cases hm : m = 0
      · rw [hm, skipL_zero]; exact Nat.le_refl _
      · rw [skipL_step hl hm]
        have := rest_length hl
        exact Nat.le_trans (skipL_le k _ _ (by omega)) (Nat.le_of_lt this)
theorem skipL_length (m : Nat) (L : List UInt8) : (skipL m L).length ≤ L.length := skipL_le _ m L (Nat.le_refl _)
theorem lastL_length (L : List UInt8) (n : Int) : (lastL L n).length ≤ L.length := by
  unfold lastL
  split
  · simp
  · exact skipL_length _ _
set_option maxHeartbeats 1000000 in
theorem htrunc_at {B f m c : Nat} {w : World} {s : FsSt} (h : HF B f m c w s) (p : ByteArray) (hp : p.size ≤ 1099511627776) (n : Int) (hn : -9223372036854775808 ≤ n ∧ n ≤ 9223372036854775807) :
    Calls Tryz.prog 14 #[fsPtr f, .string p, .int .i64 n] w (StPost f m c (From B) w (s.histTruncate p n)) := by
  by_cases hneg : n < 0
  · rw [show s.histTruncate p n = (1, s) by unfold FsSt.histTruncate; rw [if_pos hneg]]
    go_enter Tryz.func14, Tryz.ntmps14
    go_wp2
    go_ret
    exact ⟨rfl, h.at_, Turns.refl _ _⟩
  have hr := read_at h.at_ p (h.wf.at_size p)
  have hwf := h.wf.read p
  have HF0 := Lib.hid h
  have HWF := Lib.hid hwf
  have HN := Lib.hid hn
  clear h hwf hn
  go_enter Tryz.func14, Tryz.ntmps14
  go_wp2_with (first
    | (go_at_call 26; go_must (refine hr.mono ?_); rintro e w1 ⟨v1, rfl, hv1, h1, t1⟩; have H1 := Lib.hid (HF0.out.turn t1 h1 HWF.out.1); have T1 := Lib.hid t1; have hpa := parse_at (hv1.mono fun k hk _ => hk) (Nat.le_trans HWF.out.2 (by decide)) H1.out.vars.vars.ev; have HV1 := Lib.hid hv1; clear h1 t1 hv1)
    | (go_at_call 25; go_must (refine hpa.mono ?_); rintro e w2 ⟨v2, rfl, hl2, hb2⟩; obtain ⟨a2, c2, rfl⟩ := hl2.form; have H2 := Lib.hid (H1.out.below hb2); have T2 := Lib.hid (T1.out.trans (Turns.of_below hb2)); have hla := last_at ((HV1.out.below hb2).mono fun k hk _ => hk) (Nat.le_trans HWF.out.2 (by decide)) n HN.out H2.out.vars.vars.ev; clear hl2 hb2)
    | (go_at_call 30; go_must (refine hla.mono ?_); rintro e w3 ⟨v3, rfl, hv3, hb3⟩; have T3 := Lib.hid (T2.out.trans (Turns.of_below hb3)); have hpu := hput_at (H2.out.below hb3) p hp hv3 (by rw [bs_size]; exact Nat.le_trans (lastL_length _ _) (Nat.le_trans (by simpa using HWF.out.2) (by decide))); clear hv3 hb3)
    | (go_at_call 29; go_must (refine hpu.mono ?_); rintro e w4 ⟨rfl, h4, t4⟩; have H4 := Lib.hid h4; have T4 := Lib.hid (T3.out.trans t4); clear h4 t4))
  · go_ret
    rw [trunc_bad (by omega) (by assumption)]
    exact ⟨rfl, H1.out.at_, T1.out⟩
  · have hkeep : ((parseL (s.read p).1.data.toList).length : Int) ≤ n := by first | assumption | omega
    have hok : ((s.read p).2.1 != 0) = false := by assumption
    go_ret
    rw [trunc_keep (by omega) hok hkeep]
    exact ⟨rfl, H2.out.at_, T2.out⟩
  · have hok : ((s.read p).2.1 != 0) = false := by assumption
    have hcut : ¬ ((parseL (s.read p).1.data.toList).length : Int) ≤ n := by first | assumption | omega
    go_ret
    rw [trunc_cut (by omega) hok hcut]
    exact ⟨rfl, H4.out, T4.out⟩
end Go.Proofs.YtofkdmmoheffbaaGreatDoor
