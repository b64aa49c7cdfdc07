/- Lines that are written are read as they were; the last lines of bytes: the law. -/
import Derived.Test.YtofkdmmoheffbaaDoorHistLawF
namespace Go.Proofs.YtofkdmmoheffbaaDoor
open Go Go.RowKit Go.Shelf Go.Lany
set_option maxRecDepth 100000
theorem skipL_length (m : Nat) (L : List UInt8) : (skipL m L).length ≤ L.length := by
  induction hn : L.length using Nat.strongRecOn generalizing L m with
  | _ n ih =>
    subst hn
    by_cases h : L = []
    · rw [h, skipL_nil]; exact Nat.le_refl _
    · by_cases hm : m = 0
      · rw [hm, skipL_zero]; exact Nat.le_refl _
      · rw [skipL_step h hm]
        have hr := rest_length h
        exact Nat.le_trans (ih _ hr _ _ rfl) (Nat.le_of_lt hr)
theorem lastL_length (L : List UInt8) (n : Int) : (lastL L n).length ≤ L.length := by
  unfold lastL
  split
  · simp
  · exact skipL_length _ _
theorem Lines.drop {F : Nat → Prop} {w : World} {b off n cap : Nat} {l : List HL} (h : Lines F w (.slice (some ⟨b, off, none⟩) n cap) l) {m : Nat} (hm : m ≤ n) : Lines F w (.slice (some ⟨b, off + m * 2, none⟩) (n - m) (cap - m)) (l.drop m) := by
  rcases h with ⟨h, -⟩ | ⟨b', off', sp, cap', hc, e, h⟩
  · cases h
  · cases e
    refine .inr ⟨b, off + m * 2, none, cap - m, by rw [List.length_drop]; omega, by rw [List.length_drop], ?_⟩
    rcases h with rfl | ⟨-, hF, cells, e, fr, hb, hcs⟩
    · exact .inl (by simp)
    · refine .inr ⟨rfl, hF, cells, e, fr, hb, fun i x hx => ?_⟩
      rw [List.getElem?_drop] at hx
      obtain ⟨h1, h2⟩ := hcs (m + i) x hx
      have e1 : off + m * 2 + i * 2 = off + (m + i) * 2 := by omega
      rw [e1]
      exact ⟨h1, h2⟩
theorem Lines.some {F : Nat → Prop} {w : World} {v : Value} {l : List HL} (h : Lines F w v l) (hl : l.length ≠ 0) : ∃ b off cap, v = .slice (some ⟨b, off, none⟩) l.length cap ∧ l.length ≤ cap := by
  rcases h with ⟨-, rfl⟩ | ⟨b, off, sp, cap, hc, rfl, h⟩
  · exact absurd rfl hl
  · rcases h with rfl | ⟨rfl, -⟩
    · exact absurd rfl hl
    · exact ⟨b, off, cap, rfl, hc⟩
theorem Lines.void {F : Nat → Prop} {w : World} {ad : Addr} {c : Nat} : Lines F w (.slice (Option.some ad) 0 c) [] := .inr ⟨_, _, _, c, Nat.zero_le _, rfl, .inl rfl⟩
set_option maxHeartbeats 8000000 in
theorem back_any {F : Nat → Prop} {w : World} (hv : Vars w) {u : Value} {l : List HL} (h : Lines F w u l) (hl : l.length ≤ 1048576) (hs : ∀ x ∈ l, x.1.size ≤ 1048576) (hw : wt l ≤ 1099511627776)
    {v : Value} {s : ByteArray} (hb : Bytes (fun k => k < w.heap.size) w v s) (hsz : s.size ≤ 1099511627776) (n : Int) (hn : -9223372036854775808 ≤ n ∧ n ≤ 9223372036854775807) :
    Calls Tryd.prog 4 #[u, v, .int .i64 n] w (BoolAns true w) := by
  have H := Lib.hid h
  have HS := Lib.hid hs
  have HV := Lib.hid hv
  have HB := Lib.hid hb
  have HN := Lib.hid hn
  obtain ⟨a, cap, rfl, -, -⟩ := h.form
  obtain ⟨a', cap', rfl⟩ := hb.len
  have hlen := parseT_length_le s.data.toList 0
  rw [show s.data.toList.length = s.size by simp] at hlen
  obtain ⟨N, hNe⟩ : ∃ N, N = (parseL s.data.toList).length := ⟨_, rfl⟩
  have hNs : N ≤ s.size := by rw [hNe]; exact hlen
  have HNE := Lib.hid hNe
  have hn1 := hn.1
  have hn2 := hn.2
  clear h hs hv hb hn hlen hNe
  obtain ⟨DL, hDL⟩ : ∃ DL, DL = parseL (lastL s.data.toList n) := ⟨_, rfl⟩
  have hdrop : DL = (parseL s.data.toList).drop (N - n.toNat) := by rw [hDL, parse_last, ← HNE.out]
  obtain ⟨P, hP⟩ : ∃ P, P = parseL s.data.toList := ⟨_, rfl⟩
  have hPN : P.length = N := by rw [hP, HNE.out]
  have hDLn : DL.length ≤ 1099511627776 := by rw [hdrop, List.length_drop, ← HNE.out]; omega
  rw [← hP] at hdrop
  have HDL := Lib.hid hDL
  have HDROP := Lib.hid hdrop
  have HPP := Lib.hid hP
  have HPN := Lib.hid hPN
  clear hDL hdrop hP hPN HNE
  have hsl : s.data.toList.length ≤ 1099511627776 := by rw [show s.data.toList.length = s.size by simp]; exact hsz
  by_cases h0 : checkE l = 0
  · have HF : Hid (fmtAns true l = formatL true l) := Lib.hid (by unfold fmtAns; rw [if_pos h0])
    have HPB := Lib.hid (parse_back h0)
    have HLN := Lib.hid (formatL_len (t := true) (checkE_zero h0))
    go_enter Tryd.func4, Tryd.ntmps4
    go_upto_region 6 with (first
      | (go_at_call 6; refine (format_at true H.out hl HS.out hw HV.out.ev HV.out.pow).mono ?_; rintro e w1 hp; obtain ⟨v1, rfl, b1, y1⟩ := hp.get; obtain ⟨a1, c1, rfl⟩ := y1.len; have B1' := Lib.hid b1; have Y1 := Lib.hid y1; clear hp b1 y1)
      | (go_at_call 11; refine (checkR_at (H.out.below B1'.out) hl HS.out).mono ?_; rintro e w2 ⟨rfl, rfl⟩)
      | (go_at_call 8; refine (live_at (HV.out.below B1'.out)).mono ?_; rintro e w3 ⟨rfl, b3⟩; have B3' := Lib.hid (B1'.out.trans (b3.mono B1'.out.size)); have Y3 := Lib.hid (Y1.out.below b3); clear b3)
      | (go_at_call 13; refine (parse_at (Y3.out.mono fun k hk _ => hk) (by rw [bs_size, HF.out]; exact Nat.le_trans HLN.out hw) (HV.out.below B3'.out).ev).mono ?_; rintro e w4 ⟨v4, rfl, r4, b4⟩; rw [bs_list, HF.out, HPB.out] at r4; obtain ⟨a4, c4, rfl⟩ := r4.form; have B4' := Lib.hid (B3'.out.trans (b4.mono B3'.out.size)); have R4 := Lib.hid r4.lines; clear r4 b4)
      | (go_at_call 12; refine (same_at R4.out (H.out.below B4'.out) (by omega) (by omega)).mono ?_; rintro e w5 ⟨rfl, b5⟩; rw [decide_eq_true rfl]; have B5' := Lib.hid (B4'.out.trans (b5.mono B4'.out.size)); clear b5))
    go_upto_region 7 with (go_at_call 13; refine (parse_at ((HB.out.below B5'.out).mono fun k _ h => Nat.lt_of_lt_of_le h B5'.out.size) hsz (HV.out.below B5'.out).ev).mono ?_; rintro e w6 ⟨v6, rfl, r6, b6⟩; rw [← HPP.out] at r6; obtain ⟨a6, c6, rfl⟩ := r6.form; rw [HPN.out]; have B6' := Lib.hid (B5'.out.trans (b6.mono B5'.out.size)); have R6 := Lib.hid r6.lines; clear r6 b6)
    go_upto_region 8 with (first
      | (go_at_call 14; refine (last_at ((HB.out.below B6'.out).mono fun k _ h => Nat.lt_of_lt_of_le h B6'.out.size) hsz n HN.out (HV.out.below B6'.out).ev).mono ?_; rintro e w7 ⟨v7, rfl, y7, b7⟩; obtain ⟨a7, c7, rfl⟩ := y7.len; have B7' := Lib.hid (B6'.out.trans (b7.mono B6'.out.size)); have Y7 := Lib.hid (y7.mono (G := fun k => k < w7.heap.size) fun k hk _ => hk); have R67 := Lib.hid (R6.out.below b7); clear y7 b7)
      | (go_at_call 13; refine (parse_at Y7.out (by rw [bs_size]; exact Nat.le_trans (lastL_length _ _) hsl) (HV.out.below B7'.out).ev).mono ?_; rintro e w8 ⟨v8, rfl, r8, b8⟩; rw [bs_list, ← HDL.out] at r8; obtain ⟨a8, c8, rfl⟩ := r8.form; have B8' := Lib.hid (B7'.out.trans (b8.mono B7'.out.size)); have R8 := Lib.hid r8.lines; have R68 := Lib.hid (R67.out.below b8); clear r8 b8))
    by_cases hN0 : N = 0
    · subst hN0
      have hDe : DL = [] := by rw [HDROP.out]; exact List.drop_eq_nil_of_le (by rw [HPN.out]; omega)
      subst hDe
      have hform : (a6 = none ∧ c6 = 0) ∨ ∃ ad, a6 = some ad := by
        cases a6 with
        | none =>
          refine .inl ⟨rfl, ?_⟩
          rcases R68.out with ⟨e, -⟩ | ⟨b, off, sp, cap, -, e, -⟩
          · injection e
          · cases e
        | some ad => exact .inr ⟨ad, rfl⟩
      by_cases hnn : n ≤ 0
      · have hm1 : max n 0 = 0 := by omega
        rcases hform with ⟨rfl, rfl⟩ | ⟨ad, rfl⟩
        · have HW : Hid (Lines (fun _ => True) w8 (.slice none 0 0) []) := Lib.hid (.inl ⟨rfl, rfl⟩)
          go_wp2_with (go_at_call 12; refine (same_at R8.out HW.out hDLn hDLn).mono ?_; rintro e w9 ⟨rfl, b9⟩; rw [decide_eq_true rfl])
          go_ret
          exact ⟨rfl, B8'.out.trans (b9.mono B8'.out.size)⟩
        · by_cases hc : c6 = 0
          · subst hc
            have HW : Hid (Lines (fun _ => True) w8 (.slice (some ad) 0 0) []) := Lib.hid Lines.void
            go_wp2_with (go_at_call 12; refine (same_at R8.out HW.out hDLn hDLn).mono ?_; rintro e w9 ⟨rfl, b9⟩; rw [decide_eq_true rfl])
            go_ret
            exact ⟨rfl, B8'.out.trans (b9.mono B8'.out.size)⟩
          · have hc' : 0 < c6 := by omega
            have HW : Hid (Lines (fun _ => True) w8 (.slice (some ad) 0 c6) []) := Lib.hid Lines.void
            go_wp2_with (go_at_call 12; refine (same_at R8.out HW.out hDLn hDLn).mono ?_; rintro e w9 ⟨rfl, b9⟩; rw [decide_eq_true rfl])
            go_ret
            exact ⟨rfl, B8'.out.trans (b9.mono B8'.out.size)⟩
      · have hm1 : max n 0 = n := by omega
        have hm2 : max (0 : Int) (0 - n) = 0 := by omega
        have hm3 : max (0 : Int) (-n) = 0 := by omega
        rcases hform with ⟨rfl, rfl⟩ | ⟨ad, rfl⟩
        · have HW : Hid (Lines (fun _ => True) w8 (.slice none 0 0) []) := Lib.hid (.inl ⟨rfl, rfl⟩)
          go_wp2_with (go_at_call 12; refine (same_at R8.out HW.out hDLn hDLn).mono ?_; rintro e w9 ⟨rfl, b9⟩; rw [decide_eq_true rfl])
          go_ret
          exact ⟨rfl, B8'.out.trans (b9.mono B8'.out.size)⟩
        · by_cases hc : c6 = 0
          · subst hc
            have HW : Hid (Lines (fun _ => True) w8 (.slice (some ad) 0 0) []) := Lib.hid Lines.void
            go_wp2_with (go_at_call 12; refine (same_at R8.out HW.out hDLn hDLn).mono ?_; rintro e w9 ⟨rfl, b9⟩; rw [decide_eq_true rfl])
            go_ret
            exact ⟨rfl, B8'.out.trans (b9.mono B8'.out.size)⟩
          · have hc' : 0 < c6 := by omega
            have HW : Hid (Lines (fun _ => True) w8 (.slice (some ad) 0 c6) []) := Lib.hid Lines.void
            go_wp2_with (go_at_call 12; refine (same_at R8.out HW.out hDLn hDLn).mono ?_; rintro e w9 ⟨rfl, b9⟩; rw [decide_eq_true rfl])
            go_ret
            exact ⟨rfl, B8'.out.trans (b9.mono B8'.out.size)⟩
    · obtain ⟨b, off, cc, e, hcc⟩ := R68.out.some (by rw [HPN.out]; exact hN0)
      cases e
      rw [HPN.out] at hcc
      by_cases hnn : n ≤ 0
      · have hm1 : max n 0 = 0 := by omega
        have hm2 : max (0 : Int) (N : Int) = (N : Int) := by omega
        have hDe : DL = [] := by rw [HDROP.out]; exact List.drop_eq_nil_of_le (by rw [HPN.out]; omega)
        subst hDe
        by_cases hc : c6 = N
        · subst hc
          have HW : Hid (Lines (fun _ => True) w8 (.slice (some ⟨b, off, none⟩) 0 0) []) := Lib.hid Lines.void
          go_wp2_with (go_at_call 12; refine (same_at R8.out HW.out hDLn hDLn).mono ?_; rintro e w9 ⟨rfl, b9⟩; rw [decide_eq_true rfl])
          go_ret
          exact ⟨rfl, B8'.out.trans (b9.mono B8'.out.size)⟩
        · have hc' : N < c6 := by omega
          have HW : Hid (Lines (fun _ => True) w8 (.slice (some ⟨b, off + N * 2, none⟩) 0 (c6 - N)) []) := Lib.hid Lines.void
          go_wp2_with (go_at_call 12; refine (same_at R8.out HW.out hDLn hDLn).mono ?_; rintro e w9 ⟨rfl, b9⟩; rw [decide_eq_true rfl])
          go_ret
          exact ⟨rfl, B8'.out.trans (b9.mono B8'.out.size)⟩
      · by_cases hle : (N : Int) ≤ n
        · have hm1 : max n 0 = n := by omega
          have hm2 : max (0 : Int) ((N : Int) - n) = 0 := by omega
          have hDe : DL = P := by rw [HDROP.out, show N - n.toNat = 0 by omega]; rfl
          subst hDe
          have h68 := R68.out
          rw [HPN.out] at h68
          have HW := Lib.hid h68
          clear h68
          go_wp2_with (go_at_call 12; refine (same_at R8.out HW.out hDLn hDLn).mono ?_; rintro e w9 ⟨rfl, b9⟩; rw [decide_eq_true rfl])
          go_ret
          exact ⟨rfl, B8'.out.trans (b9.mono B8'.out.size)⟩
        · obtain ⟨m, hm⟩ : ∃ m : Nat, m = N - n.toNat := ⟨_, rfl⟩
          have hm1 : max n 0 = n := by omega
          have hm2 : max (0 : Int) ((N : Int) - n) = (m : Int) := by omega
          have hmN : m < N := by omega
          have h68 := R68.out
          rw [HPN.out] at h68
          have HW := Lib.hid (h68.drop (m := m) (by omega))
          have hDe : P.drop m = DL := by rw [HDROP.out, hm]
          rw [hDe] at HW
          clear hm h68 hDe
          go_wp2_with (go_at_call 12; refine (same_at R8.out HW.out hDLn hDLn).mono ?_; rintro e w9 ⟨rfl, b9⟩; rw [decide_eq_true rfl])
          go_ret
          exact ⟨rfl, B8'.out.trans (b9.mono B8'.out.size)⟩
  · go_enter Tryd.func4, Tryd.ntmps4
    have hne : (checkE l == 0) = false := beq_eq_false_iff_ne.2 h0
    go_upto_region 6 with (first
      | (go_at_call 6; refine (format_at true H.out hl HS.out hw HV.out.ev HV.out.pow).mono ?_; rintro e w1 hp; obtain ⟨v1, rfl, b1, y1⟩ := hp.get; obtain ⟨a1, c1, rfl⟩ := y1.len; have B1' := Lib.hid b1; have Y1 := Lib.hid y1; clear hp b1 y1)
      | (go_at_call 11; refine (checkR_at (H.out.below B1'.out) hl HS.out).mono ?_; rintro e w2 ⟨rfl, rfl⟩)
      | (go_at_call 8; refine (live_at (HV.out.below B1'.out)).mono ?_; rintro e w3 ⟨rfl, b3⟩; have B3' := Lib.hid (B1'.out.trans (b3.mono B1'.out.size)); have Y3 := Lib.hid (Y1.out.below b3); clear b3))
    go_upto_region 7 with (go_at_call 13; refine (parse_at ((HB.out.below B3'.out).mono fun k _ h => Nat.lt_of_lt_of_le h B3'.out.size) hsz (HV.out.below B3'.out).ev).mono ?_; rintro e w6 ⟨v6, rfl, r6, b6⟩; rw [← HPP.out] at r6; obtain ⟨a6, c6, rfl⟩ := r6.form; rw [HPN.out]; have B6' := Lib.hid (B3'.out.trans (b6.mono B3'.out.size)); have R6 := Lib.hid r6.lines; clear r6 b6)
    go_upto_region 8 with (first
      | (go_at_call 14; refine (last_at ((HB.out.below B6'.out).mono fun k _ h => Nat.lt_of_lt_of_le h B6'.out.size) hsz n HN.out (HV.out.below B6'.out).ev).mono ?_; rintro e w7 ⟨v7, rfl, y7, b7⟩; obtain ⟨a7, c7, rfl⟩ := y7.len; have B7' := Lib.hid (B6'.out.trans (b7.mono B6'.out.size)); have Y7 := Lib.hid (y7.mono (G := fun k => k < w7.heap.size) fun k hk _ => hk); have R67 := Lib.hid (R6.out.below b7); clear y7 b7)
      | (go_at_call 13; refine (parse_at Y7.out (by rw [bs_size]; exact Nat.le_trans (lastL_length _ _) hsl) (HV.out.below B7'.out).ev).mono ?_; rintro e w8 ⟨v8, rfl, r8, b8⟩; rw [bs_list, ← HDL.out] at r8; obtain ⟨a8, c8, rfl⟩ := r8.form; have B8' := Lib.hid (B7'.out.trans (b8.mono B7'.out.size)); have R8 := Lib.hid r8.lines; have R68 := Lib.hid (R67.out.below b8); clear r8 b8))
    by_cases hN0 : N = 0
    · subst hN0
      have hDe : DL = [] := by rw [HDROP.out]; exact List.drop_eq_nil_of_le (by rw [HPN.out]; omega)
      subst hDe
      have hform : (a6 = none ∧ c6 = 0) ∨ ∃ ad, a6 = some ad := by
        cases a6 with
        | none =>
          refine .inl ⟨rfl, ?_⟩
          rcases R68.out with ⟨e, -⟩ | ⟨b, off, sp, cap, -, e, -⟩
          · injection e
          · cases e
        | some ad => exact .inr ⟨ad, rfl⟩
      by_cases hnn : n ≤ 0
      · have hm1 : max n 0 = 0 := by omega
        rcases hform with ⟨rfl, rfl⟩ | ⟨ad, rfl⟩
        · have HW : Hid (Lines (fun _ => True) w8 (.slice none 0 0) []) := Lib.hid (.inl ⟨rfl, rfl⟩)
          go_wp2_with (go_at_call 12; refine (same_at R8.out HW.out hDLn hDLn).mono ?_; rintro e w9 ⟨rfl, b9⟩; rw [decide_eq_true rfl])
          go_ret
          exact ⟨rfl, B8'.out.trans (b9.mono B8'.out.size)⟩
        · by_cases hc : c6 = 0
          · subst hc
            have HW : Hid (Lines (fun _ => True) w8 (.slice (some ad) 0 0) []) := Lib.hid Lines.void
            go_wp2_with (go_at_call 12; refine (same_at R8.out HW.out hDLn hDLn).mono ?_; rintro e w9 ⟨rfl, b9⟩; rw [decide_eq_true rfl])
            go_ret
            exact ⟨rfl, B8'.out.trans (b9.mono B8'.out.size)⟩
          · have hc' : 0 < c6 := by omega
            have HW : Hid (Lines (fun _ => True) w8 (.slice (some ad) 0 c6) []) := Lib.hid Lines.void
            go_wp2_with (go_at_call 12; refine (same_at R8.out HW.out hDLn hDLn).mono ?_; rintro e w9 ⟨rfl, b9⟩; rw [decide_eq_true rfl])
            go_ret
            exact ⟨rfl, B8'.out.trans (b9.mono B8'.out.size)⟩
      · have hm1 : max n 0 = n := by omega
        have hm2 : max (0 : Int) (0 - n) = 0 := by omega
        have hm3 : max (0 : Int) (-n) = 0 := by omega
        rcases hform with ⟨rfl, rfl⟩ | ⟨ad, rfl⟩
        · have HW : Hid (Lines (fun _ => True) w8 (.slice none 0 0) []) := Lib.hid (.inl ⟨rfl, rfl⟩)
          go_wp2_with (go_at_call 12; refine (same_at R8.out HW.out hDLn hDLn).mono ?_; rintro e w9 ⟨rfl, b9⟩; rw [decide_eq_true rfl])
          go_ret
          exact ⟨rfl, B8'.out.trans (b9.mono B8'.out.size)⟩
        · by_cases hc : c6 = 0
          · subst hc
            have HW : Hid (Lines (fun _ => True) w8 (.slice (some ad) 0 0) []) := Lib.hid Lines.void
            go_wp2_with (go_at_call 12; refine (same_at R8.out HW.out hDLn hDLn).mono ?_; rintro e w9 ⟨rfl, b9⟩; rw [decide_eq_true rfl])
            go_ret
            exact ⟨rfl, B8'.out.trans (b9.mono B8'.out.size)⟩
          · have hc' : 0 < c6 := by omega
            have HW : Hid (Lines (fun _ => True) w8 (.slice (some ad) 0 c6) []) := Lib.hid Lines.void
            go_wp2_with (go_at_call 12; refine (same_at R8.out HW.out hDLn hDLn).mono ?_; rintro e w9 ⟨rfl, b9⟩; rw [decide_eq_true rfl])
            go_ret
            exact ⟨rfl, B8'.out.trans (b9.mono B8'.out.size)⟩
    · obtain ⟨b, off, cc, e, hcc⟩ := R68.out.some (by rw [HPN.out]; exact hN0)
      cases e
      rw [HPN.out] at hcc
      by_cases hnn : n ≤ 0
      · have hm1 : max n 0 = 0 := by omega
        have hm2 : max (0 : Int) (N : Int) = (N : Int) := by omega
        have hDe : DL = [] := by rw [HDROP.out]; exact List.drop_eq_nil_of_le (by rw [HPN.out]; omega)
        subst hDe
        by_cases hc : c6 = N
        · subst hc
          have HW : Hid (Lines (fun _ => True) w8 (.slice (some ⟨b, off, none⟩) 0 0) []) := Lib.hid Lines.void
          go_wp2_with (go_at_call 12; refine (same_at R8.out HW.out hDLn hDLn).mono ?_; rintro e w9 ⟨rfl, b9⟩; rw [decide_eq_true rfl])
          go_ret
          exact ⟨rfl, B8'.out.trans (b9.mono B8'.out.size)⟩
        · have hc' : N < c6 := by omega
          have HW : Hid (Lines (fun _ => True) w8 (.slice (some ⟨b, off + N * 2, none⟩) 0 (c6 - N)) []) := Lib.hid Lines.void
          go_wp2_with (go_at_call 12; refine (same_at R8.out HW.out hDLn hDLn).mono ?_; rintro e w9 ⟨rfl, b9⟩; rw [decide_eq_true rfl])
          go_ret
          exact ⟨rfl, B8'.out.trans (b9.mono B8'.out.size)⟩
      · by_cases hle : (N : Int) ≤ n
        · have hm1 : max n 0 = n := by omega
          have hm2 : max (0 : Int) ((N : Int) - n) = 0 := by omega
          have hDe : DL = P := by rw [HDROP.out, show N - n.toNat = 0 by omega]; rfl
          subst hDe
          have h68 := R68.out
          rw [HPN.out] at h68
          have HW := Lib.hid h68
          clear h68
          go_wp2_with (go_at_call 12; refine (same_at R8.out HW.out hDLn hDLn).mono ?_; rintro e w9 ⟨rfl, b9⟩; rw [decide_eq_true rfl])
          go_ret
          exact ⟨rfl, B8'.out.trans (b9.mono B8'.out.size)⟩
        · obtain ⟨m, hm⟩ : ∃ m : Nat, m = N - n.toNat := ⟨_, rfl⟩
          have hm1 : max n 0 = n := by omega
          have hm2 : max (0 : Int) ((N : Int) - n) = (m : Int) := by omega
          have hmN : m < N := by omega
          have h68 := R68.out
          rw [HPN.out] at h68
          have HW := Lib.hid (h68.drop (m := m) (by omega))
          have hDe : P.drop m = DL := by rw [HDROP.out, hm]
          rw [hDe] at HW
          clear hm h68 hDe
          go_wp2_with (go_at_call 12; refine (same_at R8.out HW.out hDLn hDLn).mono ?_; rintro e w9 ⟨rfl, b9⟩; rw [decide_eq_true rfl])
          go_ret
          exact ⟨rfl, B8'.out.trans (b9.mono B8'.out.size)⟩
end Go.Proofs.YtofkdmmoheffbaaDoor
