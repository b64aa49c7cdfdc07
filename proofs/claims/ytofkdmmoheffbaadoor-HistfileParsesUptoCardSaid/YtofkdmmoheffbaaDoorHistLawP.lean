/- The lines of any bytes: the law. -/
import Derived.Test.YtofkdmmoheffbaaDoorHistV
namespace Go.Proofs.YtofkdmmoheffbaaDoor
open Go Go.RowKit Go.Shelf Go.Lany
set_option maxRecDepth 100000
set_option maxHeartbeats 4000000 in
theorem parses_any {w : World} (hv : Vars w) {v : Value} {s : ByteArray} (h : Bytes (fun k => k < w.heap.size) w v s) (hs : s.size ≤ 1099511627776) (n : Int) (hn : -9223372036854775808 ≤ n ∧ n ≤ 9223372036854775807) (q : ByteArray) (hq : q.size ≤ 140737488351232) :
    Calls Tryd.prog 5 #[v, .int .i64 n, .string q] w (BoolAns true w) := by
  have H := Lib.hid h
  have HV := Lib.hid hv
  have HN := Lib.hid hn
  obtain ⟨a, cap, rfl⟩ := h.len
  have hlen := parseT_length_le s.data.toList 0
  rw [show s.data.toList.length = s.size by simp] at hlen
  have HLEN := Lib.hid hlen
  clear h hv hn hlen
  go_enter Tryd.func5, Tryd.ntmps5
  go_wp2_with (first
    | (go_at_call 15; go_must (refine (stamp_at q hq w HV.out.ev).mono ?_; rintro e w1 ⟨rfl, b1⟩; have B1' := Lib.hid b1; clear b1))
    | (go_at_call 16; refine (stampR_at q hq _).mono ?_; rintro e w2 ⟨rfl, rfl⟩)
    | (go_at_call 8; refine (live_at (HV.out.below B1'.out)).mono ?_; rintro e w3 ⟨rfl, b3⟩; have B3' := Lib.hid (B1'.out.trans (b3.mono B1'.out.size)); clear b3)
    | (go_at_call 13; refine (parse_at ((H.out.below B3'.out).mono fun k _ h => Nat.lt_of_lt_of_le h B3'.out.size) hs (HV.out.below B3'.out).ev).mono ?_; rintro e w4 ⟨v4, rfl, r4, b4⟩; obtain ⟨a4, c4, rfl⟩ := r4.form; have B4' := Lib.hid (B3'.out.trans (b4.mono B3'.out.size)); have R4 := Lib.hid r4.lines; clear r4 b4)
    | (go_at_call 17; refine (parseR_at (H.out.below B4'.out) hs).mono ?_; rintro e w5 ⟨v5, rfl, r5, b5⟩; obtain ⟨a5, c5, rfl⟩ := r5.form; have B5' := Lib.hid (B4'.out.trans (b5.mono B4'.out.size)); have R5 := Lib.hid r5.lines; have R45 := Lib.hid (R4.out.below b5); clear r5 b5)
    | (go_at_call 12; refine (same_at R45.out R5.out (Nat.le_trans HLEN.out hs) (Nat.le_trans HLEN.out hs)).mono ?_; rintro e w6 ⟨rfl, b6⟩; rw [decide_eq_true rfl]; have B6' := Lib.hid (B5'.out.trans (b6.mono B5'.out.size)); clear b6)
    | (go_at_call 14; refine (last_at ((H.out.below B6'.out).mono fun k _ h => Nat.lt_of_lt_of_le h B6'.out.size) hs n HN.out (HV.out.below B6'.out).ev).mono ?_; rintro e w7 ⟨v7, rfl, y7, b7⟩; obtain ⟨a7, c7, rfl⟩ := y7.len; have B7' := Lib.hid (B6'.out.trans (b7.mono B6'.out.size)); have Y7 := Lib.hid y7; clear y7 b7)
    | (go_at_call 18; refine (lastR_at (H.out.below B7'.out) hs n HN.out).mono ?_; rintro e w8 ⟨v8, rfl, y8, b8⟩; obtain ⟨a8, c8, rfl⟩ := y8.form; have B8' := Lib.hid (B7'.out.trans (b8.mono B7'.out.size)); have heq := equal_at (Y7.out.below b8) y8.bytes; rw [bs_size] at heq; clear y8 b8)
    | (go_at_call 9; refine heq.mono ?_; rintro e w9 ⟨rfl, rfl⟩; clear heq))
  go_ret
  exact ⟨rfl, B8'.out⟩
end Go.Proofs.YtofkdmmoheffbaaDoor
