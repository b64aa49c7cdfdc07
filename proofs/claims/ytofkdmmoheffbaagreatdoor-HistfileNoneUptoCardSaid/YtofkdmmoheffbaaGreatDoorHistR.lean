/- The last lines of bytes: the document's. -/
import Derived.Test.YtofkdmmoheffbaaGreatDoorHistQ
namespace Go.Proofs.YtofkdmmoheffbaaGreatDoor
open Go Go.RowKit Go.Shelf Go.Lany
set_option maxRecDepth 100000
/-- A call's answer is a row of bytes of its own. -/
def OwnPost (L : List UInt8) (w : World) (e : Ending) (w' : World) : Prop := ∃ v, e = .returned v ∧ OwnU8 w.heap.size w' v L ∧ Below w.heap.size w w'
theorem OwnU8.bytes {base : Nat} {w : World} {v : Value} {L : List UInt8} (h : OwnU8 base w v L) : Bytes (fun k => base ≤ k) w v (bs L) := by
  have h' : w.ownsRow base 5 1 v (bs L).size (byteCells (bs L)) := by rw [bs_size]; exact h
  have := bytes_of_row h'
  exact this
theorem lastL_pos {L : List UInt8} {n : Int} (h : ¬ n ≤ 0) : lastL L n = skipL ((parseL L).length - n.toNat) L := by unfold lastL; rw [if_neg h]
theorem skipL_over {L : List UInt8} {m : Nat} (h : m = 0) : skipL m L = L := by rw [h, skipL_zero]
set_option maxHeartbeats 4000000 in
theorem lastR_at {F : Nat → Prop} {w : World} {v : Value} {s : ByteArray} (h : Bytes F w v s) (hs : s.size ≤ 1099511627776) (n : Int) (hn : -9223372036854775808 ≤ n ∧ n ≤ 9223372036854775807) :
    Calls Tryz.prog 67 #[v, .int .i64 n] w (OwnPost (lastL s.data.toList n) w) := by
  obtain ⟨a, cap, rfl⟩ := h.len
  have hpr := parseR_at h hs
  have hl : s.data.toList.length = s.size := by simp
  obtain ⟨L, hL⟩ : ∃ L, L = s.data.toList := ⟨_, rfl⟩
  rw [← hL] at hl hpr ⊢
  have HLS := Lib.hid hL
  have HLEN := Lib.hid hl
  have HBY := Lib.hid h
  have hpl := parseT_length_le L 0
  rw [hl] at hpl
  have hn1 := hn.1
  have hn2 := hn.2
  clear h hL hl hn
  by_cases h0 : n ≤ 0
  · have HE : Hid (lastL L n = []) := Lib.hid (by unfold lastL; rw [if_pos h0])
    go_enter Tryz.func67, Tryz.ntmps67
    go_wp2
    go_ret
    rw [HE.out]
    exact ⟨_, rfl, World.ownsRow_nil _ _ _ _, Below.refl _ _⟩
  · have HE := Lib.hid (lastL_pos (L := L) h0)
    obtain ⟨N, hN⟩ : ∃ N, N = (parseL L).length := ⟨_, rfl⟩
    have hNl : N ≤ s.size := by rw [hN]; exact hpl
    have HN := Lib.hid hN
    clear hN hpl
    go_enter Tryz.func67, Tryz.ntmps67
    go_wp2_with (go_at_call 63; refine hpr.mono ?_; rintro e w1 ⟨v1, rfl, hr1, hb1⟩; obtain ⟨a1, c1, rfl⟩ := hr1.form; rw [← HN.out]; have HB1 := Lib.hid hb1; clear hr1 hb1)
    go_loopw [5, 6] (fun v5 v6 wr => ∃ (p : Nat) (q : Int), p ≤ s.size ∧ v6 = .int .i64 p ∧ v5 = .int .i64 q ∧ -9223372036854775808 ≤ q ∧ q ≤ 1099511627776 ∧ skipL q.toNat (L.drop p) = lastL L n ∧ wr = w1) (fun _ i _ => s.size - (intOf i).toNat)
    case atStart => 
      refine ⟨0, (N : Int) - n, Nat.zero_le _, rfl, rfl, by omega, by omega, ?_, rfl⟩
      rw [HE.out, ← HN.out, show ((N : Int) - n).toNat = N - n.toNat by omega]; rfl
    case round =>
      obtain ⟨p, q, hp, rfl, rfl, hq1, hq2, hsk, rfl⟩ := hrel
      have HSK := Lib.hid hsk
      clear hsk
      by_cases hgo : p < s.size ∧ 0 < q
      · obtain ⟨hlt, hq0⟩ := hgo
        have hln := line_at (HBY.out.below HB1.out) (by omega) hlt
        have hpl : p < L.length := by rw [HLEN.out]; exact hlt
        have hng := nextAt_gt hpl
        rw [← HLS.out] at hln
        have hne := drop_ne hpl
        have hDR := drop_next (L := L) p
        have hnx : min (p + (first (L.drop p)).length + 1) s.size = nextAt L p := by unfold nextAt; rw [HLEN.out]
        rw [hnx] at hln
        have hfl : (first (L.drop p)).length ≤ s.size := by
          have := first_drop_le (L := L) (p := p)
          rw [HLEN.out] at this
          omega
        have hstep := skipL_step hne (m := q.toNat) (by omega)
        rw [HSK.out] at hstep
        obtain ⟨D, hD⟩ : ∃ D, D = L.drop p := ⟨_, rfl⟩
        obtain ⟨r, hr⟩ : ∃ r, r = nextAt L p := ⟨_, rfl⟩
        rw [← hD] at hln hDR hfl hstep
        rw [← hr] at hln hDR hng
        rw [← hDR] at hstep
        rw [HLEN.out] at hng
        have hr1 := hng.1
        have hr2 := hng.2
        have hst := stampR_at (bs (first D)) (by rw [bs_size]; omega) wr
        rw [stampB_bs] at hst
        have HST := Lib.hid hstep
        clear hpl hng hne hDR hnx hD hr hstep
        have harm : True := trivial
        cases hsn : stampL (first D) with
        | some n1 =>
          rw [hsn] at hst
          have HP : Hid (skipL q.toNat (L.drop r) = lastL L n) := Lib.hid (by rw [HST.out, show proper (first D) = false by simp [proper, hsn]]; rfl)
          clear hsn
          go_wp2_with (first
            | (go_at_call 90; refine hln.mono ?_; rintro e w2 ⟨rfl, rfl⟩)
            | (go_at_call 33; refine hst.mono ?_; rintro e w2 ⟨rfl, rfl⟩))
          exact ⟨⟨r, q, hr2, rfl, rfl, hq1, hq2, HP.out, trivial⟩, by simp [intOf]; omega⟩
        | none =>
          rw [hsn] at hst
          by_cases he : first D = []
          · have HP : Hid (skipL q.toNat (L.drop r) = lastL L n) := Lib.hid (by rw [HST.out, show proper (first D) = false by simp [proper, he]]; rfl)
            have he' : (bs (first D)).toList.isEmpty = true := by rw [ByteArray.toList_eq, bs_list, he]; rfl
            clear hsn he
            go_wp2_with (first
              | (go_at_call 90; refine hln.mono ?_; rintro e w2 ⟨rfl, rfl⟩)
              | (go_at_call 33; refine hst.mono ?_; rintro e w2 ⟨rfl, rfl⟩))
            exact ⟨⟨r, q, hr2, rfl, rfl, hq1, hq2, HP.out, trivial⟩, by simp [intOf]; omega⟩
          · have HP : Hid (skipL (q - 1).toNat (L.drop r) = lastL L n) := Lib.hid (by rw [HST.out, show proper (first D) = true by simp [proper, hsn, he], if_pos rfl, show (q - 1).toNat = q.toNat - 1 by omega])
            have he' : (bs (first D)).toList.isEmpty = false := by
              rw [ByteArray.toList_eq, bs_list]
              cases h : first D with
              | nil => exact absurd h he
              | cons _ _ => rfl
            clear hsn he
            go_wp2_with (first
              | (go_at_call 90; refine hln.mono ?_; rintro e w2 ⟨rfl, rfl⟩)
              | (go_at_call 33; refine hst.mono ?_; rintro e w2 ⟨rfl, rfl⟩))
            exact ⟨⟨r, q - 1, hr2, rfl, rfl, by omega, by omega, HP.out, trivial⟩, by simp [intOf]; omega⟩
      · have HP : Hid (L.drop p = lastL L n) := Lib.hid (by
          rw [← HSK.out]
          by_cases hlt : p < s.size
          · rw [show q.toNat = 0 by omega, skipL_zero]
          · rw [List.drop_eq_nil_of_le (by rw [HLEN.out]; omega), skipL_nil])
        by_cases hlt : p < s.size
        · have hq0 : ¬ 0 < q := fun e => hgo ⟨hlt, e⟩
          obtain ⟨b, off, cap', e, hcap, -, -⟩ := bytes_get HBY.out (by omega)
          cases e
          have hp' := bytes_part (HBY.out.below HB1.out) (p := p) (m := s.size - p) (D := L.drop p) (by rw [← HLS.out, List.take_of_length_le (by rw [List.length_drop, HLEN.out]; exact Nat.le_refl _)]) (by rw [List.length_drop, HLEN.out]) (by omega)
          have HPT := Lib.hid hp'
          have hdl : (bs (L.drop p)).size = s.size - p := by rw [bs_size, List.length_drop, HLEN.out]
          have HDL := Lib.hid hdl
          clear hp' hgo hdl
          go_wp2_with (at_builtin; go_must (refine wpList_append_bytes rfl _ _ rfl w.heap.size (.slice none 0 0) (.slice (some ⟨b, off + p, none⟩) (s.size - p) (cap - p)) 0 ByteArray.empty (bs (L.drop p)) F rfl rfl (World.ownsRow_nil _ _ _ _) HPT.out (by rw [HDL.out]; omega) HB1.out.size ?_); intro v' w' hown' hg')
          go_ret
          refine ⟨v', rfl, ?_, HB1.out.trans (Below.grown (Below.refl _ _) hg' HB1.out.size fun k hk => by cases hk)⟩
          rw [← HP.out]
          rw [ByteArray.empty_append, Nat.zero_add, bs_size] at hown'
          exact hown'
        · obtain rfl : p = s.size := by omega
          have HP2 : Hid (([] : List UInt8) = lastL L n) := Lib.hid (by rw [← HP.out, List.drop_eq_nil_of_le (by rw [HLEN.out]; exact Nat.le_refl _)])
          clear hgo
          cases a with
          | none =>
            have hz : s.size = 0 ∧ cap = 0 := by
              rcases HBY.out with ⟨h, h0⟩ | ⟨b', off', sp', cap', hcap, e, h⟩
              · injection h with _ h2 h3
                exact ⟨h2, h3⟩
              · cases e
            obtain ⟨hz1, rfl⟩ := hz
            rw [hz1]
            clear hz1
            go_wp2_with (at_builtin; go_must (refine wpList_append_bytes rfl _ _ rfl w.heap.size (.slice none 0 0) (.slice none 0 0) 0 ByteArray.empty ByteArray.empty F rfl rfl (World.ownsRow_nil _ _ _ _) (bytes_nil _ _) (by decide) HB1.out.size ?_); intro v' w' hown' hg')
            go_ret
            exact ⟨v', rfl, by rw [← HP2.out]; exact hown', HB1.out.trans (Below.grown (Below.refl _ _) hg' HB1.out.size fun k hk => by cases hk)⟩
          | some ad =>
            have hcl : s.size ≤ cap := by
              rcases HBY.out with ⟨h, h0⟩ | ⟨b', off', sp', cap', hcap, e, h⟩
              · cases h
              · cases e; exact hcap
            by_cases hc : cap = s.size
            · subst hc
              go_wp2_with (at_builtin; go_must (refine wpList_append_bytes rfl _ _ rfl w.heap.size (.slice none 0 0) (.slice (some ad) 0 0) 0 ByteArray.empty ByteArray.empty F rfl rfl (World.ownsRow_nil _ _ _ _) (.inr ⟨_, _, _, 0, Nat.le_refl _, rfl, .inl rfl⟩) (by decide) HB1.out.size ?_); intro v' w' hown' hg')
              go_ret
              exact ⟨v', rfl, by rw [← HP2.out]; exact hown', HB1.out.trans (Below.grown (Below.refl _ _) hg' HB1.out.size fun k hk => by cases hk)⟩
            · have hc' : s.size < cap := by omega
              go_wp2_with (at_builtin; go_must (refine wpList_append_bytes rfl _ _ rfl w.heap.size (.slice none 0 0) (.slice (some (ad.add s.size)) 0 (cap - s.size)) 0 ByteArray.empty ByteArray.empty F rfl rfl (World.ownsRow_nil _ _ _ _) (.inr ⟨_, _, _, cap - s.size, Nat.zero_le _, rfl, .inl rfl⟩) (by decide) HB1.out.size ?_); intro v' w' hown' hg')
              go_ret
              exact ⟨v', rfl, by rw [← HP2.out]; exact hown', HB1.out.trans (Below.grown (Below.refl _ _) hg' HB1.out.size fun k hk => by cases hk)⟩
end Go.Proofs.YtofkdmmoheffbaaGreatDoor
