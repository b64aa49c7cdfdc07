/- The document's lines: line, Parse. -/
import Derived.Test.YtofkdmmoheffbaaGreatDoorHistO
import Derived.WalkLawsBesides
namespace Go.Proofs.YtofkdmmoheffbaaGreatDoor
open Go Go.RowKit Go.Shelf Go.Lany
set_option maxRecDepth 100000
theorem first_ne {L : List UInt8} {j : Nat} {x : UInt8} (hj : j < (first L).length) (hx : L[j]? = some x) : x ≠ 10 := by
  unfold first at hj
  induction L generalizing j with
  | nil => simp at hx
  | cons c L ih =>
    by_cases h : (c != 10) = true
    · rw [List.takeWhile_cons, if_pos h, List.length_cons] at hj
      rcases j with _ | j
      · simp at hx; subst hx; exact bne_iff_ne.1 h
      · exact ih (j := j) (by omega) (by simpa using hx)
    · rw [List.takeWhile_cons, if_neg h] at hj; simp at hj
theorem first_stop {L : List UInt8} {x : UInt8} (hx : L[(first L).length]? = some x) : x = 10 := by
  unfold first at hx
  induction L with
  | nil => simp at hx
  | cons c L ih =>
    by_cases h : (c != 10) = true
    · rw [List.takeWhile_cons, if_pos h, List.length_cons, List.getElem?_cons_succ] at hx
      exact ih hx
    · rw [List.takeWhile_cons, if_neg h] at hx
      simp at hx h
      rw [← hx]; exact h
theorem bytes_get {F : Nat → Prop} {w : World} {v : Value} {s : ByteArray} (h : Bytes F w v s) (hz : s.size ≠ 0) : ∃ b off cap, v = .slice (some ⟨b, off, none⟩) s.size cap ∧ s.size ≤ cap ∧ F b ∧ ∀ (i : Nat) (x : UInt8), s.data.toList[i]? = some x → w.cell? ⟨b, off + i, none⟩ = some (.int .u8 (x.toNat : Int)) := by
  rcases h with ⟨-, h0⟩ | ⟨b, off, sp, cap, hcap, rfl, h⟩
  · exact absurd h0 hz
  · rcases h with h | ⟨rfl, hF, cells, e, fr, hb, hc⟩
    · exact absurd h hz
    · refine ⟨b, off, cap, rfl, hcap, hF, fun i x hx => ?_⟩
      have hl : s.data.toList.length = s.size := by simp
      have hi := (List.getElem?_eq_some_iff.1 hx).1
      rw [hl] at hi
      rw [cell_of_block hb, hc i hi]
      have e : s.data.toList[i]? = some s[i] := by rw [List.getElem?_eq_getElem (by rw [hl]; exact hi)]; rfl
      rw [e] at hx
      cases hx
      rfl
/-- A part of a slice of bytes. -/
theorem bytes_part {F : Nat → Prop} {w : World} {b off n cap : Nat} {s : ByteArray} (h : Bytes F w (.slice (some ⟨b, off, none⟩) n cap) s) {p m : Nat} {D : List UInt8} (hD : D = (s.data.toList.drop p).take m) (hm : D.length = m) (hp : p + m ≤ s.size) : Bytes F w (.slice (some ⟨b, off + p, none⟩) m (cap - p)) (bs D) := by
  have hl : s.data.toList.length = s.size := by simp
  rcases h with ⟨h, -⟩ | ⟨b', off', sp, cap', hcap, e, h⟩
  · cases h
  · cases e
    refine .inr ⟨b, off + p, none, cap - p, by rw [bs_size]; omega, by rw [bs_size, hm], ?_⟩
    rcases h with h | ⟨-, hF, cells, e, fr, hb, hc⟩
    · exact .inl (by rw [bs_size]; omega)
    · refine .inr ⟨rfl, hF, cells, e, fr, hb, fun i hi => ?_⟩
      rw [bs_size] at hi
      have hlt : p + i < s.size := by omega
      have h1 : D[i]? = some s[p + i] := by
        rw [hD, List.getElem?_take, if_pos (by omega), List.getElem?_drop, List.getElem?_eq_getElem (by rw [hl]; exact hlt)]
        rfl
      have h2 : D[i]? = some (bs D)[i] := by rw [List.getElem?_eq_getElem hi]; rfl
      rw [h1] at h2
      have := hc (p + i) hlt
      rw [Nat.add_assoc, this, Option.some.inj h2]
      rfl
set_option maxHeartbeats 2000000 in
theorem line_at {F : Nat → Prop} {w : World} {v : Value} {s : ByteArray} (h : Bytes F w v s) (hs : s.size ≤ 140737488355328) {p : Nat} (hp : p < s.size) :
    Calls Tryz.prog 90 #[v, .int .i64 p] w fun e w' => e = .returned (.tuple #[.string (bs (first (s.data.toList.drop p))), .int .i64 ((min (p + (first (s.data.toList.drop p)).length + 1) s.size : Nat) : Int)]) ∧ w = w' := by
  obtain ⟨b, off, cap, rfl, hcap, hF, hget⟩ := bytes_get h (by omega)
  have hl : s.data.toList.length = s.size := by simp
  obtain ⟨D, hD⟩ : ∃ D, D = s.data.toList.drop p := ⟨_, rfl⟩
  rw [← hD]
  have hDl : D.length = s.size - p := by rw [hD, List.length_drop, hl]
  obtain ⟨m, hm⟩ : ∃ m, m = (first D).length := ⟨_, rfl⟩
  rw [← hm]
  have hmD : m ≤ D.length := by rw [hm]; exact first_length D
  have hcv := str_of_bytes (bytes_part h (p := p) (m := m) (D := first D) (by rw [hm, ← hD]; exact first_take D) hm.symm (by omega))
  have hc : ∀ (j : Nat) (x : UInt8), D[j]? = some x → w.cell? ⟨b, off + (p + j), none⟩ = some (.int .u8 (x.toNat : Int)) := fun j x hx => hget (p + j) x (by rw [hD, List.getElem?_drop] at hx; exact hx)
  have HC := Lib.hid hc
  have HM := Lib.hid hm
  clear h hget hc hm hD hl
  go_enter Tryz.func90, Tryz.ntmps90
  go_wp2
  go_loopw [6] (fun i wr => ∃ j : Nat, j ≤ m ∧ i = .int .i64 ((p + j : Nat) : Int) ∧ wr = w) (fun i _ => s.size + 1 - (intOf i).toNat)
  case atStart => exact ⟨0, Nat.zero_le _, rfl, rfl⟩
  case round =>
    obtain ⟨j, hj, rfl, rfl⟩ := hrel
    by_cases hlt : j < m
    · obtain ⟨x, hx⟩ : ∃ x, D[j]? = some x := ⟨_, List.getElem?_eq_getElem (by omega)⟩
      have hx10 := first_ne (by rw [← HM.out]; exact hlt) hx
      have hcx := HC.out j x hx
      have hne : (((x.toNat : Nat) : Int) != 10) = true := bne_iff_ne.2 fun e => hx10 (UInt8.toNat_inj.1 (by have : (10 : UInt8).toNat = 10 := rfl; omega))
      clear hx hx10
      have hlt2 : p + j < s.size := by omega
      go_wp2
      refine ⟨⟨j + 1, by omega, by go_num, trivial⟩, by simp [intOf]; omega⟩
    · obtain rfl : j = m := by omega
      by_cases hend : j < D.length
      · obtain ⟨x, hx⟩ : ∃ x, D[j]? = some x := ⟨_, List.getElem?_eq_getElem hend⟩
        have hx10 : x = 10 := first_stop (by rw [← HM.out]; exact hx)
        subst hx10
        have hcx := HC.out j 10 hx
        clear hx
        have hlt2 : p + j < s.size := by omega
        go_wp2
        go_ret2
        have e : (min ((p : Int) + j + 1) (s.size : Int)) = ((min (p + j + 1) s.size : Nat) : Int) := by omega
        rw [e]
        exact ⟨rfl, rfl⟩
      · have hlt2 : s.size ≤ p + j := by omega
        go_wp2
        go_ret2
        have e : (min ((p : Int) + j + 1) (s.size : Int)) = ((min (p + j + 1) s.size : Nat) : Int) := by omega
        rw [e]
        exact ⟨rfl, rfl⟩
theorem drop_min {L : List UInt8} (q : Nat) : L.drop (min q L.length) = L.drop q := by
  by_cases h : q ≤ L.length
  · rw [Nat.min_eq_left h]
  · rw [Nat.min_eq_right (by omega), List.drop_length, List.drop_eq_nil_of_le (by omega)]
theorem drop_ne {L : List UInt8} {p : Nat} (h : p < L.length) : L.drop p ≠ [] := by
  intro e
  have := congrArg List.length e
  rw [List.length_drop] at this
  simp at this
  omega
/-- The next line's place. -/
def nextAt (L : List UInt8) (p : Nat) : Nat := min (p + (first (L.drop p)).length + 1) L.length
theorem drop_next {L : List UInt8} (p : Nat) : L.drop (nextAt L p) = rest (L.drop p) := by
  unfold nextAt
  rw [drop_min, rest_eq, List.drop_drop]
  rfl
theorem nextAt_gt {L : List UInt8} {p : Nat} (h : p < L.length) : p < nextAt L p ∧ nextAt L p ≤ L.length := by unfold nextAt; omega
set_option maxHeartbeats 4000000 in
theorem parseR_at {F : Nat → Prop} {w : World} {v : Value} {s : ByteArray} (h : Bytes F w v s) (hs : s.size ≤ 1099511627776) :
    Calls Tryz.prog 63 #[v] w (ParsePost (parseL s.data.toList) w) := by
  obtain ⟨a, cap, rfl⟩ := h.len
  have hl : s.data.toList.length = s.size := by simp
  obtain ⟨L, hL⟩ : ∃ L, L = s.data.toList := ⟨_, rfl⟩
  rw [← hL] at hl ⊢
  have HLS := Lib.hid hL
  have HLEN := Lib.hid hl
  have HBY := Lib.hid h
  clear h hL hl
  go_enter Tryz.func63, Tryz.ntmps63
  go_wp2
  go_loopw [3, 4, 5] (fun v3 v4 v5 wr => ∃ (p : Nat) (t : Int) (acc : List HL), p ≤ s.size ∧ v5 = .int .i64 p ∧ v4 = .int .i64 t ∧ acc.length ≤ p ∧ acc ++ parseT (L.drop p) t = parseL L ∧ LnRow w.heap.size wr v3 acc ∧ Below w.heap.size w wr) (fun _ _ i _ => s.size - (intOf i).toNat)
  case atStart => exact ⟨0, 0, [], Nat.zero_le _, rfl, rfl, Nat.le_refl _, rfl, World.ownsRow_nil _ _ _ _, Below.refl _ _⟩
  case round =>
    obtain ⟨p, t, acc, hp, rfl, rfl, hap, hacc, hrow, hb⟩ := hrel
    obtain ⟨av, cv, rfl⟩ := hrow.form
    have HACC := Lib.hid hacc
    have HROW := Lib.hid hrow
    have HB := Lib.hid hb
    have hbz := hb.size
    clear hacc hrow hb
    by_cases hlt : p < s.size
    · have hln := line_at (HBY.out.below HB.out) (by omega) hlt
      have hpl : p < L.length := by rw [HLEN.out]; exact hlt
      have hng := nextAt_gt hpl
      rw [← HLS.out] at hln
      have hne := drop_ne hpl
      have HNE := Lib.hid hne
      have hDR := drop_next (L := L) p
      have hnx : min (p + (first (L.drop p)).length + 1) s.size = nextAt L p := by unfold nextAt; rw [HLEN.out]
      rw [hnx] at hln
      have hfl : (first (L.drop p)).length ≤ s.size := by
        have := first_drop_le (L := L) (p := p)
        rw [HLEN.out] at this
        omega
      obtain ⟨D, hD⟩ : ∃ D, D = L.drop p := ⟨_, rfl⟩
      obtain ⟨q, hq⟩ : ∃ q, q = nextAt L p := ⟨_, rfl⟩
      rw [← hD] at hln HACC HNE hDR hfl
      rw [← hq] at hln hDR hng
      rw [HLEN.out] at hng
      have hq1 := hng.1
      have hq2 := hng.2
      have hst := stampR_at (bs (first D)) (by rw [bs_size]; omega) wr
      rw [stampB_bs] at hst
      have HDR := Lib.hid hDR
      clear hpl hng hne hDR hnx hD hq
      cases hsn : stampL (first D) with
      | some n =>
        rw [hsn] at hst
        have HP : Hid (acc ++ parseT (L.drop q) n = parseL L) := Lib.hid (by rw [HDR.out, ← parseT_stamp t HNE.out hsn]; exact HACC.out)
        clear hsn
        go_wp2_with (first
          | (go_at_call 90; refine hln.mono ?_; rintro e w1 ⟨rfl, rfl⟩)
          | (go_at_call 33; refine hst.mono ?_; rintro e w1 ⟨rfl, rfl⟩))
        exact ⟨⟨q, n, acc, hq2, rfl, rfl, by omega, HP.out, HROW.out, HB.out⟩, by simp [intOf]; omega⟩
      | none =>
        rw [hsn] at hst
        by_cases he : first D = []
        · have HP : Hid (acc ++ parseT (L.drop q) 0 = parseL L) := Lib.hid (by rw [HDR.out, ← parseT_empty t HNE.out he]; exact HACC.out)
          have he' : (bs (first D)).toList.isEmpty = true := by rw [ByteArray.toList_eq, bs_list, he]; rfl
          clear hsn he
          go_wp2_with (first
            | (go_at_call 90; refine hln.mono ?_; rintro e w1 ⟨rfl, rfl⟩)
            | (go_at_call 33; refine hst.mono ?_; rintro e w1 ⟨rfl, rfl⟩))
          exact ⟨⟨q, 0, acc, hq2, rfl, rfl, by omega, HP.out, HROW.out, HB.out⟩, by simp [intOf]; omega⟩
        · have HP : Hid ((acc ++ [(bs (first D), t)]) ++ parseT (L.drop q) 0 = parseL L) := Lib.hid (by
            rw [HDR.out, List.append_assoc, List.singleton_append, ← parseT_line t HNE.out hsn he]; exact HACC.out)
          have he' : (bs (first D)).toList.isEmpty = false := by
            rw [ByteArray.toList_eq, bs_list]
            cases h : first D with
            | nil => exact absurd h he
            | cons _ _ => rfl
          clear hsn he
          obtain ⟨i0, hi, hz0, hz2, hz3⟩ := info_parts infoHL
          have HI := Lib.hid hi
          have HZ0 := Lib.hid hz0
          have HZ2 := Lib.hid hz2
          have HZ3 := Lib.hid hz3
          clear hi hz0 hz2 hz3
          go_wp2_with (first
            | (at_builtin; go_must (refine wpList_append_own _ rfl _ _ _ rfl w.heap.size 29 i0 _ 2 24 (by kernel_rfl) HI.out HZ0.out HZ2.out HZ3.out rfl (by decide) (.slice av acc.length cv) acc.length (hls acc) rfl (HROW.out.alloc (.cells #[.string (bs (first D)), .int .i64 t] 29)) ⟨wr.heap.size, 0, none⟩ 1 1 [.string (bs (first D)), .int .i64 t] rfl rfl ?_ ?_ ?_ ?_ ?_ ?_))
            | (go_at_call 90; refine hln.mono ?_; rintro e w1 ⟨rfl, rfl⟩)
            | (go_at_call 33; refine hst.mono ?_; rintro e w1 ⟨rfl, rfl⟩))
          · intro j u hu
            have hnew := get_new wr (.cells #[.string (bs (first D)), .int .i64 t] 29)
            rw [Addr.add_lit, cell_of_block hnew]
            rcases j with _ | _ | j
            · simpa using hu
            · simpa using hu
            · simp at hu
          · intro u hu
            simp at hu
            rcases hu with rfl | rfl <;> rfl
          · unfold maxLen; omega
          · omega
          · rw [size_alloc]; omega
          · intro v2 w2 hown hg2 _
            have hrow2 : LnRow w.heap.size w2 v2 (acc ++ [(bs (first D), t)]) := by
              unfold LnRow
              rw [hls_append, List.length_append]
              exact hown
            have HROW2 := Lib.hid hrow2
            have HG2 := Lib.hid hg2
            clear hown hrow2 hg2
            go_wp2
            refine ⟨⟨q, 0, _, hq2, rfl, rfl, by simp; omega, HP.out, HROW2.out, ?_⟩, by simp [intOf]; omega⟩
            exact (HB.out.alloc hbz _).grown HG2.out (by simp; omega) fun k hk => (HROW.out.own k hk).1
    · obtain rfl : p = s.size := by omega
      have hnil : L.drop s.size = [] := List.drop_eq_nil_of_le (by rw [HLEN.out]; exact Nat.le_refl _)
      have h1 := HACC.out
      rw [hnil, parseT_nil, List.append_nil] at h1
      have H1 := Lib.hid h1
      clear h1 hnil
      go_wp2
      go_ret
      rw [← H1.out]
      exact ⟨_, rfl, HROW.out, HB.out⟩
end Go.Proofs.YtofkdmmoheffbaaGreatDoor
