/- Lines in memory; which may be: Check. -/
import Derived.Test.YtofkdmmoheffbaaGreatDoorHistA
import Derived.Test.YtofkdmmoheffbaaGreatDoorHistB
import Derived.Test.YtofkdmmoheffbaaGreatDoorHistL
namespace Go.Proofs.YtofkdmmoheffbaaGreatDoor
open Go Go.RowKit Go.Shelf Go.Lany
set_option maxRecDepth 100000

/-- A slice of lines that reads as l; its array lies in a block of F. -/
def Lines (F : Nat → Prop) (w : World) (v : Value) (l : List HL) : Prop :=
  (v = .slice none 0 0 ∧ l = []) ∨ ∃ b off sp cap, l.length ≤ cap ∧ v = .slice (some ⟨b, off, sp⟩) l.length cap ∧ (l = [] ∨ sp = none ∧ F b ∧ ∃ cells e fr, w.heap[b]? = some (.cells cells e fr) ∧ ∀ (i : Nat) (x : HL), l[i]? = some x → cells[off + i * 2]? = some (.string x.1) ∧ cells[off + i * 2 + 1]? = some (.int .i64 x.2))
theorem Lines.kept {F S : Nat → Prop} {w w' : World} {v : Value} {l : List HL} (h : Lines F w v l) (t : Turns S w w') (hs : ∀ k, F k → ¬ S k) : Lines F w' v l := by
  rcases h with h | ⟨b, off, sp, cap, hc, e, h⟩
  · exact .inl h
  · refine .inr ⟨b, off, sp, cap, hc, e, h.imp id ?_⟩
    rintro ⟨h1, h2, cells, e', fr, h3, h4⟩
    exact ⟨h1, h2, cells, e', fr, (t.block b (lt_of_block h3) (hs b h2)).trans h3, h4⟩
theorem Lines.below {F : Nat → Prop} {w w' : World} {v : Value} {l : List HL} (h : Lines F w v l) (t : Below w.heap.size w w') : Lines F w' v l := h.kept (S := fun _ => False) (Turns.of_below t) fun _ _ => id
theorem Lines.mono {F G : Nat → Prop} {w : World} {v : Value} {l : List HL} (h : Lines F w v l) (hf : ∀ k, k < w.heap.size → F k → G k) : Lines G w v l := by
  rcases h with h | ⟨b, off, sp, cap, hc, e, h⟩
  · exact .inl h
  · refine .inr ⟨b, off, sp, cap, hc, e, h.imp id ?_⟩
    rintro ⟨h1, h2, cells, e', fr, h3, h4⟩
    exact ⟨h1, hf b (lt_of_block h3) h2, cells, e', fr, h3, h4⟩
theorem Lines.form {F : Nat → Prop} {w : World} {v : Value} {l : List HL} (h : Lines F w v l) : ∃ a cap, v = .slice a l.length cap ∧ l.length ≤ cap ∧ ∀ (k : Nat) (x : HL), l[k]? = some x → ∃ b off, a = some ⟨b, off, none⟩ ∧ F b ∧ w.cell? ⟨b, off + k * 2, none⟩ = some (.string x.1) ∧ w.cell? ⟨b, off + k * 2 + 1, none⟩ = some (.int .i64 x.2) := by
  rcases h with ⟨rfl, rfl⟩ | ⟨b, off, sp, cap, hc, rfl, h⟩
  · exact ⟨none, 0, rfl, Nat.le_refl _, fun k x hx => by simp at hx⟩
  · refine ⟨_, cap, rfl, hc, fun k x hx => ?_⟩
    rcases h with rfl | ⟨rfl, hF, cells, e, fr, hb, hcs⟩
    · simp at hx
    · obtain ⟨h1, h2⟩ := hcs k x hx
      exact ⟨b, off, rfl, hF, by rw [cell_of_block hb]; exact h1, by rw [cell_of_block hb]; exact h2⟩
def hasNl (s : ByteArray) : Bool := decide (0 ≤ Lib.indexByte s.data.toList 10)
/-- What is wrong with a line. -/
def badLine (x : HL) : Int := if (x.1.toList == []) = true ∨ hasNl x.1 = true ∨ (stampB x.1).isSome = true then 110 else if x.2 < 0 ∨ 999999999999 < x.2 then 1 else 0
def checkE : List HL → Int
  | [] => 0
  | x :: l => if badLine x = 0 then checkE l else badLine x
theorem checkE_at {l : List HL} {k : Nat} {x : HL} (h : ∀ (j : Nat) y, j < k → l[j]? = some y → badLine y = 0) (hx : l[k]? = some x) (hb : badLine x ≠ 0) : checkE l = badLine x := by
  induction l generalizing k with
  | nil => simp at hx
  | cons y l ih =>
    rcases k with _ | k
    · simp at hx
      subst hx
      unfold checkE
      rw [if_neg hb]
    · unfold checkE
      rw [if_pos (h 0 y (by omega) rfl)]
      exact ih (k := k) (fun j z hj hz => h (j + 1) z (Nat.succ_lt_succ hj) (by simpa using hz)) (by simpa using hx)
theorem checkE_ok {l : List HL} (h : ∀ (j : Nat) y, l[j]? = some y → badLine y = 0) : checkE l = 0 := by
  induction l with
  | nil => rfl
  | cons y l ih =>
    unfold checkE
    rw [if_pos (h 0 y rfl)]
    exact ih fun j z hz => h (j + 1) z (by simpa using hz)
theorem checkE_zero {l : List HL} (h : checkE l = 0) : ∀ x ∈ l, badLine x = 0 := by
  induction l with
  | nil => intro x hx; cases hx
  | cons y l ih =>
    unfold checkE at h
    by_cases hb : badLine y = 0
    · rw [if_pos hb] at h
      intro x hx
      rcases List.mem_cons.1 hx with rfl | hx
      · exact hb
      · exact ih h x hx
    · rw [if_neg hb] at h
      exact absurd h hb
theorem EvS.below {w w' : World} (h : EvS w) (t : Below w.heap.size w w') : EvS w' := by
  obtain ⟨ev, h1, h2⟩ := h
  exact ⟨ev, (t.cell (World.block_lt_of_cell? _ _ h1)).trans h1, h2⟩
def IntAns (n : Int) (w : World) (e : Ending) (w' : World) : Prop := e = .returned (.int .i64 n) ∧ Below w.heap.size w w'
theorem contains_nl (s : ByteArray) (w : World) : Calls Tryz.prog 74 #[.string s, .string ⟨#[10]⟩] w fun e w' => e = .returned (.bool (hasNl s)) ∧ w = w' :=
  (Tryz.strings_Contains_one s 10 w).mono fun _ _ ⟨h1, h2⟩ => ⟨h1, h2.symm⟩
theorem badLine_ok {x : HL} (h1 : (x.1.toList == []) = false) (h2 : hasNl x.1 = false) (h3 : (stampB x.1).isSome = false) (h4 : ¬ x.2 < 0) (h5 : ¬ 999999999999 < x.2) : badLine x = 0 := by
  unfold badLine
  rw [if_neg (by rw [h1, h2, h3]; simp), if_neg (by omega)]
theorem badLine_arg {x : HL} (h1 : (x.1.toList == []) = false) (h2 : hasNl x.1 = false) (h3 : (stampB x.1).isSome = false) (h4 : x.2 < 0 ∨ 999999999999 < x.2) : badLine x = 1 := by
  unfold badLine
  rw [if_neg (by rw [h1, h2, h3]; simp), if_pos h4]
theorem badLine_entry {x : HL} (h : (x.1.toList == []) = true ∨ hasNl x.1 = true ∨ (stampB x.1).isSome = true) : badLine x = 110 := by
  unfold badLine
  rw [if_pos h]
set_option maxHeartbeats 4000000 in
theorem check_at {F : Nat → Prop} {w : World} {v : Value} {l : List HL} (h : Lines F w v l) (hl : l.length ≤ 1048576) (hs : ∀ x ∈ l, x.1.size ≤ 1048576) (hev : EvS w) : Calls Tryz.prog 49 #[v] w (IntAns (checkE l) w) := by
  obtain ⟨a, cap, rfl, hcap, hf⟩ := h.form
  have HF := Lib.hid hf
  have HEV := Lib.hid hev
  have HSZ := Lib.hid hs
  clear h hf hev hs
  go_enter Tryz.func49, Tryz.ntmps49
  go_wp2
  go_loopw [9] (fun i wr => ∃ k : Nat, k ≤ l.length ∧ i = .int .i64 k ∧ Below w.heap.size w wr ∧ ∀ (j : Nat) y, j < k → l[j]? = some y → badLine y = 0) (fun i _ => l.length - (intOf i).toNat)
  case atStart => exact ⟨0, Nat.zero_le _, rfl, Below.refl _ _, fun j y hj => absurd hj (Nat.not_lt_zero _)⟩
  case round =>
    obtain ⟨k, hk, rfl, hb, hok⟩ := hrel
    have HB := Lib.hid hb
    have HOK := Lib.hid hok
    clear hok
    by_cases hlt : k < l.length
    · obtain ⟨x, hx⟩ : ∃ x, l[k]? = some x := ⟨_, List.getElem?_eq_getElem hlt⟩
      obtain ⟨b, off, rfl, -, h1, h2⟩ := HF.out k x hx
      have c1 : wr.cell? ⟨b, off + k * 2, none⟩ = some (.string x.1) := by rw [hb.cell (World.block_lt_of_cell? _ _ h1), h1]
      have c2 : wr.cell? ⟨b, off + k * 2 + 1, none⟩ = some (.int .i64 x.2) := by rw [hb.cell (World.block_lt_of_cell? _ _ h2), h2]
      have hxs := HSZ.out x (List.mem_of_getElem? hx)
      have HX := Lib.hid hx
      have hev1 := (HEV.out.below hb).below ((Below.refl _ _).alloc (Nat.le_refl _) (.cells #[.string x.1, .int .i64 x.2] 29))
      have hst := stamp_at x.1 (by omega) (wr.alloc (.cells #[.string x.1, .int .i64 x.2] 29)) hev1
      have n1 : (wr.alloc (.cells #[.string x.1, .int .i64 x.2] 29)).cell? ⟨wr.heap.size, 0, none⟩ = some (.string x.1) := by go_simp
      have n2 : (wr.alloc (.cells #[.string x.1, .int .i64 x.2] 29)).cell? ⟨wr.heap.size, 1, none⟩ = some (.int .i64 x.2) := by go_simp
      have HN1 := Lib.hid n1
      have HN2 := Lib.hid n2
      clear hx h1 h2 hb hev1 n1 n2
      cases e1 : (x.1.toList == []) with
      | true => 
        have HE := Lib.hid (badLine_entry (x := x) (.inl e1))
        go_wp2_with (go_at_call 52; refine hst.mono ?_; rintro e w1 ⟨rfl, hb1⟩; have m1 := (hb1.cell (World.block_lt_of_cell? _ _ HN1.out)).trans HN1.out)
        go_ret
        rw [checkE_at (fun j y h1 h2 => HOK.out j y h1 h2) HX.out (by rw [HE.out]; decide), HE.out]
        exact ⟨rfl, (HB.out.alloc (by have := HB.out.size; omega) _).trans (hb1.mono (by have := HB.out.size; simp; omega))⟩
      | false => 
        cases e2 : hasNl x.1 with
        | true =>
            have HE := Lib.hid (badLine_entry (x := x) (.inr (.inl e2)))
            go_wp2_with (first
            | (go_at_call 52; refine hst.mono ?_; rintro e w1 ⟨rfl, hb1⟩; have m1 := (hb1.cell (World.block_lt_of_cell? _ _ HN1.out)).trans HN1.out; have m2 := (hb1.cell (World.block_lt_of_cell? _ _ HN2.out)).trans HN2.out)
            | (go_at_call 74; refine (contains_nl x.1 _).mono ?_; rintro e w2 ⟨rfl, rfl⟩))
            go_ret
            rw [checkE_at (fun j y h1 h2 => HOK.out j y h1 h2) HX.out (by rw [HE.out]; decide), HE.out]
            exact ⟨rfl, (HB.out.alloc (by have := HB.out.size; omega) _).trans (hb1.mono (by have := HB.out.size; simp; omega))⟩
        | false =>
          cases e3 : (stampB x.1).isSome with
          | true =>
            have HE := Lib.hid (badLine_entry (x := x) (.inr (.inr e3)))
            go_wp2_with (first
            | (go_at_call 52; refine hst.mono ?_; rintro e w1 ⟨rfl, hb1⟩; have m1 := (hb1.cell (World.block_lt_of_cell? _ _ HN1.out)).trans HN1.out; have m2 := (hb1.cell (World.block_lt_of_cell? _ _ HN2.out)).trans HN2.out)
            | (go_at_call 74; refine (contains_nl x.1 _).mono ?_; rintro e w2 ⟨rfl, rfl⟩))
            go_ret
            rw [checkE_at (fun j y h1 h2 => HOK.out j y h1 h2) HX.out (by rw [HE.out]; decide), HE.out]
            exact ⟨rfl, (HB.out.alloc (by have := HB.out.size; omega) _).trans (hb1.mono (by have := HB.out.size; simp; omega))⟩
          | false =>
            by_cases e4 : x.2 < 0
            · have HE := Lib.hid (badLine_arg (x := x) e1 e2 e3 (.inl e4))
              go_wp2_with (first
              | (go_at_call 52; refine hst.mono ?_; rintro e w1 ⟨rfl, hb1⟩; have m1 := (hb1.cell (World.block_lt_of_cell? _ _ HN1.out)).trans HN1.out; have m2 := (hb1.cell (World.block_lt_of_cell? _ _ HN2.out)).trans HN2.out)
              | (go_at_call 74; refine (contains_nl x.1 _).mono ?_; rintro e w2 ⟨rfl, rfl⟩))
              go_ret
              rw [checkE_at (fun j y h1 h2 => HOK.out j y h1 h2) HX.out (by rw [HE.out]; decide), HE.out]
              exact ⟨rfl, (HB.out.alloc (by have := HB.out.size; omega) _).trans (hb1.mono (by have := HB.out.size; simp; omega))⟩
            · by_cases e5 : 999999999999 < x.2
              · have HE := Lib.hid (badLine_arg (x := x) e1 e2 e3 (.inr e5))
                go_wp2_with (first
                | (go_at_call 52; refine hst.mono ?_; rintro e w1 ⟨rfl, hb1⟩; have m1 := (hb1.cell (World.block_lt_of_cell? _ _ HN1.out)).trans HN1.out; have m2 := (hb1.cell (World.block_lt_of_cell? _ _ HN2.out)).trans HN2.out)
                | (go_at_call 74; refine (contains_nl x.1 _).mono ?_; rintro e w2 ⟨rfl, rfl⟩))
                go_ret
                rw [checkE_at (fun j y h1 h2 => HOK.out j y h1 h2) HX.out (by rw [HE.out]; decide), HE.out]
                exact ⟨rfl, (HB.out.alloc (by have := HB.out.size; omega) _).trans (hb1.mono (by have := HB.out.size; simp; omega))⟩
              · have HE := Lib.hid (badLine_ok (x := x) e1 e2 e3 e4 e5)
                go_wp2_with (first
                | (go_at_call 52; refine hst.mono ?_; rintro e w1 ⟨rfl, hb1⟩; have m1 := (hb1.cell (World.block_lt_of_cell? _ _ HN1.out)).trans HN1.out; have m2 := (hb1.cell (World.block_lt_of_cell? _ _ HN2.out)).trans HN2.out)
                | (go_at_call 74; refine (contains_nl x.1 _).mono ?_; rintro e w2 ⟨rfl, rfl⟩))
                refine ⟨⟨k + 1, by omega, by go_num, (HB.out.alloc (by have := HB.out.size; omega) _).trans (hb1.mono (by have := HB.out.size; simp; omega)), fun j y hj hy => ?_⟩, by simp [intOf]; omega⟩
                rcases Nat.lt_succ_iff_lt_or_eq.1 hj with hj | rfl
                · exact HOK.out j y hj hy
                · rw [HX.out] at hy
                  cases hy
                  exact HE.out
    · obtain rfl : k = l.length := by omega
      go_wp2
      go_ret
      rw [checkE_ok fun j y hy => HOK.out j y (List.getElem?_eq_some_iff.1 hy).1 hy]
      exact ⟨rfl, hb⟩
end Go.Proofs.YtofkdmmoheffbaaGreatDoor
