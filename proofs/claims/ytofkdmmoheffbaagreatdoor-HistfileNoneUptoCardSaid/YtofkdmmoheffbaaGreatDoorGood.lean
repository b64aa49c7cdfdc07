/- Which paths may be: the program's own Good, walked. -/
import Derived.Test.YtofkdmmoheffbaaGreatDoorFsB
import Derived.Test.YtofkdmmoheffbaaGreatDoorShelf
namespace Go.Proofs.YtofkdmmoheffbaaGreatDoor
open Go Go.RowKit Go.Lany
set_option maxRecDepth 100000
def slash : ByteArray := ⟨#[47]⟩
def nameOk (n : ByteArray) : Bool := !(n.toList == []) && !(n.toList == [46]) && !(n.toList == [46, 46])
/-- The names of a path that begins with a slash. -/
def names (p : ByteArray) : List ByteArray := Lib.splitB slash 0 (Lib.countB (p.extract 1 p.size) slash) (p.extract 1 p.size)
def goodB (p : ByteArray) : Bool := decide (p.size ≤ 1024) && Lib.hasPrefix p.data.toList [47] && (names p).all nameOk
def BoolPost (b : Bool) (w : World) (e : Ending) (w' : World) : Prop := e = .returned (.bool b) ∧ Below w.heap.size w w'
theorem names_length (p : ByteArray) : (names p).length = Lib.countB (p.extract 1 p.size) slash + 1 := Lib.splitB_all slash (by decide) 0 _ _ rfl
theorem prefix_one {p : ByteArray} (h : Lib.hasPrefix p.data.toList [47] = true) : 1 ≤ p.size := by
  rw [Lib.hasPrefix] at h
  cases hp : p.data.toList with
  | nil => rw [hp] at h; cases h
  | cons x l =>
    have : p.data.toList.length = p.size := by simp
    rw [hp] at this
    simp at this
    omega
theorem all_bad {l : List ByteArray} {n k : Nat} {x : ByteArray} (hn : n = l.length) (hk : k < n) (hx : x = l.getD k ByteArray.empty) (hb : nameOk x = false) : l.all nameOk = false := by
  rw [List.all_eq_false]
  have hk' : k < l.length := by omega
  refine ⟨x, ?_, by rw [hb]; simp⟩
  rw [hx, List.getD_eq_getElem?_getD, List.getElem?_eq_getElem hk']
  exact List.getElem_mem _
theorem all_good {l : List ByteArray} {n : Nat} (hn : n = l.length) (h : ∀ j, j < n → nameOk (l.getD j ByteArray.empty) = true) : l.all nameOk = true := by
  rw [List.all_eq_true]
  intro x hx
  obtain ⟨j, hj, rfl⟩ := List.mem_iff_getElem.1 hx
  have := h j (by omega)
  rwa [List.getD_eq_getElem?_getD, List.getElem?_eq_getElem hj] at this
set_option maxHeartbeats 1000000 in
theorem good_any (p : ByteArray) (w : World) (hml : Ml w) : Calls Tryz.prog 81 #[.string p] w (BoolPost (goodB p) w) := by
  by_cases h1 : 1024 < p.size
  · have e : goodB p = false := by unfold goodB; rw [decide_eq_false (by omega)]; rfl
    rw [e]; clear e
    have h1' : decide (1024 < (p.size : Int)) = true := decide_eq_true (by omega)
    go_enter Tryz.func81, Tryz.ntmps81
    go_wp2
    go_ret
    exact ⟨rfl, Below.refl _ _⟩
  have h1' : decide (1024 < (p.size : Int)) = false := decide_eq_false (by omega)
  cases h2 : Lib.hasPrefix p.data.toList [47] with
  | false =>
    have e : goodB p = false := by unfold goodB; rw [h2]; simp
    rw [e]; clear e
    have hp : ∀ w', Calls Tryz.prog 18 #[.string p, .string ⟨#[47]⟩] w' fun e w'' => e = .returned (.bool false) ∧ w' = w'' := fun w' => (Tryz.strings_HasPrefix p ⟨#[47]⟩ w').mono fun _ _ ⟨a, b⟩ => ⟨by rw [a, h2], b.symm⟩
    go_enter Tryz.func81, Tryz.ntmps81
    go_wp2_with (go_at_call 18; refine (hp _).mono ?_; rintro e w' ⟨rfl, rfl⟩)
    go_ret
    exact ⟨rfl, Below.refl _ _⟩
  | true =>
    have hsz := prefix_one h2
    have e : goodB p = (names p).all nameOk := by unfold goodB; rw [h2, decide_eq_true (by omega)]; simp
    rw [e]; clear e
    have hp : ∀ w', Calls Tryz.prog 18 #[.string p, .string ⟨#[47]⟩] w' fun e w'' => e = .returned (.bool true) ∧ w' = w'' := fun w' => (Tryz.strings_HasPrefix p ⟨#[47]⟩ w').mono fun _ _ ⟨a, b⟩ => ⟨by rw [a, h2], b.symm⟩
    have hlen := names_length p
    have hle := Lib.countB_le slash (by decide) _ (p.extract 1 p.size) (Nat.le_refl _)
    have hes : (p.extract 1 p.size).size = p.size - 1 := by simp
    obtain ⟨n, hn⟩ : ∃ n, n = (names p).length := ⟨_, rfl⟩
    have hn1 : n ≤ 1024 := by omega
    have hsp : Calls Tryz.prog 117 #[.string (p.extract 1 p.size), .string ⟨#[47]⟩] w fun e w' => e = .returned (.slice (some ⟨w.heap.size, 0, none⟩) n n) ∧ w' = w.alloc (.cells ((names p).map Value.string).toArray 9) := by
      obtain ⟨k, hk⟩ := hml
      refine (Tryz.strings_Split (p.extract 1 p.size) ⟨#[47]⟩ k w (by omega) hk (by decide)).mono fun _ _ ⟨a, b⟩ => ⟨?_, b⟩
      rw [a, hn, hlen]; rfl
    have hc : ∀ i (h : i < n), (w.alloc (.cells ((names p).map Value.string).toArray 9)).cell? ⟨w.heap.size, i, none⟩ = some (.string ((names p).getD i ByteArray.empty)) := by
      intro i h
      rw [cell_of_block (get_new w _)]
      have : i < (names p).length := by omega
      simp [this]
    have HN := Lib.hid hn
    clear hn hlen hle hes h1
    go_enter Tryz.func81, Tryz.ntmps81
    go_wp2_with (first | (go_at_call 18; refine (hp _).mono ?_; rintro e w' ⟨rfl, rfl⟩) | (go_at_call 117; refine hsp.mono ?_; rintro e w' ⟨rfl, rfl⟩))
    go_loop [4, 17] (fun _ i => ∃ k : Nat, k ≤ n ∧ i = .int .i64 k ∧ ∀ j, j < k → nameOk ((names p).getD j ByteArray.empty) = true) (fun _ i => n - (intOf i).toNat)
    case atStart => exact ⟨0, Nat.zero_le _, rfl, fun j h => by omega⟩
    case round =>
      obtain ⟨k, hk, rfl, hall⟩ := hrel
      have HA := Lib.hid hall
      clear hall
      by_cases hlt : k < n
      · have hcell := hc k hlt
        obtain ⟨x, hx⟩ : ∃ x, x = (names p).getD k ByteArray.empty := ⟨_, rfl⟩
        rw [← hx] at hcell
        have HX := Lib.hid hx
        clear hx hc
        cases e0 : (x.toList == []) with
        | true =>
          have hb : nameOk x = false := by unfold nameOk; rw [e0]; rfl
          have HB := Lib.hid hb
          clear hb
          go_wp2
          go_ret
          exact ⟨ret_bool (all_bad HN.out hlt HX.out HB.out), (Below.refl _ _).alloc (Nat.le_refl _) _⟩
        | false =>
          cases e1 : (x.toList == [46]) with
          | true =>
            have hb : nameOk x = false := by unfold nameOk; rw [e0, e1]; rfl
            have HB := Lib.hid hb
            clear hb
            go_wp2
            go_ret
            exact ⟨ret_bool (all_bad HN.out hlt HX.out HB.out), (Below.refl _ _).alloc (Nat.le_refl _) _⟩
          | false =>
            cases e2 : (x.toList == [46, 46]) with
            | true =>
              have hb : nameOk x = false := by unfold nameOk; rw [e0, e1, e2]; rfl
              have HB := Lib.hid hb
              clear hb
              go_wp2
              go_ret
              exact ⟨ret_bool (all_bad HN.out hlt HX.out HB.out), (Below.refl _ _).alloc (Nat.le_refl _) _⟩
            | false =>
              have hb : nameOk x = true := by unfold nameOk; rw [e0, e1, e2]; rfl
              have HB := Lib.hid hb
              clear hb
              go_wp2
              go_round
              case rel =>
                refine ⟨k + 1, by omega, by go_num, fun j hj => ?_⟩
                rcases Nat.lt_succ_iff_lt_or_eq.1 hj with h | h
                · exact HA.out j h
                · subst h; rw [← HX.out]; exact HB.out
              case measure => simp [intOf]; omega
      · obtain rfl : k = n := by omega
        go_wp2
        go_ret
        exact ⟨ret_bool (all_good HN.out HA.out), (Below.refl _ _).alloc (Nat.le_refl _) _⟩
end Go.Proofs.YtofkdmmoheffbaaGreatDoor
