/- Which paths are directories: dir, walked over whatever order the map's range takes. -/
import Derived.Test.YtofkdmmoheffbaaGreatDoorGood
import Derived.Deep.LoopGhost
namespace Go.Proofs.YtofkdmmoheffbaaGreatDoor
open Go Go.RowKit Go.Lany
set_option maxRecDepth 100000
def under (path but p : ByteArray) : Bool := !(p.toList == but.toList) && Lib.hasPrefix p.data.toList (path ++ slash).data.toList
def dirB (ks : List ByteArray) (path but : ByteArray) : Bool := (path.toList == [47]) || ks.any (under path but)
/-- What holds while the map is gone through: of what is left, the answer hangs on that alone. -/
def DirRel (f m : Nat) (vs : List (ByteArray × Value)) (path but : ByteArray) (w : World) (r g : Nat) (wr : World) : Prop :=
  ∃ left, left.length = g ∧ IterOf wr r m vs left ∧ Below w.heap.size w wr ∧ (akeys vs).any (under path but) = (akeys left).any (under path but)
theorem adel_length {left : List (ByteArray × Value)} {s : ByteArray} {v : Value} (hn : (akeys left).Nodup) (h : (s, v) ∈ left) : (adel left s).length + 1 = left.length := by
  have := (left_pick hn h).length_eq
  simpa using this.symm
theorem any_pick {left : List (ByteArray × Value)} {s : ByteArray} {v : Value} (hn : (akeys left).Nodup) (h : (s, v) ∈ left) (t : ByteArray → Bool) : (akeys left).any t = (t s || (akeys (adel left s)).any t) := by
  have hp := (left_pick hn h).map (·.1)
  have : (akeys left).any t = (akeys ((s, v) :: adel left s)).any t := by
    rw [Bool.eq_iff_iff, List.any_eq_true, List.any_eq_true]
    constructor
    · rintro ⟨x, hx, ht⟩; exact ⟨x, hp.mem_iff.1 hx, ht⟩
    · rintro ⟨x, hx, ht⟩; exact ⟨x, hp.mem_iff.2 hx, ht⟩
  rw [this]; rfl
set_option maxHeartbeats 1000000 in
theorem dir_at {w : World} {f m c : Nat} {F : Nat → Prop} {s : FsSt} (h : FsAt w f m c F s) (path but : ByteArray) (hp : path.size ≤ 140737488351232) :
    Calls Tryz.prog 83 #[fsPtr f, .string path, .string but] w (BoolPost (dirB (akeys s.files) path but) w) := by
  obtain ⟨c0, c1, c2, c3, c4, c5, fz⟩ := h.cells
  obtain ⟨l1, l2, l3⟩ := h.lt
  obtain ⟨vs, hm, hb⟩ := h.map
  rw [← hb.akeys]
  clear hb c1 c2 c3 c4 c5 fz
  cases e0 : (path.toList == [47]) with
  | true =>
    unfold dirB
    rw [e0]
    go_enter Tryz.func83, Tryz.ntmps83
    go_wp2
    go_ret
    exact ⟨rfl, Below.refl _ _⟩
  | false =>
    have eD : dirB (akeys vs) path but = (akeys vs).any (under path but) := by unfold dirB; rw [e0]; rfl
    rw [eD]
    have HP : ∀ (x : ByteArray) w', Calls Tryz.prog 18 #[.string x, .string (path ++ slash)] w' fun e w'' => e = .returned (.bool (Lib.hasPrefix x.data.toList (path ++ slash).data.toList)) ∧ w' = w'' := fun x w' => (Tryz.strings_HasPrefix x (path ++ slash) w').mono fun _ _ ⟨a, b⟩ => ⟨a, b.symm⟩
    clear eD
    go_enter Tryz.func83, Tryz.ntmps83
    go_wp2_with (at_range; refine wpList_range_str 47 9 37 rfl _ rfl (by kernel_rfl) hm rfl ?_; intro w1 hi hg hs)
    go_frame
    have Hs := Lib.hid hs
    clear hs
    obtain ⟨r, hr⟩ : ∃ r, r = w.heap.size := ⟨_, rfl⟩
    rw [← hr] at hi ⊢
    have HR := Lib.hid hr
    clear hr
    have hb1 : Below w.heap.size w w1 := (Below.refl _ _).grown hg (Nat.le_refl _) (fun k hk => by cases hk)
    have hfix : ∀ wr, IterOf wr r m vs vs → True := fun _ _ => trivial
    clear hfix
    go_loopg [7] vs.length (fun g _ wr => DirRel f m vs path but w r g wr)
    case atStart => exact ⟨vs, rfl, hi, hb1, rfl⟩
    case round =>
      obtain ⟨left, hlen, hit, hbl, han⟩ := hrel
      have hnd := hit.nodup
      have HA := Lib.hid han
      have HL := Lib.hid hlen
      clear han hlen
      go_wp2_with (at_next; refine wpList_next_str rfl _ rfl rfl hit ?_ ?_)
      · intro hnil
        have HN := Lib.hid hnil
        clear hnil
        go_wp2
        go_ret
        refine ⟨ret_bool ?_, hbl⟩
        rw [HA.out, HN.out]; rfl
      · intro x v w2 hin hit2 hg2 hs2 hen
        have hbl2 : Below w.heap.size w w2 := hbl.grown hg2 (hbl.size) (fun k hk => by cases hk; rw [HR.out]; exact Nat.le_refl _)
        have hany := any_pick hnd hin (under path but)
        have hsmall := adel_length hnd hin
        have HY := Lib.hid hany
        have HS := Lib.hid hsmall
        clear hany hsmall hs2 hin hnd
        cases e1 : (x.toList == but.toList) with
        | true =>
          have e1' : (x.toList != but.toList) = false := by simpa [bne] using e1
          go_wp2
          go_roundg (adel left x).length
          case measure => have := HS.out; have := HL.out; omega
          case rel =>
            refine ⟨adel left x, rfl, hit2, hbl2, ?_⟩
            rw [HA.out, HY.out]
            have : under path but x = false := by unfold under; rw [e1]; rfl
            rw [this]; rfl
        | false =>
          have e1' : (x.toList != but.toList) = true := by simpa [bne] using e1
          cases e2 : Lib.hasPrefix x.data.toList (path ++ slash).data.toList with
          | true =>
            have HP1 : ∀ w', Calls Tryz.prog 18 #[.string x, .string (path ++ ⟨#[47]⟩)] w' fun e w'' => e = .returned (.bool true) ∧ w' = w'' := fun w' => (HP x w').mono fun _ _ ⟨a, b⟩ => ⟨by rw [a, e2], b⟩
            have E2 := Lib.hid e2
            clear e2 HP
            go_wp2_with (go_at_call 18; refine (HP1 _).mono ?_; rintro e w' ⟨rfl, rfl⟩)
            go_ret
            refine ⟨ret_bool ?_, hbl2⟩
            rw [HA.out, HY.out]
            have : under path but x = true := by unfold under; rw [e1, E2.out]; rfl
            rw [this]; rfl
          | false =>
            have HP1 : ∀ w', Calls Tryz.prog 18 #[.string x, .string (path ++ ⟨#[47]⟩)] w' fun e w'' => e = .returned (.bool false) ∧ w' = w'' := fun w' => (HP x w').mono fun _ _ ⟨a, b⟩ => ⟨by rw [a, e2], b⟩
            have E2 := Lib.hid e2
            clear e2 HP
            go_wp2_with (go_at_call 18; refine (HP1 _).mono ?_; rintro e w' ⟨rfl, rfl⟩)
            go_roundg (adel left x).length
            case measure => have := HS.out; have := HL.out; omega
            case rel =>
              refine ⟨adel left x, rfl, hit2, hbl2, ?_⟩
              rw [HA.out, HY.out]
              have : under path but x = false := by unfold under; rw [e1, E2.out]; rfl
              rw [this]; rfl
end Go.Proofs.YtofkdmmoheffbaaGreatDoor
