/- Stamps: the program's. -/
import Derived.Test.YtofkdmmoheffbaaGreatDoorHistP
import Derived.Test.YtofkdmmoheffbaaGreatDoorShelf
import Derived.Shelf.Strings.SlTrimAscii
import Derived.Lib.AtoiErrMem
namespace Go.Proofs.YtofkdmmoheffbaaGreatDoor
open Go Go.RowKit Go.Shelf Go.Lany
set_option maxRecDepth 100000
def EvS (w : World) : Prop := ∃ ev, w.cell? ⟨2, 0, none⟩ = some ev ∧ (ev = .nilIface ∨ ∃ te pe, ev = .iface te pe)
def StampPost (o : Option Nat) (w : World) (e : Ending) (w' : World) : Prop := e = .returned (.tuple #[.int .i64 ((o.getD 0 : Nat) : Int), .bool o.isSome]) ∧ Below w.heap.size w w'
theorem trim_at (s : ByteArray) (w : World) (hs : s.size ≤ 9223372036854775807) : Calls Tryz.prog 79 #[.string s, .string ⟨#[48, 49, 50, 51, 52, 53, 54, 55, 56, 57]⟩] w fun e w' => e = .returned (.string ⟨(Lib.trimS s.data.toList [48, 49, 50, 51, 52, 53, 54, 55, 56, 57]).toArray⟩) ∧ Below w.heap.size w w' :=
  Any.strings_Trim_laid Tryz.lays160 (by kernel_rfl) s ⟨#[48, 49, 50, 51, 52, 53, 54, 55, 56, 57]⟩ w hs (by decide) (ascii_of_all (by decide))
theorem parse_empty (s : ByteArray) (hlim : s.size ≤ 281474976710656) (h : Lib.parseIntB 64 s.data.toList = Lib.parseIntB 64 []) (ev : Value) (w : World) (hv : w.cell? ⟨2, 0, none⟩ = some ev) (hev : ev = .nilIface ∨ ∃ te pe, ev = .iface te pe) :
    Calls Tryz.prog 80 #[.string s, .int .i64 10, .int .i64 64] w fun e w' => ∃ N v, e = .returned (.tuple #[.int .i64 0, .iface v (.pointer (some ⟨N, 0, none⟩))]) ∧ Below w.heap.size w w' :=
  (Any.strconv_ParseInt_10_at64_syntax Tryz.laysC174 s hlim h ev w hv hev).mono fun _ _ ⟨N, h1, _, _, h4⟩ => ⟨N, _, h1, h4⟩
theorem parse_world {w w' : World} (h : w' = w ∨ ∃ t, w' = Lib.bytesWorld w 5 t) : Below w.heap.size w w' := by
  rcases h with rfl | ⟨t, rfl⟩
  · exact Below.refl _ _
  · exact Lib.bytesWorld_below w _ t
set_option maxHeartbeats 2000000 in
theorem stamp_at (s : ByteArray) (hs : s.size ≤ 140737488351232) (w : World) (hev : EvS w) : Calls Tryz.prog 52 #[.string s] w (StampPost (stampB s) w) := by
  have hcp := Tryz.strings_CutPrefix s ⟨#[35]⟩ w
  go_enter Tryz.func52, Tryz.ntmps52
  cases hp : Lib.hasPrefix s.data.toList [35] with
  | false =>
    rw [show (⟨#[35]⟩ : ByteArray).data.toList = [35] from rfl, hp] at hcp
    go_wp2_with (go_at_call 78; refine hcp.mono ?_; rintro e w1 ⟨rfl, rfl⟩)
    go_ret2
    have : stampB s = none := by
      unfold stampB
      cases hl : s.data.toList with
      | nil => rfl
      | cons c d =>
        rw [hl] at hp
        show (if c.toNat = 35 ∧ d.length ≤ 12 ∧ d.all digitB = true then some (digitsVal d) else none) = none
        rw [if_neg]
        rintro ⟨h1, -⟩
        have hc : c = 35 := UInt8.toNat_inj.1 h1
        subst hc
        simp [Lib.hasPrefix, List.isPrefixOf] at hp
    rw [this]
    exact ⟨rfl, Below.refl _ _⟩
  | true =>
    rw [show (⟨#[35]⟩ : ByteArray).data.toList = [35] from rfl, hp] at hcp
    obtain ⟨d, hd⟩ : ∃ d, s.data.toList = 35 :: d := by
      unfold Lib.hasPrefix at hp
      obtain ⟨d, hd⟩ := List.isPrefixOf_iff_prefix.1 hp
      exact ⟨d, hd.symm⟩
    have htp : Lib.trimPrefix s.data.toList [35] = d := by
      unfold Lib.trimPrefix
      rw [hp, if_pos rfl, hd]
      rfl
    have hsz : s.size = d.length + 1 := by
      have : s.data.toList.length = s.size := by simp
      rw [hd] at this
      simpa using this.symm
    rw [htp] at hcp
    obtain ⟨sd, hsd⟩ : ∃ sd : ByteArray, sd = ⟨d.toArray⟩ := ⟨_, rfl⟩
    have hsl : sd.data.toList = d := by rw [hsd]
    have hss : sd.size = d.length := by rw [hsd]; show d.toArray.size = _; simp
    rw [← hsd] at hcp
    have HST : Hid (stampB s = if d.length ≤ 12 ∧ d.all digitB = true then some (digitsVal d) else none) := Lib.hid (by
      unfold stampB
      rw [hd]
      show (if (35 : UInt8).toNat = 35 ∧ d.length ≤ 12 ∧ d.all digitB = true then some (digitsVal d) else none) = _
      simp)
    clear hp hd htp hsd
    by_cases h12 : d.length ≤ 12
    · have h12' : ¬ 12 < sd.size := by omega
      have htr := trim_at sd w (by omega)
      rw [hsl] at htr
      cases ha : d.all digitB with
      | false =>
        have hN : Hid (stampB s = none) := Lib.hid (by rw [HST.out, if_neg (fun e => by rw [ha] at e; cases e.2)])
        have hne : ((⟨(Lib.trimS d [48, 49, 50, 51, 52, 53, 54, 55, 56, 57]).toArray⟩ : ByteArray).toList == []) = false := by
          rw [beq_eq_false_iff_ne]
          intro e
          have : Lib.trimS d [48, 49, 50, 51, 52, 53, 54, 55, 56, 57] = [] := by
            rw [ByteArray.toList_eq] at e
            simpa using e
          rw [trim_digits, ha] at this
          cases this
        generalize (⟨(Lib.trimS d [48, 49, 50, 51, 52, 53, 54, 55, 56, 57]).toArray⟩ : ByteArray) = tr at htr hne
        go_wp2_with (first
          | (go_at_call 78; refine hcp.mono ?_; rintro e w1 ⟨rfl, rfl⟩)
          | (go_at_call 79; refine htr.mono ?_; rintro e w2 ⟨rfl, hb2⟩))
        go_ret2
        rw [hN.out]
        exact ⟨rfl, hb2⟩
      | true =>
        rw [(trim_digits d).2 ha] at htr
        have hS : Hid (stampB s = some (digitsVal d)) := Lib.hid (by rw [HST.out, if_pos ⟨h12, ha⟩])
        obtain ⟨ev, hv, he⟩ := hev
        cases d with
        | nil =>
          have hpi := fun w2 => parse_empty sd (by omega) (by rw [hsl]) ev w2
          go_wp2_with (first
            | (go_at_call 78; refine hcp.mono ?_; rintro e w1 ⟨rfl, rfl⟩)
            | (go_at_call 79; refine htr.mono ?_; rintro e w2 ⟨rfl, hb2⟩; have hv2 := hb2.cell (World.block_lt_of_cell? _ _ hv) |>.trans hv)
            | (go_at_call 80; refine (hpi _ hv2 he).mono ?_; rintro e w3 ⟨N, q3, rfl, hb3⟩))
          go_ret2
          rw [hS.out]
          exact ⟨rfl, hb2.trans (hb3.mono hb2.size)⟩
        | cons x d =>
          have h13 : ¬ ((12 : Int) < (d.length : Int) + 1) := by rw [List.length_cons] at h12; omega
          have h14 : (d.length : Int) + 1 ≤ 12 := by omega
          have hpi := fun w2 => Tryz.strconv_ParseInt_10_at64_ok sd (by omega) (digitsVal (x :: d)) (by rw [hsl]; exact parse_int_digits ha h12) w2
          go_wp2_with (first
            | (go_at_call 78; refine hcp.mono ?_; rintro e w1 ⟨rfl, rfl⟩)
            | (go_at_call 79; refine htr.mono ?_; rintro e w2 ⟨rfl, hb2⟩)
            | (go_at_call 80; refine (hpi _).mono ?_; rintro e w3 ⟨rfl, hw3⟩; have hb3 := parse_world hw3; clear hw3))
          go_ret2
          rw [hS.out]
          exact ⟨rfl, hb2.trans (hb3.mono hb2.size)⟩
    · have h12' : 12 < sd.size := by omega
      have hN : Hid (stampB s = none) := Lib.hid (by rw [HST.out, if_neg (fun e => h12 e.1)])
      go_wp2_with (go_at_call 78; refine hcp.mono ?_; rintro e w1 ⟨rfl, rfl⟩)
      go_ret2
      rw [hN.out]
      exact ⟨rfl, Below.refl _ _⟩
end Go.Proofs.YtofkdmmoheffbaaGreatDoor
