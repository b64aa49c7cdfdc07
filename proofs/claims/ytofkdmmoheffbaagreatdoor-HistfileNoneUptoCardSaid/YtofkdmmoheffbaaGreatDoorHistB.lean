/- Stamps: the document's. -/
import Derived.Test.YtofkdmmoheffbaaGreatDoorHistP
namespace Go.Proofs.YtofkdmmoheffbaaGreatDoor
open Go Go.RowKit Go.Lany
set_option maxRecDepth 100000
def StampQ (o : Option Nat) (w : World) (e : Ending) (w' : World) : Prop := e = .returned (.tuple #[.int .i64 ((o.getD 0 : Nat) : Int), .bool o.isSome]) ∧ w = w'
theorem at_get (p : ByteArray) (k : Nat) (h : k < p.size) : p.data.toList[k]! = p[k] := by
  rw [List.getElem!_eq_getElem?_getD, List.getElem?_eq_getElem (by simpa using h)]
  rfl
theorem stamp_none_of {s : ByteArray} (h : ¬ (1 ≤ s.size ∧ s.size ≤ 13 ∧ ∀ c, s.data.toList[0]? = some c → c.toNat = 35)) : stampB s = none := by
  unfold stampB
  have hl : s.data.toList.length = s.size := by simp
  cases hd : s.data.toList with
  | nil => rfl
  | cons c d =>
    rw [hd] at hl h
    show (if c.toNat = 35 ∧ d.length ≤ 12 ∧ d.all digitB = true then some (digitsVal d) else none) = none
    rw [if_neg]
    rintro ⟨h1, h2, -⟩
    simp at hl h
    exact h (by omega) (by omega) h1
set_option maxHeartbeats 2000000 in
theorem stampR_at (s : ByteArray) (hs : s.size ≤ 140737488351232) (w : World) : Calls Tryz.prog 33 #[.string s] w (StampQ (stampB s) w) := by
  by_cases h0 : s.size < 1
  · have hN : Hid (stampB s = none) := Lib.hid (stamp_none_of (by omega))
    go_enter Tryz.func33, Tryz.ntmps33
    go_wp2
    go_ret2
    rw [hN.out]
    exact ⟨rfl, rfl⟩
  · by_cases h13 : 13 < s.size
    · have hN : Hid (stampB s = none) := Lib.hid (stamp_none_of (by omega))
      go_enter Tryz.func33, Tryz.ntmps33
      go_wp2
      go_ret2
      rw [hN.out]
      exact ⟨rfl, rfl⟩
    · have hz : 0 < s.size := by omega
      by_cases h35 : s[0] = 35
      · have h35' : (((s[0].toNat : Nat) : Int) != 35) = false := by rw [h35]; rfl
        go_enter Tryz.func33, Tryz.ntmps33
        go_wp2
        have hd : ∃ d, s.data.toList = 35 :: d := by
          cases hl : s.data.toList with
          | nil =>
            have : s.data.toList.length = s.size := by simp
            rw [hl] at this
            simp at this
            omega
          | cons c d =>
            have := at_get s 0 hz
            rw [hl] at this
            have hc : c = s[0] := by simpa using this
            exact ⟨d, by rw [hc, h35]⟩
        obtain ⟨d, hd⟩ := hd
        have hdl : d.length + 1 = s.size := by
          have : s.data.toList.length = s.size := by simp
          rw [hd] at this
          simpa using this
        have HST : Hid (stampB s = if d.all digitB = true then some (digitsVal d) else none) := Lib.hid (by
          unfold stampB
          rw [hd]
          show (if (35 : UInt8).toNat = 35 ∧ d.length ≤ 12 ∧ d.all digitB = true then some (digitsVal d) else none) = _
          rw [show (35 : UInt8).toNat = 35 from rfl]
          simp only [true_and]
          by_cases h : d.all digitB = true
          · rw [if_pos ⟨by omega, h⟩, if_pos h]
          · rw [if_neg (fun e => h e.2), if_neg h])
        have HD := Lib.hid hd
        clear hd
        go_loopw [4, 5] (fun n i wr => ∃ k : Nat, k ≤ d.length ∧ i = .int .i64 ((k : Int) + 1) ∧ n = .int .i64 (digitsVal (d.take k)) ∧ (d.take k).all digitB = true ∧ wr = w) (fun _ i _ => s.size - (intOf i).toNat)
        case atStart => exact ⟨0, Nat.zero_le _, rfl, rfl, rfl, rfl⟩
        case round =>
          obtain ⟨k, hk, rfl, rfl, hall, rfl⟩ := hrel
          have HA := Lib.hid hall
          have hval := digitsVal_lt (d.take k) hall
          have hpw : 10 ^ (d.take k).length ≤ 10 ^ 12 := Nat.pow_le_pow_right (by decide) (by rw [List.length_take]; omega)
          have hv12 : digitsVal (d.take k) < 1000000000000 := Nat.lt_of_lt_of_le hval hpw
          obtain ⟨n, hn⟩ : ∃ n, n = digitsVal (d.take k) := ⟨_, rfl⟩
          rw [← hn] at hv12 ⊢
          have HN := Lib.hid hn
          clear hall hval hpw hn
          by_cases hlt : k < d.length
          · have hidx : k + 1 < s.size := by omega
            have hdk : d[k] = s[k + 1] := by
              have := at_get s (k + 1) hidx
              rw [HD.out] at this
              rw [← this, List.getElem!_eq_getElem?_getD, List.getElem?_cons_succ, List.getElem?_eq_getElem hlt]
              rfl
            have HDK := Lib.hid hdk
            clear hdk
            by_cases h48 : s[k + 1].toNat < 48
            · have hN : Hid (stampB s = none) := Lib.hid (by
                rw [HST.out, if_neg]
                intro e
                have := List.all_eq_true.1 e d[k] (List.getElem_mem _)
                rw [HDK.out] at this
                unfold digitB at this
                simp only [Bool.and_eq_true, decide_eq_true_eq] at this
                omega)
              go_wp2
              go_ret2
              rw [hN.out]
              exact ⟨rfl, rfl⟩
            · by_cases h57 : 57 < s[k + 1].toNat
              · have hN : Hid (stampB s = none) := Lib.hid (by
                  rw [HST.out, if_neg]
                  intro e
                  have := List.all_eq_true.1 e d[k] (List.getElem_mem _)
                  rw [HDK.out] at this
                  unfold digitB at this
                  simp only [Bool.and_eq_true, decide_eq_true_eq] at this
                  omega)
                go_wp2
                go_ret2
                rw [hN.out]
                exact ⟨rfl, rfl⟩
              · go_wp2
                have hds : d.take (k + 1) = d.take k ++ [d[k]] := by rw [List.take_add_one, List.getElem?_eq_getElem hlt]; rfl
                have hdg : digitB d[k] = true := by
                  rw [HDK.out]
                  unfold digitB
                  simp only [Bool.and_eq_true, decide_eq_true_eq]
                  omega
                refine ⟨⟨k + 1, by omega, by go_num, ?_, ?_, trivial⟩, by simp [intOf]; omega⟩
                · rw [hds, digitsVal_snoc, ← HN.out, HDK.out]
                  congr 1
                  omega
                · rw [hds, List.all_append, HA.out]
                  simp [hdg]
          · obtain rfl : k = d.length := by omega
            go_wp2
            go_ret2
            have ha := HA.out
            rw [List.take_length] at ha
            have hn := HN.out
            rw [List.take_length] at hn
            rw [HST.out, if_pos ha, hn]
            exact ⟨rfl, rfl⟩
      · have h35' : (((s[0].toNat : Nat) : Int) != 35) = true := bne_iff_ne.2 fun e => h35 (UInt8.toNat_inj.1 (by have : (35 : UInt8).toNat = 35 := rfl; omega))
        have hN : Hid (stampB s = none) := Lib.hid (stamp_none_of (by
          rintro ⟨-, -, h⟩
          have hg := at_get s 0 hz
          cases hl : s.data.toList with
          | nil =>
            have : s.data.toList.length = s.size := by simp
            rw [hl] at this
            simp at this
            omega
          | cons c d =>
            rw [hl] at hg h
            have hc : c = s[0] := by simpa using hg
            have := h c (by simp)
            rw [hc] at this
            exact h35 (UInt8.toNat_inj.1 this)))
        go_enter Tryz.func33, Tryz.ntmps33
        go_wp2
        go_ret2
        rw [hN.out]
        exact ⟨rfl, rfl⟩
end Go.Proofs.YtofkdmmoheffbaaGreatDoor
