/- The document's file system: names, List. -/
import Derived.Test.YthchfkjdbfhnhaaGreatDoorRefI
namespace Go.Proofs.YthchfkjdbfhnhaaGreatDoor
open Go Go.RowKit Go.Lany
set_option maxRecDepth 100000
def EndOf (p : ByteArray) (fr e : Nat) : Prop := fr ≤ e ∧ e ≤ p.size ∧ (∀ j, fr ≤ j → j < e → byteAt p j ≠ 47) ∧ (e < p.size → byteAt p e = 47)
theorem occ_one (xs : List UInt8) (i : Nat) : Lib.occAt xs [47] i = (xs[i]? == some 47) := by
  unfold Lib.occAt
  rw [← List.head?_drop]
  cases xs.drop i with
  | nil => rfl
  | cons a l =>
    simp only [List.isPrefixOf, List.head?_cons, Bool.and_true]
    by_cases e : a = 47
    · subst e; rfl
    · have e' : ¬ (47 : UInt8) = a := fun h => e h.symm
      simp [e, e']
      rw [beq_eq_false_iff_ne.2 e', beq_eq_false_iff_ne.2 e]
theorem byte_get {p : ByteArray} {j : Nat} (h : j < p.size) : p.data.toList[j]? = some (byteAt p j) := by
  unfold byteAt
  have h' : j < p.data.size := h
  rw [Array.getElem?_toList, Array.getD_eq_getD_getElem?, Array.getElem?_eq_getElem h']
  rfl
theorem extract_both (p : ByteArray) (i j : Nat) : (p.extract i j).data.toList = (p.data.toList.drop i).take (j - i) := by
  rw [ByteArray.data_extract, Array.toList_extract]
theorem name_end {p dd : ByteArray} {e : Nat} (hp : Lib.hasPrefix p.data.toList dd.data.toList = true) (h : EndOf p dd.size e) : (if e < p.size then p.extract dd.size e ++ slash else p.extract dd.size e) = nameOf dd p := by
  obtain ⟨h1, h2, h3, h4⟩ := h
  have hl : dd.data.toList.length = dd.size := by simp
  have hps : p.data.toList.length = p.size := by simp
  have hr : (restOf dd p).data.toList = p.data.toList.drop dd.size := by
    unfold restOf Lib.trimPrefix
    rw [hp, if_pos rfl, hl]
  have hget : ∀ i, (p.data.toList.drop dd.size)[i]? = p.data.toList[dd.size + i]? := fun i => by rw [List.getElem?_drop]
  have hno : ∀ j, j < e - dd.size → Lib.occAt (p.data.toList.drop dd.size) [47] j = false := fun j hj => by
    rw [occ_one, hget, byte_get (by omega)]
    have := h3 (dd.size + j) (by omega) (by omega)
    simpa using this
  unfold nameOf
  rw [hr]
  by_cases hlt : e < p.size
  · have hi : Lib.index (p.data.toList.drop dd.size) [47] = ((e - dd.size : Nat) : Int) := Lib.index_first (by rw [List.length_drop]; omega) (by rw [occ_one, hget, byte_get (by omega), show dd.size + (e - dd.size) = e by omega, h4 hlt]; rfl) hno
    have hc : Lib.cut (p.data.toList.drop dd.size) [47] = ((p.data.toList.drop dd.size).take (e - dd.size), (p.data.toList.drop dd.size).drop (e - dd.size + 1), true) := by
      unfold Lib.cut
      rw [hi, if_pos (Int.natCast_nonneg _)]
      rfl
    rw [hc, if_pos hlt, if_pos rfl]
    congr 1
    apply bytes_eq
    rw [extract_both]
  · have he : e = p.size := by omega
    have hi : Lib.index (p.data.toList.drop dd.size) [47] = -1 := Lib.index_none fun j hj => by
      rcases Nat.lt_or_ge j (e - dd.size) with h | h
      · exact hno j h
      · rw [occ_one, hget, List.getElem?_eq_none (by omega)]; rfl
    have hc : Lib.cut (p.data.toList.drop dd.size) [47] = (p.data.toList.drop dd.size, [], false) := by
      unfold Lib.cut
      rw [hi, if_neg (by decide)]
    rw [hc, if_neg hlt, if_neg (by simp)]
    apply bytes_eq
    rw [extract_both, List.take_of_length_le (by rw [List.length_drop]; omega)]
theorem below_in {p d : ByteArray} (hp : goodB p = true) : belowB p d = inDir (dirOf d) p := by
  unfold inDir dirOf
  cases e : (d.toList == [47]) with
  | true =>
    have hd : d.data.toList = [47] := by rw [← toList_data]; exact eq_of_beq e
    unfold belowB
    rw [e, if_pos rfl, if_pos rfl, hd]
    unfold goodB at hp
    simp only [Bool.and_eq_true] at hp
    exact hp.1.2.symm
  | false =>
    rw [if_neg (by simp)]
    exact belowB_eq e
def NamesPost (W : World) (l : List ByteArray) (e : Ending) (w' : World) : Prop := ∃ v, e = .returned v ∧ w'.ownsRow W.heap.size 9 1 v l.length (strs l) ∧ Below W.heap.size W w'
/-- What is gathered of the first k files. -/
structure NamesRel (W : World) (fs : List (ByteArray × ByteArray)) (d : ByteArray) (k : Nat) (v6 : Value) (wr : World) (l : List ByteArray) : Prop where
  row : wr.ownsRow W.heap.size 9 1 v6 l.length (strs l)
  up : Rising l
  mem : ∀ y, y ∈ l ↔ ∃ p ∈ akeys (fs.take k), belowB p d = true ∧ nameOf (dirOf d) p = y
  len : l.length ≤ k
  below : Below W.heap.size W wr
theorem keys_take {fs : List (ByteArray × ByteArray)} {k : Nat} {x : ByteArray × ByteArray} (h : fs[k]? = some x) (p : ByteArray) : p ∈ akeys (fs.take (k + 1)) ↔ p = x.1 ∨ p ∈ akeys (fs.take k) := by
  rw [List.take_add_one, h, akeys_append]
  simp only [Option.toList, List.mem_append, akeys, List.map_cons, List.map_nil, List.mem_singleton]
  exact Or.comm
theorem NamesRel.skip {W : World} {fs : List (ByteArray × ByteArray)} {d : ByteArray} {k : Nat} {v6 : Value} {wr : World} {l : List ByteArray} {x : ByteArray × ByteArray} (h : NamesRel W fs d k v6 wr l) (hx : fs[k]? = some x) (hb : belowB x.1 d = false) : NamesRel W fs d (k + 1) v6 wr l := by
  refine ⟨h.row, h.up, fun y => ?_, Nat.le_succ_of_le h.len, h.below⟩
  rw [h.mem]
  constructor
  · rintro ⟨p, hp, r⟩
    exact ⟨p, (keys_take hx p).2 (.inr hp), r⟩
  · rintro ⟨p, hp, hb', r⟩
    rcases (keys_take hx p).1 hp with e | hp
    · rw [e, hb] at hb'; cases hb'
    · exact ⟨p, hp, hb', r⟩
theorem NamesRel.more {W : World} {fs : List (ByteArray × ByteArray)} {d : ByteArray} {k : Nat} {v6 v7 : Value} {wr w7 : World} {l l' : List ByteArray} {x : ByteArray × ByteArray} (h : NamesRel W fs d k v6 wr l) (hx : fs[k]? = some x) (hb : belowB x.1 d = true)
    (h1 : w7.ownsRow W.heap.size 9 1 v7 l'.length (strs l')) (h2 : Rising l') (h3 : ∀ y, y ∈ l' ↔ y = nameOf (dirOf d) x.1 ∨ y ∈ l) (h4 : l'.length ≤ l.length + 1) (h5 : Below wr.heap.size wr w7) : NamesRel W fs d (k + 1) v7 w7 l' := by
  refine ⟨h1, h2, fun y => ?_, by have := h.len; omega, h.below.trans (h5.mono h.below.size)⟩
  rw [h3, h.mem]
  constructor
  · rintro (e | ⟨p, hp, r⟩)
    · exact ⟨x.1, (keys_take hx _).2 (.inl rfl), hb, e.symm⟩
    · exact ⟨p, (keys_take hx p).2 (.inr hp), r⟩
  · rintro ⟨p, hp, hb', r⟩
    rcases (keys_take hx p).1 hp with e | hp
    · exact .inl (by rw [← r, e])
    · exact .inr ⟨p, hp, hb', r⟩
theorem names_done {s : FsSt} {fs : List (ByteArray × ByteArray)} {d : ByteArray} {l : List ByteArray} (hs : Sorts s fs) (hw : s.Wf) (hr : Rising l) (hm : ∀ y, y ∈ l ↔ ∃ p ∈ akeys fs, belowB p d = true ∧ nameOf (dirOf d) p = y) : l = listOf (akeys s.files) (dirOf d) := by
  unfold listOf
  refine rising_eq hr (rise_rising (nodup_uniq _)) fun y => ?_
  rw [hm, mem_rise, mem_uniq, List.mem_map]
  constructor
  · rintro ⟨p, hp, hb, e⟩
    have hp' := (has_keys hs.has p).1 hp
    exact ⟨p, List.mem_filter.2 ⟨hp', by rw [← below_in (hw.good p hp')]; exact hb⟩, e⟩
  · rintro ⟨p, hp, e⟩
    obtain ⟨hp', hi⟩ := List.mem_filter.1 hp
    exact ⟨p, (has_keys hs.has p).2 hp', by rw [below_in (hw.good p hp')]; exact hi, e⟩
section
variable {W : World} {r : Nat} {G : Nat → Prop} {s : FsSt} {v : Value} {K Kp : Int} {vs : List (ByteArray × Value)} {fs : List (ByteArray × ByteArray)}
theorem dir_of_size (d : ByteArray) : (dirOf d).size = if (d.toList == [47]) then 1 else d.size + 1 := by
  unfold dirOf
  split
  · rename_i e
    have hd : d.data.toList = [47] := by rw [← toList_data]; exact eq_of_beq e
    have : d.data.toList.length = d.size := by simp
    rw [hd] at this
    simpa using this.symm
  · rw [ByteArray.size_append]; rfl
set_option maxHeartbeats 4000000 in
theorem namesR_at (h : RA W r G s v K Kp vs fs) (hw : s.Wf) (hl : fs.length ≤ 4096) (d : ByteArray) (hd : d.size ≤ 140737488351232) :
    Calls Tryz.prog 59 #[.pointer (some ⟨r, 0, none⟩), .string d] W (NamesPost W (listOf (akeys s.files) (dirOf d))) := by
  have hlr := lt_of_block h.obj
  obtain ⟨c0, -, -, -, -, -, -⟩ := h.cells
  obtain ⟨a, cap, rfl, hf⟩ := h.form
  have HF := Lib.hid hf
  have HG : Hid (∀ (k : Nat) (x : ByteArray × ByteArray), fs[k]? = some x → goodB x.1 = true) := Lib.hid fun k x hx => hw.good _ ((has_keys h.sorts.has _).1 (List.mem_map.2 ⟨x, List.mem_of_getElem? hx, rfl⟩))
  have HH := Lib.hid h
  obtain ⟨fr, hfr⟩ : ∃ fr, fr = (dirOf d).size := ⟨_, rfl⟩
  have HFR := Lib.hid hfr
  clear h hf hfr
  go_enter Tryz.func59, Tryz.ntmps59
  go_upto_if 15 with fail
  go_cut [5] (fun v wc => v = .int .i64 fr ∧ W = wc)
  case first =>
    cases e0 : (d.toList == [47]) with
    | true =>
      have HZ : Hid (fr = 1) := Lib.hid (by rw [HFR.out, dir_of_size, e0]; rfl)
      go_wp2
      go_meet
      exact ⟨by rw [HZ.out]; rfl, rfl⟩
    | false =>
      have HZ : Hid (fr = d.size + 1) := Lib.hid (by rw [HFR.out, dir_of_size, e0]; rfl)
      go_wp2
      go_meet
      exact ⟨by rw [HZ.out]; go_num, rfl⟩
  case rest =>
    obtain ⟨rfl, rfl⟩ := hcut
    have hfr : fr ≤ 140737488351233 := by rw [HFR.out, dir_of_size]; split <;> omega
    go_wp2
    go_loopw [6, 7] (fun v6 i wr => ∃ (k : Nat) (l : List ByteArray), k ≤ fs.length ∧ i = .int .i64 k ∧ NamesRel W fs d k v6 wr l) (fun _ i _ => fs.length - (intOf i).toNat)
    case atStart => exact ⟨0, [], Nat.zero_le _, rfl, World.ownsRow_nil _ _ _ _, List.Pairwise.nil, fun y => by simp [akeys], Nat.le_refl _, Below.refl _ _⟩
    case round =>
      obtain ⟨k, l, hk, rfl, hN⟩ := hrel
      have HN := Lib.hid hN
      have c0r : wr.cell? ⟨r, 0, none⟩ = some (.slice a fs.length cap) := by rw [hN.below.cell hlr, c0]
      obtain ⟨a6, c6, rfl⟩ := rowF_slice hN.row
      have hll : l.length ≤ 4096 := by have := hN.len; omega
      clear hN
      by_cases hlt : k < fs.length
      · obtain ⟨x, hx⟩ : ∃ x, fs[k]? = some x := ⟨_, List.getElem?_eq_getElem hlt⟩
        obtain ⟨g, u, rfl, -, h1, -, -, -⟩ := HF.out k x hx
        have h1r : wr.cell? ⟨g, k * 2, none⟩ = some (.string x.1) := by rw [HN.out.below.cell (World.block_lt_of_cell? _ _ h1), h1]
        have hgx := HG.out k x hx
        have hxs := good_len hgx
        have HX := Lib.hid hx
        clear hx h1
        have hbel := belowR_any x.1 d wr
        cases e : belowB x.1 d with
        | false =>
          rw [e] at hbel
          have HE := Lib.hid e
          clear e
          go_wp2_with (go_at_call 73; refine hbel.mono ?_; rintro e w' ⟨rfl, rfl⟩)
          go_roundw
          case rel => exact ⟨k + 1, l, by omega, by go_num, HN.out.skip HX.out HE.out⟩
          case measure => simp [intOf]; omega
        | true =>
          rw [e] at hbel
          have HE := Lib.hid e
          have hpre : Lib.hasPrefix x.1.data.toList (dirOf d).data.toList = true := by rw [← HE.out, below_in hgx]; rfl
          have hfx : fr ≤ x.1.size := by
            have := (hp_iff.1 hpre).length_le
            rw [HFR.out]
            simpa using this
          have HPRE := Lib.hid hpre
          clear e hpre
          go_upto_block 2 with (go_at_call 73; refine hbel.mono ?_; rintro e w' ⟨rfl, rfl⟩)
          go_cut [9] (fun v wc => ∃ e : Nat, v = .int .i64 e ∧ EndOf x.1 fr e ∧ wr = wc)
          case first =>
            go_wp2
            go_loop [9] (fun i => ∃ e : Nat, fr ≤ e ∧ e ≤ x.1.size ∧ i = .int .i64 e ∧ ∀ j, fr ≤ j → j < e → byteAt x.1 j ≠ 47) (fun i => x.1.size - (intOf i).toNat)
            case atStart => exact ⟨fr, Nat.le_refl _, hfx, rfl, fun j h1 h2 => by omega⟩
            case round =>
              obtain ⟨e, he1, he2, rfl, hno⟩ := hrel
              have HNO := Lib.hid hno
              clear hno
              by_cases hle : e < x.1.size
              · by_cases h47 : x.1[e] = 47
                · have hq : (((x.1[e].toNat : Nat) : Int) != 47) = false := byte_eq h47
                  have H47 := Lib.hid h47
                  clear h47
                  go_wp2
                  go_meet
                  exact ⟨e, rfl, ⟨he1, he2, HNO.out, fun _ => by rw [← byteAt_of hle]; exact H47.out⟩, rfl⟩
                · have hq : (((x.1[e].toNat : Nat) : Int) != 47) = true := byte_ne h47
                  have H47 := Lib.hid h47
                  clear h47
                  go_wp2
                  go_round
                  case rel =>
                    refine ⟨e + 1, by omega, by omega, by go_num, fun j h1 h2 => ?_⟩
                    rcases Nat.lt_succ_iff_lt_or_eq.1 h2 with h' | h'
                    · exact HNO.out j h1 h'
                    · subst h'
                      rw [← byteAt_of hle]
                      exact H47.out
                  case measure => simp [intOf]; omega
              · go_wp2
                go_meet
                exact ⟨e, rfl, ⟨he1, he2, HNO.out, fun h => absurd h hle⟩, rfl⟩
          case rest =>
            obtain ⟨e, rfl, hend, rfl⟩ := hcut
            have he1 := hend.1
            have he2 := hend.2.1
            have HNM : Hid ((if e < x.1.size then x.1.extract fr e ++ slash else x.1.extract fr e) = nameOf (dirOf d) x.1) := Lib.hid (by rw [HFR.out] at hend ⊢; exact name_end HPRE.out hend)
            clear hend
            go_upto_if 57 with fail
            go_cut [10] (fun v wc => v = .string (nameOf (dirOf d) x.1) ∧ wr = wc)
            case first =>
              by_cases hle : e < x.1.size
              · have HN1 : Hid (x.1.extract fr e ++ slash = nameOf (dirOf d) x.1) := Lib.hid (by rw [← HNM.out, if_pos hle])
                go_wp2
                go_meet
                exact ⟨by rw [← HN1.out]; rfl, rfl⟩
              · have HN1 : Hid (x.1.extract fr e = nameOf (dirOf d) x.1) := Lib.hid (by rw [← HNM.out, if_neg hle])
                go_wp2
                go_meet
                exact ⟨by rw [← HN1.out], rfl⟩
            case rest =>
              obtain ⟨rfl, rfl⟩ := hcut
              go_wp2_with (go_at_call 74; refine (insertR_at HN.out.below.size HN.out.up hll HN.out.row (nameOf (dirOf d) x.1)).mono ?_; rintro e7 w7 ⟨l', v7, rfl, i1, i2, i3, i4, i5⟩; have HI := Lib.hid (And.intro i1 (And.intro i2 (And.intro i3 (And.intro i4 i5)))); clear i1 i2 i3 i4 i5)
              go_roundw
              case rel =>
                obtain ⟨i1, i2, i3, i4, i5⟩ := HI.out
                exact ⟨k + 1, l', by omega, by go_num, HN.out.more HX.out HE.out i1 i2 i3 i4 i5⟩
              case measure => simp [intOf]; omega
      · obtain rfl : k = fs.length := by omega
        go_wp2
        go_ret
        have : l = listOf (akeys s.files) (dirOf d) := names_done HH.out.sorts hw HN.out.up (by have := HN.out.mem; rwa [List.take_length] at this)
        rw [← this]
        exact ⟨_, rfl, HN.out.row, HN.out.below⟩
end
end Go.Proofs.YthchfkjdbfhnhaaGreatDoor
