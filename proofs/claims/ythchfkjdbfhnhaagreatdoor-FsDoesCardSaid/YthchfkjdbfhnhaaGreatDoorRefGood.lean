/- Which paths may be: the reference's Good, walked. -/
import Derived.Test.YthchfkjdbfhnhaaGreatDoorGood
import Derived.Lib.IndexBytes
import Derived.Deep.DeepCutAuto
namespace Go.Proofs.YthchfkjdbfhnhaaGreatDoor
open Go Go.RowKit Go.Lany
set_option maxRecDepth 100000
/-- The names from a place on. -/
def namesAt (p : ByteArray) (a : Nat) : List ByteArray := Lib.splitB slash 0 (Lib.countB (p.extract a p.size) slash) (p.extract a p.size)
theorem slash_one (s : ByteArray) : Lib.indexB s slash = Lib.indexByte s.data.toList 47 := Lib.one s slash (by decide)
theorem at_extract (p : ByteArray) (a k : Nat) (h : a + k < p.size) : (p.extract a p.size).data.toList[k]? = some (p.data.toList[a + k]!) := by
  rw [Lib.extract_to_end, List.getElem?_drop, List.getElem!_eq_getElem?_getD, List.getElem?_eq_getElem (by simpa using h)]
  rfl
/-- No slash from a on. -/
theorem namesAt_last {p : ByteArray} {a : Nat} (ha : a ≤ p.size) (h : ∀ j, a ≤ j → j < p.size → p.data.toList[j]! ≠ 47) : namesAt p a = [p.extract a p.size] := by
  have hm : Lib.indexB (p.extract a p.size) slash = -1 := by
    rcases Lib.indexB_cases (p.extract a p.size) slash with e | ⟨i, e, hi⟩
    · exact e
    · exfalso
      rw [slash_one] at e
      have h1 := (Lib.indexByte_some e).1
      have hi' : i + 1 ≤ (p.extract a p.size).size := hi
      simp at hi'
      rw [at_extract p a i (by omega)] at h1
      exact h (a + i) (by omega) (by omega) (Option.some.inj h1)
  unfold namesAt
  rw [Lib.countB_miss _ _ hm]; rfl
/-- The next slash stands at i. -/
theorem namesAt_next {p : ByteArray} {a i : Nat} (ha : a ≤ i) (hi : i < p.size) (h : ∀ j, a ≤ j → j < i → p.data.toList[j]! ≠ 47) (he : p.data.toList[i]! = 47) : namesAt p a = p.extract a i :: namesAt p (i + 1) := by
  have hm : Lib.indexB (p.extract a p.size) slash = ((i - a : Nat) : Int) := by
    rcases Lib.indexB_cases (p.extract a p.size) slash with e | ⟨o, e, ho⟩
    · exfalso
      rw [slash_one] at e
      refine Lib.indexByte_none e (i - a) ?_
      rw [at_extract p a (i - a) (by omega), show a + (i - a) = i by omega, he]
    · have ho' : o + 1 ≤ (p.extract a p.size).size := ho
      simp at ho'
      rw [slash_one] at e
      obtain ⟨h1, h2⟩ := Lib.indexByte_some e
      rw [at_extract p a o (by omega)] at h1
      have h3 : ¬ o < i - a := fun hlt => h (a + o) (by omega) (by omega) (Option.some.inj h1)
      have h4 : ¬ i - a < o := fun hlt => by
        refine h2 (i - a) hlt ?_
        rw [at_extract p a (i - a) (by omega), show a + (i - a) = i by omega, he]
      rw [slash_one, e]
      congr 1
      omega
  have hs : (p.extract a p.size).extract 0 (i - a + 0) = p.extract a i := by
    rw [ByteArray.extract_extract]
    congr 1 <;> omega
  have hs2 : (p.extract a p.size).extract (i - a + slash.size) (p.extract a p.size).size = p.extract (i + 1) p.size := by
    rw [ByteArray.extract_extract, show slash.size = 1 from rfl]
    congr 1
    · omega
    · simp; omega
  unfold namesAt
  rw [Lib.countB_hit _ _ _ (by decide) hm, Nat.add_comm 1, Lib.splitB_hit _ _ _ _ _ hm, hs, hs2]
theorem at_get (p : ByteArray) (k : Nat) (h : k < p.size) : p.data.toList[k]! = p[k] := by
  rw [List.getElem!_eq_getElem?_getD, List.getElem?_eq_getElem (by simpa using h)]
  rfl
theorem byte_ne {x : UInt8} (h : x ≠ 47) : (((x.toNat : Nat) : Int) != 47) = true := bne_iff_ne.2 fun e => h (UInt8.toNat_inj.1 (by have : (47 : UInt8).toNat = 47 := rfl; omega))
theorem byte_eq {x : UInt8} (h : x = 47) : (((x.toNat : Nat) : Int) != 47) = false := by subst h; rfl
theorem prefix_slash {p : ByteArray} (h : 0 < p.size) : Lib.hasPrefix p.data.toList [47] = decide (p[0] = 47) := by
  have := at_get p 0 h
  cases hl : p.data.toList with
  | nil => have h3 : p.data.toList.length = p.size := by simp
           rw [hl] at h3; simp at h3; omega
  | cons x l =>
    rw [hl] at this
    have hx : x = p[0] := by simpa using this
    rw [← hx, Lib.hasPrefix]
    by_cases e : x = 47
    · subst e; simp [Lib.hasPrefix]
    · have e' : ¬ 47 = x := fun h => e h.symm
      simp [e, e', List.isPrefixOf]
theorem nameOk_eq (n : ByteArray) : nameOk n = (!n.toList.isEmpty && !(n.toList == [46]) && !(n.toList == [46, 46])) := by
  unfold nameOk
  cases n.toList <;> rfl
/-- Where the reference's loop stands. -/
def Walked (p : ByteArray) (a k : Nat) : Prop := (1 ≤ a ∧ a ≤ k ∧ k ≤ p.size ∧ (∀ j, a ≤ j → j < k → p.data.toList[j]! ≠ 47) ∧ goodB p = (namesAt p a).all nameOk) ∨ (k = p.size + 1 ∧ a = p.size + 1 ∧ goodB p = true)
set_option maxHeartbeats 2000000 in
theorem refGood_any (p : ByteArray) (w : World) : Calls Tryz.prog 57 #[.string p] w (BoolPost (goodB p) w) := by
  go_enter Tryz.func57, Tryz.ntmps57
  go_upto_region 1 with (fail)
  go_cut [17] (fun v17 wc => wc = w ∧ ∃ b : Bool, v17 = .bool b ∧ (b = true → goodB p = false) ∧ (b = false → p.size ≤ 1024 ∧ Walked p 1 1))
  case first =>
    cases e0 : (p.toList == []) with
    | true =>
      have hz : p.size = 0 := by
        have h := beq_iff_eq.1 e0
        rw [Lib.toList_data] at h
        rw [Lib.size_eq, h]; rfl
      go_wp2
      go_meet
      case rel => exact ⟨rfl, true, rfl, fun _ => by
        have : ¬ Lib.hasPrefix p.data.toList [47] = true := fun h => by have := prefix_one h; omega
        unfold goodB; rw [Bool.eq_false_iff.2 this]; simp, fun h => by cases h⟩
    | false =>
      by_cases h1 : 1024 < p.size
      · have h1' : decide (1024 < (p.size : Int)) = true := decide_eq_true (by omega)
        go_wp2
        go_meet
        case rel => exact ⟨rfl, true, rfl, fun _ => by unfold goodB; rw [decide_eq_false (by omega)]; rfl, fun h => by cases h⟩
      · have h1' : decide (1024 < (p.size : Int)) = false := decide_eq_false (by omega)
        have h2 : 0 < p.size := by
          rcases Nat.eq_zero_or_pos p.size with e | e
          · rw [Lib.size_eq] at e
            rw [Lib.toList_data, List.eq_nil_of_length_eq_zero e] at e0
            exact absurd e0 (by decide)
          · exact e
        have hp := prefix_slash h2
        by_cases h3 : p[0] = 47
        · have h3' := byte_eq h3
          go_wp2
          go_meet
          case rel => exact ⟨rfl, false, rfl, fun h => (by cases h), fun _ => ⟨by omega, .inl ⟨Nat.le_refl _, Nat.le_refl _, by omega, fun j h1 h2 => by omega, by
            unfold goodB; rw [hp, decide_eq_true h3, decide_eq_true (by omega)]; rfl⟩⟩⟩
        · have h3' := byte_ne h3
          go_wp2
          go_meet
          case rel => exact ⟨rfl, true, rfl, fun _ => by unfold goodB; rw [hp, decide_eq_false h3]; simp, fun h => by cases h⟩
  case rest =>
    obtain ⟨rfl, b, rfl, hb1, hb2⟩ := hcut
    cases b with
    | true =>
      have HB := Lib.hid (hb1 rfl)
      clear hb1 hb2
      go_wp2
      go_ret
      exact ⟨ret_bool HB.out, Below.refl _ _⟩
    | false =>
      obtain ⟨hsz, hw⟩ := hb2 rfl
      clear hb1 hb2
      have HW := Lib.hid hw
      clear hw
      go_wp2
      go_loop [3, 4, 5] (fun fr i _ => ∃ a k : Nat, fr = .int .i64 a ∧ i = .int .i64 k ∧ Walked p a k) (fun _ i _ => p.size + 1 - (intOf i).toNat)
      case atStart => exact ⟨1, 1, rfl, rfl, HW.out⟩
      case round =>
        obtain ⟨a, k, rfl, rfl, hw⟩ := hrel
        rcases hw with ⟨ha, hak, hk, hno, hg⟩ | ⟨rfl, rfl, hg⟩
        · have HN := Lib.hid hno
          have HG := Lib.hid hg
          clear hno hg
          by_cases hlt : k < p.size
          · by_cases hc : p[k] = 47
            · have hc' := byte_eq hc
              have hnx := Lib.hid (namesAt_next hak hlt HN.out (by rw [at_get p k hlt]; exact hc))
              cases e0 : (p.extract a k).toList.isEmpty with
              | true =>
                have hb : nameOk (p.extract a k) = false := by rw [nameOk_eq, e0]; rfl
                have HB := Lib.hid hb
                clear hb
                go_wp2
                go_ret
                exact ⟨ret_bool (by rw [HG.out, hnx.out, List.all_cons, HB.out]; rfl), Below.refl _ _⟩
              | false =>
                cases e1 : ((p.extract a k).toList == [46]) with
                | true =>
                  have hb : nameOk (p.extract a k) = false := by rw [nameOk_eq, e0, e1]; rfl
                  have HB := Lib.hid hb
                  clear hb
                  go_wp2
                  go_ret
                  exact ⟨ret_bool (by rw [HG.out, hnx.out, List.all_cons, HB.out]; rfl), Below.refl _ _⟩
                | false =>
                  cases e2 : ((p.extract a k).toList == [46, 46]) with
                  | true =>
                    have hb : nameOk (p.extract a k) = false := by rw [nameOk_eq, e0, e1, e2]; rfl
                    have HB := Lib.hid hb
                    clear hb
                    go_wp2
                    go_ret
                    exact ⟨ret_bool (by rw [HG.out, hnx.out, List.all_cons, HB.out]; rfl), Below.refl _ _⟩
                  | false =>
                    have hb : nameOk (p.extract a k) = true := by rw [nameOk_eq, e0, e1, e2]; rfl
                    have HB := Lib.hid hb
                    clear hb
                    go_wp2
                    go_round
                    case rel => exact ⟨k + 1, k + 1, by go_num, by go_num, .inl ⟨by omega, by omega, by omega, fun j h1 h2 => by omega, by rw [HG.out, hnx.out, List.all_cons, HB.out]; rfl⟩⟩
                    case measure => simp [intOf]; omega
            · have hc' := byte_ne hc
              go_wp2
              go_round
              case rel => exact ⟨a, k + 1, rfl, by go_num, .inl ⟨ha, by omega, by omega, fun j h1 h2 => by
                by_cases e : j = k
                · subst e; rw [at_get p j hlt]; exact hc
                · exact HN.out j h1 (by omega), HG.out⟩⟩
              case measure => simp [intOf]; omega
          · obtain rfl : k = p.size := by omega
            have hnx := Lib.hid (namesAt_last hak HN.out)
            cases e0 : (p.extract a p.size).toList.isEmpty with
            | true =>
              have hb : nameOk (p.extract a p.size) = false := by rw [nameOk_eq, e0]; rfl
              have HB := Lib.hid hb
              clear hb
              go_wp2
              go_ret
              exact ⟨ret_bool (by rw [HG.out, hnx.out, List.all_cons, HB.out]; rfl), Below.refl _ _⟩
            | false =>
              cases e1 : ((p.extract a p.size).toList == [46]) with
              | true =>
                have hb : nameOk (p.extract a p.size) = false := by rw [nameOk_eq, e0, e1]; rfl
                have HB := Lib.hid hb
                clear hb
                go_wp2
                go_ret
                exact ⟨ret_bool (by rw [HG.out, hnx.out, List.all_cons, HB.out]; rfl), Below.refl _ _⟩
              | false =>
                cases e2 : ((p.extract a p.size).toList == [46, 46]) with
                | true =>
                  have hb : nameOk (p.extract a p.size) = false := by rw [nameOk_eq, e0, e1, e2]; rfl
                  have HB := Lib.hid hb
                  clear hb
                  go_wp2
                  go_ret
                  exact ⟨ret_bool (by rw [HG.out, hnx.out, List.all_cons, HB.out]; rfl), Below.refl _ _⟩
                | false =>
                  have hb : nameOk (p.extract a p.size) = true := by rw [nameOk_eq, e0, e1, e2]; rfl
                  have HB := Lib.hid hb
                  clear hb
                  go_wp2
                  go_round
                  case rel => exact ⟨p.size + 1, p.size + 1, by go_num, by go_num, .inr ⟨rfl, rfl, by rw [HG.out, hnx.out, List.all_cons, HB.out]; rfl⟩⟩
                  case measure => simp [intOf]
        · have HG := Lib.hid hg
          clear hg
          go_wp2
          go_ret
          exact ⟨ret_bool HG.out, Below.refl _ _⟩
end Go.Proofs.YthchfkjdbfhnhaaGreatDoor
