/- The document's file system: below, find, dir, file, free, call, goes. -/
import Derived.Test.YthchfkjdbfhnhaaGreatDoorRefA
import Derived.WalkSpells
namespace Go.Proofs.YthchfkjdbfhnhaaGreatDoor
open Go Go.RowKit Go.Lany
set_option maxRecDepth 100000
/-- It answers v, the world as it was. -/
def RetQ (v : Value) (w : World) (e : Ending) (w' : World) : Prop := e = .returned v ∧ w = w'
theorem belowR_any (p d : ByteArray) (w : World) : Calls Tryz.prog 73 #[.string p, .string d] w fun e w' => e = .returned (.bool (belowB p d)) ∧ w = w' := by
  cases e0 : (d.toList == [47]) with
  | true =>
    have hb : belowB p d = true := by unfold belowB; rw [e0, if_pos rfl]
    rw [hb]
    clear hb
    go_enter Tryz.func73, Tryz.ntmps73
    go_wp2
    go_ret
    exact ⟨rfl, rfl⟩
  | false =>
    by_cases h1 : d.size < p.size
    · cases e1 : ((p.extract 0 d.size).toList == d.toList) with
      | true =>
        have hb : belowB p d = (byteAt p d.size == 47) := by unfold belowB; rw [e0, if_neg (by simp), decide_eq_true h1, e1]; simp
        by_cases h47 : p[d.size] = 47
        · have hq : (((p[d.size].toNat : Nat) : Int) == 47) = true := by rw [h47]; rfl
          have hr : belowB p d = true := by rw [hb, ← byteAt_of h1, h47]; rfl
          rw [hr]
          clear hb hr h47
          go_enter Tryz.func73, Tryz.ntmps73
          go_wp2
          go_ret
          exact ⟨rfl, rfl⟩
        · have hq : (((p[d.size].toNat : Nat) : Int) == 47) = false := by
            have := byte_ne h47
            simpa [bne] using this
          have hr : belowB p d = false := by rw [hb, ← byteAt_of h1]; simpa using h47
          rw [hr]
          clear hb hr h47
          go_enter Tryz.func73, Tryz.ntmps73
          go_wp2
          go_ret
          exact ⟨rfl, rfl⟩
      | false =>
        have hr : belowB p d = false := by unfold belowB; rw [e0, if_neg (by simp), e1]; simp
        rw [hr]
        clear hr
        go_enter Tryz.func73, Tryz.ntmps73
        go_wp2
        go_ret
        exact ⟨rfl, rfl⟩
    · have hr : belowB p d = false := by unfold belowB; rw [e0, if_neg (by simp), decide_eq_false h1]; simp
      rw [hr]
      clear hr
      go_enter Tryz.func73, Tryz.ntmps73
      go_wp2
      go_ret
      exact ⟨rfl, rfl⟩
section
variable {W : World} {r : Nat} {G : Nat → Prop} {s : FsSt} {v : Value} {K Kp : Int} {vs : List (ByteArray × Value)} {fs : List (ByteArray × ByteArray)}
theorem findR_at (h : RA W r G s v K Kp vs fs) (hl : fs.length ≤ 4096) (p : ByteArray) : Calls Tryz.prog 51 #[.pointer (some ⟨r, 0, none⟩), .string p] W (RetQ (.int .i64 (intOfI (findI fs p))) W) := by
  obtain ⟨c0, -, -, -, -, -, -⟩ := h.cells
  obtain ⟨a, cap, rfl, hf⟩ := h.form
  have HF := Lib.hid hf
  clear h hf
  go_enter Tryz.func51, Tryz.ntmps51
  go_wp2
  go_loop [5] (fun i => ∃ k : Nat, k ≤ fs.length ∧ i = .int .i64 k ∧ ∀ j, j < k → ∀ y, fs[j]? = some y → ¬ y.1 = p) (fun i => fs.length - (intOf i).toNat)
  case atStart => exact ⟨0, Nat.zero_le _, rfl, fun j hj => by omega⟩
  case round =>
    obtain ⟨k, hk, rfl, hno⟩ := hrel
    have HN := Lib.hid hno
    clear hno
    by_cases hlt : k < fs.length
    · obtain ⟨x, hx⟩ : ∃ x, fs[k]? = some x := ⟨_, List.getElem?_eq_getElem hlt⟩
      obtain ⟨g, u, rfl, -, h1, -, -, -⟩ := HF.out k x hx
      have HX := Lib.hid hx
      clear hx
      cases e : (x.1.toList == p.toList) with
      | true =>
        have he : x.1 = p := bytes_eq (by rw [← toList_data, ← toList_data]; exact eq_of_beq e)
        have HE := Lib.hid he
        clear he
        go_wp2
        go_ret
        refine ⟨ret_int ?_, rfl⟩
        rw [findI_at HX.out HE.out HN.out]
        rfl
      | false =>
        have he : ¬ x.1 = p := fun h => by rw [h] at e; simp at e
        have HE := Lib.hid he
        clear he
        go_wp2
        go_round
        case rel =>
          refine ⟨k + 1, by omega, by go_num, fun j hj y hy => ?_⟩
          rcases Nat.lt_succ_iff_lt_or_eq.1 hj with h' | h'
          · exact HN.out j h' y hy
          · subst h'
            rw [HX.out] at hy
            cases hy
            exact HE.out
        case measure => simp [intOf]; omega
    · obtain rfl : k = fs.length := by omega
      go_wp2
      go_ret
      refine ⟨ret_int ?_, rfl⟩
      rw [findI_no fun j y hy => HN.out j (List.getElem?_eq_some_iff.1 hy).1 y hy]
      rfl
theorem any_upto {l : List (ByteArray × ByteArray)} {t : ByteArray → Bool} (h : ∀ j, j < l.length → ∀ y, l[j]? = some y → t y.1 = false) : (akeys l).any t = false := by
  rw [List.any_eq_false]
  intro x hx
  obtain ⟨y, hy, rfl⟩ := List.mem_map.1 hx
  obtain ⟨j, hj⟩ := List.getElem?_of_mem hy
  rw [h j (List.getElem?_eq_some_iff.1 hj).1 y hj]
  simp
theorem any_at {l : List (ByteArray × ByteArray)} {t : ByteArray → Bool} {k : Nat} {y : ByteArray × ByteArray} (h : l[k]? = some y) (ht : t y.1 = true) : (akeys l).any t = true :=
  List.any_eq_true.2 ⟨y.1, List.mem_map.2 ⟨y, List.mem_of_getElem? h, rfl⟩, ht⟩
theorem dirR_at (h : RA W r G s v K Kp vs fs) (hw : s.Wf) (hl : fs.length ≤ 4096) (p : ByteArray) : Calls Tryz.prog 58 #[.pointer (some ⟨r, 0, none⟩), .string p] W (RetQ (.bool (dirB (akeys s.files) p ⟨#[]⟩)) W) := by
  obtain ⟨c0, -, -, -, -, -, -⟩ := h.cells
  obtain ⟨a, cap, rfl, hf⟩ := h.form
  have hd := dir_iff (d := p) hw (has_keys h.sorts.has)
  rw [hd]
  have HF := Lib.hid hf
  clear h hf hd hw
  go_enter Tryz.func58, Tryz.ntmps58
  go_wp2
  go_loop [5] (fun i => ∃ k : Nat, k ≤ fs.length ∧ i = .int .i64 k ∧ ∀ j, j < k → ∀ y, fs[j]? = some y → belowB y.1 p = false) (fun i => fs.length - (intOf i).toNat)
  case atStart => exact ⟨0, Nat.zero_le _, rfl, fun j hj => by omega⟩
  case round =>
    obtain ⟨k, hk, rfl, hno⟩ := hrel
    have HN := Lib.hid hno
    clear hno
    by_cases hlt : k < fs.length
    · obtain ⟨x, hx⟩ : ∃ x, fs[k]? = some x := ⟨_, List.getElem?_eq_getElem hlt⟩
      obtain ⟨g, u, rfl, -, h1, -, -, -⟩ := HF.out k x hx
      have hb := belowR_any x.1 p W
      have HX := Lib.hid hx
      clear hx
      cases e : belowB x.1 p with
      | true =>
        rw [e] at hb
        have HE := Lib.hid e
        clear e
        go_wp2_with (go_at_call 73; refine hb.mono ?_; rintro e w' ⟨rfl, rfl⟩)
        go_ret
        refine ⟨ret_bool ?_, rfl⟩
        rw [any_at (t := fun q => belowB q p) HX.out HE.out]; rfl
      | false =>
        rw [e] at hb
        have HE := Lib.hid e
        clear e
        go_wp2_with (go_at_call 73; refine hb.mono ?_; rintro e w' ⟨rfl, rfl⟩)
        go_round
        case rel =>
          refine ⟨k + 1, by omega, by go_num, fun j hj y hy => ?_⟩
          rcases Nat.lt_succ_iff_lt_or_eq.1 hj with h' | h'
          · exact HN.out j h' y hy
          · subst h'
            rw [HX.out] at hy
            cases hy
            exact HE.out
        case measure => simp [intOf]; omega
    · obtain rfl : k = fs.length := by omega
      go_wp2
      go_ret
      refine ⟨ret_bool ?_, rfl⟩
      rw [any_upto (t := fun q => belowB q p) HN.out]
      simp
theorem find_isFile (h : RA W r G s v K Kp vs fs) (p : ByteArray) : (intOfI (findI fs p) < 0 ↔ isFile s p = false) := by
  unfold isFile
  rw [← h.sorts.has p]
  cases hf : findI fs p with
  | none => rw [findI_none.1 hf]; simp [intOfI]
  | some i =>
    obtain ⟨b, h1, h2⟩ := findI_some hf
    rw [h2]
    simp [intOfI]
theorem fileR_at (h : RA W r G s v K Kp vs fs) (hw : s.Wf) (hl : fs.length ≤ 4096) (p : ByteArray) : Calls Tryz.prog 50 #[.pointer (some ⟨r, 0, none⟩), .string p] W (RetQ (.int .i64 (thereE s p)) W) := by
  have hd := dirR_at h hw hl p
  have hf := findR_at h hl p
  have hi := find_isFile h p
  have HI := Lib.hid hi
  clear h hw hi
  unfold thereE
  cases e : dirB (akeys s.files) p ⟨#[]⟩ with
  | true =>
    rw [e] at hd
    go_enter Tryz.func50, Tryz.ntmps50
    go_wp2_with (go_at_call 58; refine hd.mono ?_; rintro e w' ⟨rfl, rfl⟩)
    go_ret
    exact ⟨rfl, rfl⟩
  | false =>
    rw [e] at hd
    cases e2 : isFile s p with
    | true =>
      have hlt : ¬ intOfI (findI fs p) < 0 := fun h => by rw [HI.out.1 h] at e2; cases e2
      go_enter Tryz.func50, Tryz.ntmps50
      go_wp2_with (first | (go_at_call 58; refine hd.mono ?_; rintro e w' ⟨rfl, rfl⟩) | (go_at_call 51; refine hf.mono ?_; rintro e w' ⟨rfl, rfl⟩))
      go_ret
      exact ⟨rfl, rfl⟩
    | false =>
      have hlt : intOfI (findI fs p) < 0 := HI.out.2 e2
      go_enter Tryz.func50, Tryz.ntmps50
      go_wp2_with (first | (go_at_call 58; refine hd.mono ?_; rintro e w' ⟨rfl, rfl⟩) | (go_at_call 51; refine hf.mono ?_; rintro e w' ⟨rfl, rfl⟩))
      go_ret
      exact ⟨rfl, rfl⟩
theorem freeR_at (h : RA W r G s v K Kp vs fs) (hw : s.Wf) (hl : fs.length ≤ 4096) (p : ByteArray) : Calls Tryz.prog 55 #[.pointer (some ⟨r, 0, none⟩), .string p] W (RetQ (.int .i64 (freeE s p ⟨#[]⟩)) W) := by
  have hd := dirR_at h hw hl p
  obtain ⟨c0, -, -, -, -, -, -⟩ := h.cells
  obtain ⟨a, cap, rfl, hf⟩ := h.form
  have hfr := free_iff (p := p) hw
  rw [any_keys (fun x => (has_keys h.sorts.has x).symm) (fun k => belowB p k)] at hfr
  obtain ⟨fe, hfe⟩ : ∃ fe, fe = freeE s p ⟨#[]⟩ := ⟨_, rfl⟩
  rw [← hfe] at hfr ⊢
  have HF := Lib.hid hf
  have HR := Lib.hid hfr
  clear h hf hfr hw hfe
  cases e0 : dirB (akeys s.files) p ⟨#[]⟩ with
  | true =>
    rw [e0] at hd
    have hv : (24 : Int) = fe := by rw [HR.out, e0, if_pos rfl]
    rw [← hv]
    clear hv
    go_enter Tryz.func55, Tryz.ntmps55
    go_wp2_with (go_at_call 58; refine hd.mono ?_; rintro e w' ⟨rfl, rfl⟩)
    go_ret
    exact ⟨rfl, rfl⟩
  | false =>
    rw [e0] at hd
    have HV : Hid (fe = if (akeys fs).any (fun k => belowB p k) then 24 else 0) := Lib.hid (by rw [HR.out, e0, if_neg (by simp)])
    go_enter Tryz.func55, Tryz.ntmps55
    go_wp2_with (go_at_call 58; refine hd.mono ?_; rintro e w' ⟨rfl, rfl⟩)
    clear hd e0
    go_loop [5] (fun i => ∃ k : Nat, k ≤ fs.length ∧ i = .int .i64 k ∧ ∀ j, j < k → ∀ y, fs[j]? = some y → belowB p y.1 = false) (fun i => fs.length - (intOf i).toNat)
    case atStart => exact ⟨0, Nat.zero_le _, rfl, fun j hj => by omega⟩
    case round =>
      obtain ⟨k, hk, rfl, hno⟩ := hrel
      have HN := Lib.hid hno
      clear hno
      by_cases hlt : k < fs.length
      · obtain ⟨x, hx⟩ : ∃ x, fs[k]? = some x := ⟨_, List.getElem?_eq_getElem hlt⟩
        obtain ⟨g, u, rfl, -, h1, -, -, -⟩ := HF.out k x hx
        have hb := belowR_any p x.1 W
        have HX := Lib.hid hx
        clear hx
        cases e : belowB p x.1 with
        | true =>
          rw [e] at hb
          have HE := Lib.hid e
          clear e
          go_wp2_with (go_at_call 73; refine hb.mono ?_; rintro e w' ⟨rfl, rfl⟩)
          go_ret
          refine ⟨ret_int ?_, rfl⟩
          rw [HV.out, any_at (t := fun q => belowB p q) HX.out HE.out]; rfl
        | false =>
          rw [e] at hb
          have HE := Lib.hid e
          clear e
          go_wp2_with (go_at_call 73; refine hb.mono ?_; rintro e w' ⟨rfl, rfl⟩)
          go_round
          case rel =>
            refine ⟨k + 1, by omega, by go_num, fun j hj y hy => ?_⟩
            rcases Nat.lt_succ_iff_lt_or_eq.1 hj with h' | h'
            · exact HN.out j h' y hy
            · subst h'
              rw [HX.out] at hy
              cases hy
              exact HE.out
          case measure => simp [intOf]; omega
      · obtain rfl : k = fs.length := by omega
        go_wp2
        go_ret
        refine ⟨ret_int ?_, rfl⟩
        rw [HV.out, any_upto (t := fun q => belowB p q) HN.out]
        rfl
end
end Go.Proofs.YthchfkjdbfhnhaaGreatDoor
