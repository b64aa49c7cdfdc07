/- The document's file system: writes, Write, Append. -/
import Derived.Test.YthchfkjdbfhnhaaGreatDoorRefF
namespace Go.Proofs.YthchfkjdbfhnhaaGreatDoor
open Go Go.RowKit Go.Lany
set_option maxRecDepth 100000
section
variable {W : World} {r : Nat} {G : Nat → Prop} {s : FsSt} {v : Value} {K Kp : Int} {vs : List (ByteArray × Value)} {fs : List (ByteArray × ByteArray)}
def StR (r : Nat) (G : Nat → Prop) (W : World) (res : Int × FsSt) (e : Ending) (w' : World) : Prop := e = .returned (.int .i64 res.1) ∧ RAt w' r (Grow G W.heap.size) res.2 ∧ Turns G W w'
theorem RA.at_ (h : RA W r G s v K Kp vs fs) : RAt W r G s := ⟨v, K, Kp, vs, fs, h⟩
theorem RA.turnsG (h : RA W r G s v K Kp vs fs) {W1 W2 : World} (t : Turns (Own1 r) W1 W2) : Turns G W1 W2 := t.mono fun _ _ e => by rw [show _ = r from e]; exact h.inG
def oldOf (s : FsSt) (p : ByteArray) (more : Bool) : ByteArray := if more then (aget s.files p).getD ByteArray.empty else ByteArray.empty
/-- What the row has of a path, or nothing. -/
def HadAt (w : World) (s : FsSt) (p : ByteArray) (more : Bool) (v : Value) : Prop := Bytes (fun _ => True) w v (oldOf s p more)
theorem bytes_of_row' {w : World} {base n m : Nat} {a : Option Addr} {c : Nat} {x y : ByteArray} (h : w.ownsRow base 5 1 (.slice a n c) m (byteCells (ByteArray.empty ++ x ++ y))) : Bytes (fun k => base ≤ k) w (.slice a n c) (x ++ y) := by
  have : ByteArray.empty ++ x ++ y = x ++ y := by simp
  rw [this] at h
  exact bytes_of_row h
theorem extract_all (b : ByteArray) : b.extract 0 b.size = b := by simp
set_option maxHeartbeats 4000000 in
theorem writesR_at (h : RA W r G s v K Kp vs fs) (hw : s.Wf) (hl : fs.length ≤ 4096) (hml : 0 < W.heap.size) (p b : ByteArray) (vb : Value) (more : Bool) {F : Nat → Prop} (hb : Bytes F W vb b) (hF : ¬ F r) (hbs : b.size ≤ 140737488351232) :
    Calls Tryz.prog 52 #[.pointer (some ⟨r, 0, none⟩), .string p, vb, .bool more] W (StR r G W (s.write p (oldOf s p more) b)) := by
  obtain ⟨ab, cb, rfl⟩ := hb.len
  have hlk := looksR_one h p
  have HX := Lib.hid h.fault_of
  have hw2 : s.call.2.Wf := hw.call
  have hlf : fs.length = s.call.2.files.length := by rw [call_files]; exact h.sorts.length hw
  have hcf : s.call.2.files = s.files := call_files s
  have hkk : s.call.1.2.1 ≠ 0 → Kp = s.call.1.2.2 := fun e => (h.fault_of.resolve_left e).2
  have hx : 0 ≤ s.call.1.2.2 := keep_pos hw.keep
  have HH := Lib.hid h
  have HB := Lib.hid hb
  have HCF := Lib.hid hcf
  have HKK := Lib.hid hkk
  have HLF := Lib.hid hlf
  obtain ⟨i, hi⟩ : ∃ i, i = intOfI (findI fs p) := ⟨_, rfl⟩
  have HI := Lib.hid hi
  clear h hb hcf hkk hlf hi
  go_enter Tryz.func52, Tryz.ntmps52
  go_upto_region 8 with (first
    | (go_at_call 47; refine hlk.mono ?_; rintro e w1 ⟨rfl, hb1⟩; have h1 := HH.out.below hb1; have T1 := Lib.hid hb1)
    | (go_at_call 48; refine (callR_at h1).mono ?_; rintro e w2 ⟨rfl, h2, t2⟩; have T2 := Lib.hid t2)
    | (go_at_call 55; refine (freeR_at h2 hw2 hl p).mono ?_; rintro e w3 ⟨rfl, rfl⟩)
    | (go_at_call 51; have hfi := findR_at h2 hl p; rw [← HI.out] at hfi; refine hfi.mono ?_; rintro e w3 ⟨rfl, rfl⟩))
  · have e0 : ¬ looksE s [p] = 0 := ne_zero (by assumption)
    have eR : ∀ o, s.write p o b = (looksE s [p], s) := fun o => by unfold FsSt.write; rw [if_neg e0]
    go_ret
    rw [eR]
    exact ⟨rfl, (h1.grow hml).at_, Turns.of_below T1.out⟩
  · have e0 : looksE s [p] = 0 := eq_zero (by assumption)
    have E0 := Lib.hid e0
    have hii := find_isFile h2 p
    rw [← HI.out] at hii
    have H2 := Lib.hid h2
    have T := Lib.hid (Turns.lift T1.out T2.out)
    have HB2 := Lib.hid (Bytes.kept HB.out T.out fun k hk e => hF (by rw [← show k = r from e]; exact hk))
    obtain ⟨c0, -, -, c3, -, -, -⟩ := h2.cells
    obtain ⟨a, cap, rfl, hfo⟩ := h2.form
    have HFO := Lib.hid hfo
    have HI2 := Lib.hid HI.out
    clear e0 hlk hfo hfi hb1 h1 h2 t2 T1 T2
    obtain ⟨s1, hs1⟩ : ∃ s1, s1 = s.call.2 := ⟨_, rfl⟩
    obtain ⟨x1, hx1⟩ : ∃ x, x = s.call.1.2.1 := ⟨_, rfl⟩
    obtain ⟨x2, hx2⟩ : ∃ x, x = s.call.1.2.2 := ⟨_, rfl⟩
    have hold : oldOf s p more = oldOf s1 p more := by unfold oldOf; rw [hs1, HCF.out]
    have HOLD := Lib.hid hold
    have HS1 := Lib.hid hs1
    have hlf : fs.length = s1.files.length := by rw [hs1]; exact HLF.out
    have HX1 : Hid (x1 = 0 ∨ ((x1 = 1 ∨ x1 = 2 ∨ x1 = 3) ∧ Kp = x2)) := Lib.hid (by rw [hx1, hx2]; exact HX.out)
    rw [← hs1] at H2 hw2 hii ⊢
    rw [← hx1]
    rw [← hx2] at hx
    have EW : ∀ o, Hid (s.write p o b = if x1 = 1 then (20, s1) else if x1 = 0 then (if s1.writeE p o b = 0 then (0, s1.put p (o ++ b)) else (s1.writeE p o b, s1))
      else (ansOf x1, (if s1.writeE p o b = 0 then s1.put p (o ++ b.extract 0 (minLen b x2)) else s1).fall x1)) := fun o => Lib.hid (by unfold FsSt.write; rw [if_pos E0.out, ← hs1, ← hx1, ← hx2])
    clear hs1 hx1 hx2 HX HCF HKK HLF hold HI HS1
    have hxe : isFile s1 p = decide (0 ≤ i) := by
      by_cases e : i < 0
      · rw [hii.1 e, decide_eq_false (by omega)]
      · rw [decide_eq_true (by omega)]
        cases hh : isFile s1 p with
        | true => rfl
        | false => exact absurd (hii.2 hh) e
    have HXE := Lib.hid hxe
    have HIK : Hid (isFile s1 p = true → ∃ (k : Nat) (d : ByteArray), i = (k : Int) ∧ findI fs p = some k ∧ fs[k]? = some (p, d) ∧ aget s1.files p = some d) := Lib.hid fun e => by
      obtain ⟨k, d, hk, hkd, had⟩ := H2.out.found e
      exact ⟨k, d, by rw [HI2.out, hk]; rfl, hk, hkd, had⟩
    clear hxe hii
    go_cut [33] (fun v wc => v = .bool (more && isFile s1 p) ∧ w2 = wc)
    case first =>
      cases more with
      | false =>
        go_wp2
        go_meet
        exact ⟨rfl, rfl⟩
      | true =>
        go_wp2
        go_meet
        exact ⟨by rw [HXE.out]; rfl, rfl⟩
    case rest =>
      obtain ⟨rfl, rfl⟩ := hcut
      go_upto_if 33 with fail
      go_cut [13] (fun v wc => (∃ ah ch, v = .slice ah (oldOf s1 p more).size ch ∧ Bytes (fun _ => True) w2 v (oldOf s1 p more)) ∧ w2 = wc)
      case first =>
        cases hmf : (more && isFile s1 p) with
        | false =>
          go_wp2
          go_meet
          have : oldOf s1 p more = ByteArray.empty := by
            cases more with
            | false => rfl
            | true =>
              have : isFile s1 p = false := by simpa using hmf
              unfold isFile at this
              unfold oldOf
              rw [if_pos rfl, Option.isSome_eq_false_iff.1 this |> Option.isNone_iff_eq_none.1]
              rfl
          rw [this]
          exact ⟨⟨_, _, rfl, bytes_nil _ _⟩, rfl⟩
        | true =>
          have hif : isFile s1 p = true := by simp at hmf; exact hmf.2
          have hmo : more = true := by simp at hmf; exact hmf.1
          obtain ⟨k, d, rfl, hk, hkd, had⟩ := HIK.out hif
          obtain ⟨g, u, rfl, -, -, q1, -, q2⟩ := HFO.out k _ hkd
          obtain ⟨au, cu, rfl⟩ := rowF_slice q2
          have hkl : k < fs.length := (List.getElem?_eq_some_iff.1 hkd).1
          have e1 : oldOf s1 p more = d := by unfold oldOf; rw [hmo, if_pos rfl, had]; rfl
          have hbd : Bytes (fun _ => True) w2 (.slice au d.size cu) d := (bytes_of_row q2).mono fun _ _ _ => trivial
          have HBD := Lib.hid hbd
          have HE1 := Lib.hid e1
          dsimp only at q1
          clear hk hkd had e1 hbd q2 hif hmo
          go_wp2
          go_meet
          rw [HE1.out]
          exact ⟨⟨_, _, rfl, HBD.out⟩, rfl⟩
      case rest =>
        obtain ⟨⟨ah, ch, rfl, hbo⟩, rfl⟩ := hcut
        have hos : (oldOf s1 p more).size ≤ 1048576 := by
          unfold oldOf
          split
          · exact hw2.getD p
          · exact Nat.zero_le _
        generalize oldOf s1 p more = old at hbo hos HOLD
        have HBO := Lib.hid hbo
        have EW' := EW old
        have HLQ := Lib.hid hlf
        clear hbo EW hlf
        go_upto_region 10 with fail
        go_cut [63] (fun v wc => v = .bool (s1.longB p old b) ∧ w2 = wc)
        case first =>
          have HL : Hid (s1.longB p old b = ((freeE s1 p ⟨#[]⟩ == 0) && (decide (1048576 - (old.size : Int) < (b.size : Int)) || (decide (i < 0) && decide (4096 ≤ (fs.length : Int)))))) := Lib.hid (by
            unfold FsSt.longB
            rw [HXE.out, ← HLQ.out, show decide (1048576 - (old.size : Int) < (b.size : Int)) = decide (1048576 < (old.size : Int) + (b.size : Int)) from decide_eq_decide.2 (by omega), show decide (i < 0) = !decide (0 ≤ i) by rw [← decide_not]; exact decide_eq_decide.2 (by omega)])
          cases eF : (freeE s1 p ⟨#[]⟩ == 0) with
          | false =>
            rw [eF] at HL
            go_wp2
            go_meet
            exact ⟨by rw [HL.out]; rfl, rfl⟩
          | true =>
            rw [eF] at HL
            cases eS : decide (1048576 - (old.size : Int) < (b.size : Int)) with
            | true =>
              rw [eS] at HL
              go_wp2
              go_meet
              exact ⟨by rw [HL.out]; rfl, rfl⟩
            | false =>
              rw [eS] at HL
              cases eI : decide (i < 0) with
              | true =>
                rw [eI] at HL
                go_wp2
                go_meet
                exact ⟨by rw [HL.out]; rfl, rfl⟩
              | false =>
                rw [eI] at HL
                go_wp2
                go_meet
                exact ⟨by rw [HL.out]; rfl, rfl⟩
        case rest =>
          obtain ⟨rfl, rfl⟩ := hcut
          have hgr : ∀ (w7 : World) (s7 : FsSt) (v7 : Value) (vs7 : List (ByteArray × Value)) (fs7 : List (ByteArray × ByteArray)) (m : Nat), W.heap.size ≤ m → RA w7 r (Grow G m) s7 v7 K Kp vs7 fs7 → RAt w7 r (Grow G W.heap.size) s7 := fun w7 s7 v7 vs7 fs7 m hm h7 => (h7.grow2 hml hm HH.out.far).at_
          have HGR := Lib.hid hgr
          clear hgr
          rcases HX1.out with k0 | ⟨hk3, hkp⟩
          · subst k0
            cases eL : s1.longB p old b with
            | true =>
              have EW2 : Hid (s.write p old b = (3, s1)) := Lib.hid (by rw [EW'.out, if_neg (by decide), if_pos rfl]; unfold FsSt.writeE; rw [eL]; rfl)
              go_wp2
              go_ret
              rw [HOLD.out, EW2.out]
              exact ⟨rfl, (H2.out.grow hml).at_, HH.out.turnsG T.out⟩
            | false =>
              cases eF : (freeE s1 p ⟨#[]⟩ == 0) with
              | false =>
                have EW2 : Hid (s.write p old b = (freeE s1 p ⟨#[]⟩, s1)) := Lib.hid (by rw [EW'.out, if_neg (by decide), if_pos rfl, show s1.writeE p old b = freeE s1 p ⟨#[]⟩ by unfold FsSt.writeE; rw [eL]; rfl, if_neg (by simpa using eF)])
                go_wp2
                go_ret
                rw [HOLD.out, EW2.out]
                exact ⟨rfl, (H2.out.grow hml).at_, HH.out.turnsG T.out⟩
              | true =>
                have EW2 : Hid (s.write p old b = (0, s1.put p (old ++ b))) := Lib.hid (by rw [EW'.out, if_neg (by decide), if_pos rfl, show s1.writeE p old b = freeE s1 p ⟨#[]⟩ by unfold FsSt.writeE; rw [eL]; rfl, if_pos (by simpa using eF)])
                have HZ := Lib.hid (long_size eL eF)
                have hsz := HZ.out
                clear EW'
                go_wp2_with (first
                      | (go_at_call 56; have h5 := H2.out.kept (S := fun _ => False) (Turns.of_grown HG5.out fun k e => by cases e) (fun _ _ => id); refine (putR_at h5 hl (Nat.lt_of_lt_of_le hml (Nat.le_trans T.out.size HG5.out.size)) p (old ++ b) _ (F := fun k => w2.heap.size ≤ k) (bytes_of_row' HW5.out) (fun e => by have := lt_of_block H2.out.obj; omega) (by rw [ByteArray.size_append]; omega)).mono ?_; rintro e w6 ⟨rfl, h6, t6⟩; have H6 := Lib.hid (And.intro h6 t6); clear h6 t6 h5)
                      | (at_builtin; refine wpList_append_bytes rfl _ _ rfl w2.heap.size v4 _ (0 + old.size) (ByteArray.empty ++ old) (b) F rfl rfl HW4.out (Bytes.kept (S := fun _ => False) HB2.out (Turns.of_grown HG4.out fun k e => by cases e) (fun _ _ => id)) (by omega) HG4.out.size ?_; intro v5 w5 hw5 hg5; have HG5 := Lib.hid (grow_two HG4.out hg5 (fun k hk => (HW4.out.lt k hk).1)); simp only [Nat.zero_add] at hw5; obtain ⟨a5, c5, rfl⟩ := rowF_slice hw5; have HW5 := Lib.hid hw5; clear hw5 hg5)
                      | (at_builtin; refine wpList_append_bytes rfl _ _ rfl w2.heap.size _ _ 0 ByteArray.empty old _ rfl rfl (World.ownsRow_nil _ _ _ _) HBO.out (by omega) (Nat.le_refl _) ?_; intro v4 w4 hw4 hg4; have hg4' : w2.grownBy w4 none := hg4; have HG4 := Lib.hid hg4'; have HW4 := Lib.hid hw4; have c3' := hg4'.cell c3 (by simp); clear hw4 hg4 hg4'))
                go_ret
                rw [HOLD.out, EW2.out]
                obtain ⟨v6, vs6, fs6, q6⟩ := H6.out.1
                exact ⟨ret_int (zero_of eF), HGR.out _ _ _ _ _ _ (Nat.le_trans T.out.size HG5.out.size) q6, ((HH.out.turnsG T.out).trans (Turns.of_grown HG5.out fun k e => by cases e)).trans (H6.out.2.mono fun k _ e => e.elim (fun e => e ▸ HH.out.inG) fun e => (HH.out.rowG k e.symm).1)⟩
          · by_cases k1 : x1 = 1
            · subst k1
              have EW2 : Hid (s.write p old b = (20, s1)) := Lib.hid (by rw [EW'.out, if_pos rfl])
              cases eL : s1.longB p old b with
              | true =>
                go_wp2
                go_ret
                rw [HOLD.out, EW2.out]
                exact ⟨rfl, (H2.out.grow hml).at_, HH.out.turnsG T.out⟩
              | false =>
                go_wp2
                go_ret
                rw [HOLD.out, EW2.out]
                exact ⟨rfl, (H2.out.grow hml).at_, HH.out.turnsG T.out⟩
            · have k1' : (x1 == 1) = false := by simpa using k1
              have k0' : (x1 != 0) = true := by rcases hk3 with e | e | e <;> (rw [e]; decide)
              have EW1 : Hid (s.write p old b = (ansOf x1, (if s1.writeE p old b = 0 then s1.put p (old ++ b.extract 0 (minLen b x2)) else s1).fall x1)) := Lib.hid (by rw [EW'.out, if_neg k1, if_neg (by simpa using k0')])
              have HK3 := Lib.hid hk3
              subst hkp
              clear k1 hk3 EW'
              cases eL : s1.longB p old b with
              | true =>
                have EW2 : Hid (s.write p old b = (ansOf x1, s1.fall x1)) := Lib.hid (by rw [EW1.out]; unfold FsSt.writeE; rw [eL]; rfl)
                clear EW1
                go_wp2_with (go_at_call 49; refine (goesR_at H2.out HK3.out).mono ?_; rintro e w7 ⟨rfl, h7, t7⟩; have T7 := Lib.hid t7)
                go_ret
                rw [HOLD.out, EW2.out]
                exact ⟨rfl, (h7.grow hml).at_, HH.out.turnsG (T.out.trans T7.out)⟩
              | false =>
                cases eF : (freeE s1 p ⟨#[]⟩ == 0) with
                | false =>
                  have EW2 : Hid (s.write p old b = (ansOf x1, s1.fall x1)) := Lib.hid (by rw [EW1.out, show s1.writeE p old b = freeE s1 p ⟨#[]⟩ by unfold FsSt.writeE; rw [eL]; rfl, if_neg (by simpa using eF)])
                  clear EW1
                  go_wp2_with (go_at_call 49; refine (goesR_at H2.out HK3.out).mono ?_; rintro e w7 ⟨rfl, h7, t7⟩; have T7 := Lib.hid t7)
                  go_ret
                  rw [HOLD.out, EW2.out]
                  exact ⟨rfl, (h7.grow hml).at_, HH.out.turnsG (T.out.trans T7.out)⟩
                | true =>
                  have EW2 : Hid (s.write p old b = (ansOf x1, (s1.put p (old ++ b.extract 0 (minLen b Kp))).fall x1)) := Lib.hid (by rw [EW1.out, show s1.writeE p old b = freeE s1 p ⟨#[]⟩ by unfold FsSt.writeE; rw [eL]; rfl, if_pos (by simpa using eF)])
                  clear EW1
                  have HZ := Lib.hid (long_size eL eF)
                  have hsz := HZ.out
                  by_cases hkb : (b.size : Int) ≤ Kp
                  · have EW3 : Hid (s.write p old b = (ansOf x1, (s1.put p (old ++ b)).fall x1)) := Lib.hid (by rw [EW2.out, show minLen b Kp = b.size by unfold minLen; rw [if_pos hkb], extract_all])
                    have hkn : decide (Kp < (b.size : Int)) = false := decide_eq_false (by omega)
                    clear EW2 hkb
                    go_wp2_with (first
                      | (go_at_call 49; obtain ⟨v6, vs6, fs6, q6⟩ := H6.out.1; refine (goesR_at q6 HK3.out).mono ?_; rintro e w7 ⟨rfl, h7, t7⟩; have T7 := Lib.hid t7)
                      | (go_at_call 56; have h5 := H2.out.kept (S := fun _ => False) (Turns.of_grown HG5.out fun k e => by cases e) (fun _ _ => id); refine (putR_at h5 hl (Nat.lt_of_lt_of_le hml (Nat.le_trans T.out.size HG5.out.size)) p (old ++ b) _ (F := fun k => w2.heap.size ≤ k) (bytes_of_row' HW5.out) (fun e => by have := lt_of_block H2.out.obj; omega) (by rw [ByteArray.size_append]; omega)).mono ?_; rintro e w6 ⟨rfl, h6, t6⟩; have H6 := Lib.hid (And.intro h6 t6); clear h6 t6 h5)
                      | (at_builtin; refine wpList_append_bytes rfl _ _ rfl w2.heap.size v4 _ (0 + old.size) (ByteArray.empty ++ old) (b) F rfl rfl HW4.out (Bytes.kept (S := fun _ => False) HB2.out (Turns.of_grown HG4.out fun k e => by cases e) (fun _ _ => id)) (by omega) HG4.out.size ?_; intro v5 w5 hw5 hg5; have HG5 := Lib.hid (grow_two HG4.out hg5 (fun k hk => (HW4.out.lt k hk).1)); simp only [Nat.zero_add] at hw5; obtain ⟨a5, c5, rfl⟩ := rowF_slice hw5; have HW5 := Lib.hid hw5; clear hw5 hg5)
                      | (at_builtin; refine wpList_append_bytes rfl _ _ rfl w2.heap.size _ _ 0 ByteArray.empty old _ rfl rfl (World.ownsRow_nil _ _ _ _) HBO.out (by omega) (Nat.le_refl _) ?_; intro v4 w4 hw4 hg4; have hg4' : w2.grownBy w4 none := hg4; have HG4 := Lib.hid hg4'; have HW4 := Lib.hid hw4; have c3' := hg4'.cell c3 (by simp); clear hw4 hg4 hg4'))
                    go_ret
                    rw [HOLD.out, EW3.out]
                    exact ⟨rfl, HGR.out _ _ _ _ _ _ (Nat.le_trans T.out.size HG5.out.size) h7, (((HH.out.turnsG T.out).trans (Turns.of_grown HG5.out fun k e => by cases e)).trans (H6.out.2.mono fun k _ e => e.elim (fun e => e ▸ HH.out.inG) fun e => (HH.out.rowG k e.symm).1)).trans (HH.out.turnsG T7.out)⟩
                  · obtain ⟨k, rfl⟩ := Int.eq_ofNat_of_zero_le hx
                    have EW3 : Hid (s.write p old b = (ansOf x1, (s1.put p (old ++ b.extract 0 k)).fall x1)) := Lib.hid (by rw [EW2.out, show minLen b (k : Int) = k by unfold minLen; rw [if_neg hkb]; simp])
                    have hkn : k < b.size := by omega
                    have hkb' : k ≤ b.size := by omega
                    have HBE := Lib.hid (HB2.out.take hkb')
                    have hes : (b.extract 0 k).size = k := by rw [ByteArray.size_extract]; omega
                    have hkc : (k : Int) ≤ (cb : Int) := by have := HB.out.cap; omega
                    have hk0 : (0 : Int) ≤ (k : Int) := by omega
                    clear EW2 hkb
                    go_wp2_with (first
                      | (go_at_call 49; obtain ⟨v6, vs6, fs6, q6⟩ := H6.out.1; refine (goesR_at q6 HK3.out).mono ?_; rintro e w7 ⟨rfl, h7, t7⟩; have T7 := Lib.hid t7)
                      | (go_at_call 56; have h5 := H2.out.kept (S := fun _ => False) (Turns.of_grown HG5.out fun k e => by cases e) (fun _ _ => id); refine (putR_at h5 hl (Nat.lt_of_lt_of_le hml (Nat.le_trans T.out.size HG5.out.size)) p (old ++ b.extract 0 k) _ (F := fun k => w2.heap.size ≤ k) (bytes_of_row' HW5.out) (fun e => by have := lt_of_block H2.out.obj; omega) (by rw [ByteArray.size_append]; omega)).mono ?_; rintro e w6 ⟨rfl, h6, t6⟩; have H6 := Lib.hid (And.intro h6 t6); clear h6 t6 h5)
                      | (at_builtin; refine wpList_append_bytes rfl _ _ rfl w2.heap.size v4 _ (0 + old.size) (ByteArray.empty ++ old) (b.extract 0 k) F rfl rfl HW4.out (Bytes.kept (S := fun _ => False) HBE.out (Turns.of_grown HG4.out fun k e => by cases e) (fun _ _ => id)) (by omega) HG4.out.size ?_; intro v5 w5 hw5 hg5; have HG5 := Lib.hid (grow_two HG4.out hg5 (fun k hk => (HW4.out.lt k hk).1)); simp only [Nat.zero_add, hes] at hw5; obtain ⟨a5, c5, rfl⟩ := rowF_slice hw5; have HW5 := Lib.hid hw5; clear hw5 hg5)
                      | (at_builtin; refine wpList_append_bytes rfl _ _ rfl w2.heap.size _ _ 0 ByteArray.empty old _ rfl rfl (World.ownsRow_nil _ _ _ _) HBO.out (by omega) (Nat.le_refl _) ?_; intro v4 w4 hw4 hg4; have hg4' : w2.grownBy w4 none := hg4; have HG4 := Lib.hid hg4'; have HW4 := Lib.hid hw4; have c3' := hg4'.cell c3 (by simp); clear hw4 hg4 hg4'))
                    go_ret
                    rw [HOLD.out, EW3.out]
                    exact ⟨rfl, HGR.out _ _ _ _ _ _ (Nat.le_trans T.out.size HG5.out.size) h7, (((HH.out.turnsG T.out).trans (Turns.of_grown HG5.out fun k e => by cases e)).trans (H6.out.2.mono fun k _ e => e.elim (fun e => e ▸ HH.out.inG) fun e => (HH.out.rowG k e.symm).1)).trans (HH.out.turnsG T7.out)⟩
theorem writeR_at (h : RA W r G s v K Kp vs fs) (hw : s.Wf) (hl : fs.length ≤ 4096) (hml : 0 < W.heap.size) (p b : ByteArray) (vb : Value) {F : Nat → Prop} (hb : Bytes F W vb b) (hF : ¬ F r) (hbs : b.size ≤ 140737488351232) :
    Calls Tryz.prog 16 #[.pointer (some ⟨r, 0, none⟩), .string p, vb] W (StR r G W (s.write p ByteArray.empty b)) := by
  have hc := writesR_at h hw hl hml p b vb false hb hF hbs
  clear h hb
  go_enter Tryz.func16, Tryz.ntmps16
  go_wp2_with (go_at_call 52; refine hc.mono ?_; rintro e w1 ⟨rfl, h1, t1⟩)
  go_ret
  exact ⟨rfl, h1, t1⟩
theorem appendR_at (h : RA W r G s v K Kp vs fs) (hw : s.Wf) (hl : fs.length ≤ 4096) (hml : 0 < W.heap.size) (p b : ByteArray) (vb : Value) {F : Nat → Prop} (hb : Bytes F W vb b) (hF : ¬ F r) (hbs : b.size ≤ 140737488351232) :
    Calls Tryz.prog 18 #[.pointer (some ⟨r, 0, none⟩), .string p, vb] W (StR r G W (s.write p ((aget s.files p).getD ByteArray.empty) b)) := by
  have hc := writesR_at h hw hl hml p b vb true hb hF hbs
  clear h hb
  go_enter Tryz.func18, Tryz.ntmps18
  go_wp2_with (go_at_call 52; refine hc.mono ?_; rintro e w1 ⟨rfl, h1, t1⟩)
  go_ret
  exact ⟨rfl, h1, t1⟩
end
end Go.Proofs.YthchfkjdbfhnhaaGreatDoor
