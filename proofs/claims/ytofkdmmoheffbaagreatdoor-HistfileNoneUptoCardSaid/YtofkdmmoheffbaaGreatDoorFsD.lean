/- The simulated file system's calls, continued: Remove, Rename, Is. -/
import Derived.Test.YtofkdmmoheffbaaGreatDoorFsC
namespace Go.Proofs.YtofkdmmoheffbaaGreatDoor
open Go Go.RowKit Go.Lany
set_option maxRecDepth 100000
def FsSt.remove (s : FsSt) (p : ByteArray) : Int × FsSt :=
  if looksE s [p] = 0 then
    if ansOf s.call.1.2.1 = 0 then
      if thereE s.after p = 0 then (0, { s.after with files := adel s.after.files p }) else (thereE s.after p, s.after)
    else (ansOf s.call.1.2.1, s.after)
  else (looksE s [p], s)
def FsSt.rename (s : FsSt) (p q : ByteArray) : Int × FsSt :=
  if looksE s [p, q] = 0 then
    if ansOf s.call.1.2.1 = 0 then
      if thereE s.after p = 0 then
        if freeE s.after q p = 0 then (0, { s.after with files := aput (adel s.after.files p) q ((aget s.after.files p).getD ByteArray.empty) }) else (freeE s.after q p, s.after)
      else (thereE s.after p, s.after)
    else (ansOf s.call.1.2.1, s.after)
  else (looksE s [p, q], s)
/-- The map's block alone is written. -/
theorem FsAt.mapped {w w' : World} {f m c : Nat} {F : Nat → Prop} {s : FsSt} (h : FsAt w f m c F s) (t : w.grownBy w' (some m)) {fs : List (ByteArray × ByteArray)} (hm : ∃ vs, MapOf w' m vs ∧ Both (Bytes F w) vs fs) : FsAt w' f m c F { s with files := fs } := by
  obtain ⟨n1, n2, n3⟩ := h.ne
  have t' : Turns (fun k => k = m) w w' := Turns.of_grown t fun k e => (Option.some.inj e).symm
  obtain ⟨vs, h1, h2⟩ := hm
  refine ⟨(t'.block f h.lt.1 n1).trans h.obj, (t'.block c h.lt.2.2 (fun e => n3 e.symm)).trans h.cnt, ⟨vs, h1, ?_⟩, h.inF, h.far, h.ml.kept t' (fun e => h.far (e ▸ h.inF.2.1))⟩
  exact h2.mono fun _ _ _ hp => hp.kept3 h (t'.mono fun k _ e => .inr (.inl e))
theorem map3 {w w' : World} {f m c : Nat} (t : w.grownBy w' (some m)) : Turns (Own3 f m c) w w' := Turns.of_grown t fun k e => .inr (.inl (Option.some.inj e).symm)
set_option maxHeartbeats 1000000 in
theorem remove_at {w : World} {f m c : Nat} {F : Nat → Prop} {s : FsSt} (h : FsAt w f m c F s) (p : ByteArray) :
    Calls Tryz.prog 61 #[fsPtr f, .string p] w (StPost f m c F w (s.remove p)) := by
  have hlk := looks_one h p
  go_enter Tryz.func61, Tryz.ntmps61
  go_wp2_with (first
    | (go_at_call 53; refine hlk.mono ?_; rintro e w1 ⟨rfl, hb1⟩; have h1 := h.below hb1; have T1 := Lib.hid hb1)
    | (go_at_call 55; refine (call_at h1).mono ?_; rintro e w2 ⟨rfl, h2, t2⟩; have T2 := Lib.hid t2)
    | (go_at_call 54; refine (answers_at h2 _ _ _).mono ?_; rintro e w3 ⟨rfl, h3, t3⟩; have T3 := Lib.hid t3)
    | (go_at_call 56; refine (there_at h3 p (good_size (eq_zero (by assumption : (looksE s [p] != 0) = false)) (.head _))).mono ?_; rintro e w4 ⟨rfl, hb4⟩; have h4 := h3.below hb4; have T4 := Lib.hid hb4; obtain ⟨c0, -, -, -, -, -, -⟩ := h4.cells; obtain ⟨vs, hm, hb⟩ := h4.map; have HB := Lib.hid hb; clear hb)
    | (at_delete; refine wpList_delete_str 47 9 37 rfl _ _ rfl (by kernel_rfl) (by kernel_rfl) hm rfl p rfl ?_; intro w5 hm5 hg5 hs5))
  · have e0 : ¬ looksE s [p] = 0 := ne_zero (by assumption)
    have eR : s.remove p = (looksE s [p], s) := by unfold FsSt.remove; rw [if_neg e0]
    go_ret
    rw [eR]
    exact ⟨rfl, h1, Turns.of_below T1.out⟩
  · have e0 : looksE s [p] = 0 := eq_zero (by assumption)
    have e1 : ¬ ansOf s.call.1.2.1 = 0 := ne_zero (by assumption)
    have eR : s.remove p = (ansOf s.call.1.2.1, s.after) := by unfold FsSt.remove; rw [if_pos e0, if_neg e1]
    go_ret
    rw [eR]
    exact ⟨rfl, h3, (Turns.lift T1.out T2.out).trans (Own1.three T3.out)⟩
  · have e0 : looksE s [p] = 0 := eq_zero (by assumption)
    have e1 : ansOf s.call.1.2.1 = 0 := eq_zero (by assumption)
    have e2 : ¬ thereE s.after p = 0 := ne_zero (by assumption)
    have eR : s.remove p = (thereE s.after p, s.after) := by unfold FsSt.remove; rw [if_pos e0, if_pos e1, if_neg e2]
    go_ret
    rw [eR]
    exact ⟨rfl, h4, ((Turns.lift T1.out T2.out).trans (Own1.three T3.out)).trans (Turns.of_below T4.out)⟩
  · have e0 : looksE s [p] = 0 := eq_zero (by assumption)
    have e1 : ansOf s.call.1.2.1 = 0 := eq_zero (by assumption)
    have e2 : thereE s.after p = 0 := eq_zero (by assumption)
    have eR : s.remove p = (0, { s.after with files := adel s.after.files p }) := by unfold FsSt.remove; rw [if_pos e0, if_pos e1, if_pos e2]
    go_ret
    rw [eR]
    exact ⟨rfl, h4.mapped hg5 ⟨_, hm5, HB.out.del p⟩, (((Turns.lift T1.out T2.out).trans (Own1.three T3.out)).trans (Turns.of_below T4.out)).trans (map3 hg5)⟩
theorem del_cell {w w' : World} {f m c : Nat} {F : Nat → Prop} {s : FsSt} {v : Value} (h : FsAt w f m c F s) (hc : w.cell? ⟨f, 0, none⟩ = some v) (t : w.grownBy w' (some m)) : w'.cell? ⟨f, 0, none⟩ = some v :=
  t.cell hc (fun e => h.ne.1 (Option.some.inj e))
set_option maxHeartbeats 2000000 in
theorem rename_at {w : World} {f m c : Nat} {F : Nat → Prop} {s : FsSt} (h : FsAt w f m c F s) (p q : ByteArray) :
    Calls Tryz.prog 60 #[fsPtr f, .string p, .string q] w (StPost f m c F w (s.rename p q)) := by
  have hlk := looks_two h p q
  go_enter Tryz.func60, Tryz.ntmps60
  go_wp2_with (first
    | (go_at_call 53; refine hlk.mono ?_; rintro e w1 ⟨rfl, hb1⟩; have h1 := h.below hb1; have T1 := Lib.hid hb1)
    | (go_at_call 55; refine (call_at h1).mono ?_; rintro e w2 ⟨rfl, h2, t2⟩; have T2 := Lib.hid t2)
    | (go_at_call 54; refine (answers_at h2 _ _ _).mono ?_; rintro e w3 ⟨rfl, h3, t3⟩; have T3 := Lib.hid t3)
    | (go_at_call 56; refine (there_at h3 p (good_size (eq_zero (by assumption : (looksE s [p, q] != 0) = false)) (.head _))).mono ?_; rintro e w4 ⟨rfl, hb4⟩; have h4 := h3.below hb4; have T4 := Lib.hid hb4)
    | (go_at_call 84; refine (free_at h4 q p (good_size (eq_zero (by assumption : (looksE s [p, q] != 0) = false)) (.tail _ (.head _)))).mono ?_; rintro e w5 ⟨rfl, hb5⟩; have h5 := h4.below hb5; have T5 := Lib.hid hb5; obtain ⟨c0, -, -, -, -, -, -⟩ := h5.cells; obtain ⟨vs, hm, hb⟩ := h5.map; have HB := Lib.hid hb; clear hb)
    | (at_lookup; refine wpList_lookup_str 47 9 37 rfl _ _ false rfl (by kernel_rfl) (by kernel_rfl) (zeroB _) hm rfl p rfl ?_)
    | (at_delete; refine wpList_delete_str 47 9 37 rfl _ _ rfl (by kernel_rfl) (by kernel_rfl) hm rfl p rfl ?_; intro w6 hm6 hg6 hs6; have c6 := del_cell h5 c0 hg6)
    | (at_mapUpdate; refine wpList_store_str 47 9 37 rfl _ _ _ rfl (by kernel_rfl) (by kernel_rfl) hm6 rfl q rfl _ rfl ?_; intro w7 hm7 hg7 hs7))
  · have e0 : ¬ looksE s [p, q] = 0 := ne_zero (by assumption)
    have eR : s.rename p q = (looksE s [p, q], s) := by unfold FsSt.rename; rw [if_neg e0]
    go_ret
    rw [eR]
    exact ⟨rfl, h1, Turns.of_below T1.out⟩
  · have e0 : looksE s [p, q] = 0 := eq_zero (by assumption)
    have e1 : ¬ ansOf s.call.1.2.1 = 0 := ne_zero (by assumption)
    have eR : s.rename p q = (ansOf s.call.1.2.1, s.after) := by unfold FsSt.rename; rw [if_pos e0, if_neg e1]
    go_ret
    rw [eR]
    exact ⟨rfl, h3, (Turns.lift T1.out T2.out).trans (Own1.three T3.out)⟩
  · have e0 : looksE s [p, q] = 0 := eq_zero (by assumption)
    have e1 : ansOf s.call.1.2.1 = 0 := eq_zero (by assumption)
    have e2 : ¬ thereE s.after p = 0 := ne_zero (by assumption)
    have eR : s.rename p q = (thereE s.after p, s.after) := by unfold FsSt.rename; rw [if_pos e0, if_pos e1, if_neg e2]
    go_ret
    rw [eR]
    exact ⟨rfl, h4, ((Turns.lift T1.out T2.out).trans (Own1.three T3.out)).trans (Turns.of_below T4.out)⟩
  · have e0 : looksE s [p, q] = 0 := eq_zero (by assumption)
    have e1 : ansOf s.call.1.2.1 = 0 := eq_zero (by assumption)
    have e2 : thereE s.after p = 0 := eq_zero (by assumption)
    have e3 : ¬ freeE s.after q p = 0 := ne_zero (by assumption)
    have eR : s.rename p q = (freeE s.after q p, s.after) := by unfold FsSt.rename; rw [if_pos e0, if_pos e1, if_pos e2, if_neg e3]
    go_ret
    rw [eR]
    exact ⟨rfl, h5, (((Turns.lift T1.out T2.out).trans (Own1.three T3.out)).trans (Turns.of_below T4.out)).trans (Turns.of_below T5.out)⟩
  · have e0 : looksE s [p, q] = 0 := eq_zero (by assumption)
    have e1 : ansOf s.call.1.2.1 = 0 := eq_zero (by assumption)
    have e2 : thereE s.after p = 0 := eq_zero (by assumption)
    have e3 : freeE s.after q p = 0 := eq_zero (by assumption)
    have eR : s.rename p q = (0, { s.after with files := aput (adel s.after.files p) q ((aget s.after.files p).getD ByteArray.empty) }) := by unfold FsSt.rename; rw [if_pos e0, if_pos e1, if_pos e2, if_pos e3]
    go_ret
    rw [eR]
    have tt := ((((Turns.lift T1.out T2.out).trans (Own1.three T3.out)).trans (Turns.of_below T4.out)).trans (Turns.of_below T5.out)).trans (map3 hg6)
    refine ⟨rfl, (h5.mapped hg6 ⟨_, hm6, HB.out.del p⟩).mapped hg7 ⟨_, hm7, ?_⟩, tt.trans (map3 hg7)⟩
    have hk : ∀ {v : Value} {b : ByteArray}, Bytes F w5 v b → Bytes F w6 v b := fun hp => hp.kept3 h5 (map3 hg6)
    refine ((HB.out.del p).mono fun _ _ _ hp => hk hp).put q ?_
    rcases HB.out.get p with ⟨a, b⟩ | ⟨x, y, a, b, hr⟩
    · rw [a, show aget s.after.files p = none from b]; exact bytes_nil _ _
    · rw [a, show aget s.after.files p = some y from b]; exact hk hr
end Go.Proofs.YtofkdmmoheffbaaGreatDoor
