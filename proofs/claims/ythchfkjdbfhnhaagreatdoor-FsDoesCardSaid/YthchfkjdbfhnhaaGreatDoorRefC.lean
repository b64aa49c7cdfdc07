/- The document's file system: call, goes, looks, SetFault, Restart, Calls, Down, Is. -/
import Derived.Test.YthchfkjdbfhnhaaGreatDoorRefB
namespace Go.Proofs.YthchfkjdbfhnhaaGreatDoor
open Go Go.RowKit Go.Lany
set_option maxRecDepth 100000
section
variable {W : World} {r : Nat} {G : Nat → Prop} {s : FsSt} {v : Value} {K Kp : Int} {vs : List (ByteArray × Value)} {fs : List (ByteArray × ByteArray)}
def refPtr (r : Nat) : Value := .pointer (some ⟨r, 0, none⟩)
theorem RA.turned (h : RA W r G s v K Kp vs fs) {W' : World} {s' : FsSt} {K' Kp' : Int} (t : Turns (Own1 r) W W') (ho : W'.heap[r]? = some (.cells #[v, .int .i64 s'.left, .int .i64 K', .int .i64 Kp', .int .i64 s'.calls, .bool s'.down] 28 (0, 0))) (hf : s'.files = s.files)
    (hx : s'.left ≠ 0 → K' = s'.kind ∧ Kp' = s'.keep ∧ 1 ≤ s'.kind ∧ s'.kind ≤ 3) (hl : 0 ≤ s'.left ∧ s'.left ≤ 9223372036854775807) : RA W' r G s' v K' Kp' vs fs :=
  ⟨ho, ownsRow_turns h.row t fun b hb e => (h.rowG b hb).2 e, h.rowG, h.data.mono fun _ _ _ hp => ⟨ownsRow_turns hp.1 t fun b hb e => (hp.2 b hb).2.1 e, hp.2⟩, h.sorts.same hf, hx, hl, h.inG, h.far⟩
def RPost (r : Nat) (G : Nat → Prop) (W : World) (s' : FsSt) (res : Value) (v : Value) (K Kp : Int) (vs : List (ByteArray × Value)) (fs : List (ByteArray × ByteArray)) (e : Ending) (w' : World) : Prop := e = .returned res ∧ RA w' r G s' v K Kp vs fs ∧ Turns (Own1 r) W w'
theorem callR_at (h : RA W r G s v K Kp vs fs) : Calls Tryz.prog 48 #[.pointer (some ⟨r, 0, none⟩)] W (RPost r G W s.call.2 (.int .i64 s.call.1.2.1) v K Kp vs fs) := by
  obtain ⟨c0, c1, c2, c3, c4, c5, fz⟩ := h.cells
  have f1 := fz 1
  have f4 := fz 4
  clear c0 c3 c5 fz
  by_cases hl : s.left = 0
  · have e : s.call = ((0, 0, 0), { s with calls := wrap64 (s.calls + 1) }) := by simp [FsSt.call, hl]
    rw [hl] at c1
    go_enter Tryz.func48, Tryz.ntmps48
    go_wp2
    go_ret
    have t : Turns (Own1 r) W (W.setCell ⟨r, 4, none⟩ (.int .i64 (wrap64 (s.calls + 1)))) := (Turns.refl _ _).own1
    refine ⟨by rw [e] <;> rfl, ?_, t⟩
    rw [e]
    refine h.turned t ?_ rfl h.fault h.left
    rw [get_self, h.obj]; rfl
  · obtain ⟨h1, h2⟩ := h.left
    obtain ⟨k1, k2, k3, k4⟩ := h.fault hl
    have hl' : (s.left == 0) = false := by simpa using hl
    have hw : wrap64 (s.left - 1) = s.left - 1 := IntWalk.wrap64_in _ ⟨by omega, by omega⟩
    have HW := Lib.hid hw
    have h1' : 1 ≤ s.left := by omega
    have t : Turns (Own1 r) W ((W.setCell ⟨r, 4, none⟩ (.int .i64 (wrap64 (s.calls + 1)))).setCell ⟨r, 1, none⟩ (.int .i64 (s.left - 1))) := (Turns.refl _ _).own1.own1
    by_cases hlt : 0 < s.left - 1
    · have e : s.call = ((0, 0, 0), { s with calls := wrap64 (s.calls + 1), left := s.left - 1 }) := by unfold FsSt.call; rw [if_neg hl, hw, if_pos hlt]
      have HE := Lib.hid e
      clear e hw k1 k2
      go_enter Tryz.func48, Tryz.ntmps48
      go_wp2
      go_ret
      refine ⟨by rw [HE.out] <;> rfl, ?_, t⟩
      rw [HE.out]
      refine h.turned t ?_ rfl (fun _ => h.fault hl) ⟨by show 0 ≤ s.left - 1; omega, by show s.left - 1 ≤ _; omega⟩
      rw [get_self, get_self, h.obj]; rfl
    · have e : s.call = ((s.left - 1, s.kind, s.keep), { s with calls := wrap64 (s.calls + 1), left := 0, kind := 0, keep := 0 }) := by unfold FsSt.call; rw [if_neg hl, hw, if_neg hlt]
      have HE := Lib.hid e
      have HK := Lib.hid k1
      have h0 : s.left - 1 = 0 := by omega
      have H0 := Lib.hid h0
      have hle : s.left ≤ 1 := by omega
      clear e hw k1 k2 h0
      go_enter Tryz.func48, Tryz.ntmps48
      go_wp2
      go_ret
      refine ⟨by rw [HE.out, HK.out] <;> rfl, ?_, t⟩
      rw [HE.out]
      refine h.turned t ?_ rfl (fun e => absurd rfl e) ⟨Int.le_refl 0, by show (0 : Int) ≤ 9223372036854775807; decide⟩
      rw [get_self, get_self, h.obj, H0.out]; rfl
theorem goesR_at (h : RA W r G s v K Kp vs fs) {k : Int} (hk : k = 1 ∨ k = 2 ∨ k = 3) : Calls Tryz.prog 49 #[.pointer (some ⟨r, 0, none⟩), .int .i64 k] W (RPost r G W (s.fall k) (.int .i64 (ansOf k)) v K Kp vs fs) := by
  obtain ⟨-, -, -, -, -, c5, fz⟩ := h.cells
  have f5 := fz 5
  clear fz
  rcases hk with rfl | rfl | rfl
  · go_enter Tryz.func49, Tryz.ntmps49
    go_wp2
    go_ret
    exact ⟨rfl, h, Turns.refl _ _⟩
  · go_enter Tryz.func49, Tryz.ntmps49
    go_wp2
    go_ret
    exact ⟨rfl, h, Turns.refl _ _⟩
  · go_enter Tryz.func49, Tryz.ntmps49
    go_wp2
    go_ret
    have t : Turns (Own1 r) W (W.setCell ⟨r, 5, none⟩ (.bool true)) := (Turns.refl _ _).own1
    refine ⟨rfl, h.turned t ?_ rfl h.fault h.left, t⟩
    rw [get_self, h.obj]; rfl
theorem looksR_at (h : RA W r G s v K Kp vs fs) (ps : List ByteArray) (b off cap n : Nat) (hn : n = ps.length) (hmax : n ≤ 1000000)
    (hc : ∀ i, i < n → W.cell? ⟨b, off + i, none⟩ = some (.string (ps.getD i ByteArray.empty))) :
    Calls Tryz.prog 47 #[.pointer (some ⟨r, 0, none⟩), .slice (some ⟨b, off, none⟩) n cap] W (IntPost (looksE s ps) W) := by
  obtain ⟨c0, c1, c2, c3, c4, c5, fz⟩ := h.cells
  have HC := Lib.hid hc
  have HN := Lib.hid hn
  clear hc hn c0 c1 c2 c3 c4 fz
  cases hd : s.down with
  | true =>
    have e : looksE s ps = 22 := by unfold looksE; rw [hd]; rfl
    rw [e]; clear e
    rw [hd] at c5
    go_enter Tryz.func47, Tryz.ntmps47
    go_wp2
    go_ret
    exact ⟨rfl, Below.refl _ _⟩
  | false =>
    have E : Hid (looksE s ps = if ps.all goodB then 0 else 23) := Lib.hid (by unfold looksE; rw [hd]; rfl)
    rw [hd] at c5
    go_enter Tryz.func47, Tryz.ntmps47
    go_wp2
    clear c5
    go_loopw [5] (fun i wr => ∃ k : Nat, k ≤ n ∧ i = .int .i64 k ∧ Below W.heap.size W wr ∧ ∀ j, j < k → goodB (ps.getD j ByteArray.empty) = true) (fun i _ => n - (intOf i).toNat)
    case atStart => exact ⟨0, Nat.zero_le _, rfl, Below.refl _ _, fun j h => by omega⟩
    case round =>
      obtain ⟨k, hk, rfl, hbl, hall⟩ := hrel
      have HA := Lib.hid hall
      clear hall
      by_cases hlt : k < n
      · obtain ⟨x, hx⟩ : ∃ x, x = ps.getD k ByteArray.empty := ⟨_, rfl⟩
        have hc0 := HC.out k hlt
        have hcell : wr.cell? ⟨b, off + k, none⟩ = some (.string x) := by rw [hx, hbl.cell (World.block_lt_of_cell? _ _ hc0), hc0]
        have HX := Lib.hid hx
        clear hx hc0
        cases hg : goodB x with
        | false =>
          have HG := Lib.hid hg
          have cg : Calls Tryz.prog 57 #[.string x] wr (BoolPost false wr) := by have := refGood_any x wr; rwa [hg] at this
          clear hg
          go_wp2_with (go_at_call 57; refine cg.mono ?_; rintro e w1 ⟨rfl, hb1⟩)
          go_ret
          refine ⟨ret_int ?_, hbl.trans (hb1.mono hbl.size)⟩
          rw [E.out, if_neg]
          intro hc
          have := List.all_eq_true.1 hc x (by rw [HX.out, List.getD_eq_getElem?_getD, List.getElem?_eq_getElem (by rw [← HN.out]; exact hlt)]; exact List.getElem_mem _)
          rw [HG.out] at this; cases this
        | true =>
          have HG := Lib.hid hg
          have cg : Calls Tryz.prog 57 #[.string x] wr (BoolPost true wr) := by have := refGood_any x wr; rwa [hg] at this
          clear hg
          go_wp2_with (go_at_call 57; refine cg.mono ?_; rintro e w1 ⟨rfl, hb1⟩)
          go_roundw
          case rel =>
            refine ⟨k + 1, by omega, by go_num, hbl.trans (hb1.mono hbl.size), fun j hj => ?_⟩
            rcases Nat.lt_succ_iff_lt_or_eq.1 hj with h | h
            · exact HA.out j h
            · subst h; rw [← HX.out]; exact HG.out
          case measure => simp [intOf]; omega
      · obtain rfl : k = n := by omega
        go_wp2
        go_ret
        refine ⟨ret_int ?_, hbl⟩
        rw [E.out, if_pos]
        rw [List.all_eq_true]
        intro x hx
        obtain ⟨j, hj, rfl⟩ := List.mem_iff_getElem.1 hx
        have := HA.out j (by rw [HN.out]; exact hj)
        rwa [List.getD_eq_getElem?_getD, List.getElem?_eq_getElem hj] at this
theorem looksR_one (h : RA W r G s v K Kp vs fs) (p : ByteArray) : Calls Tryz.prog 47 #[.pointer (some ⟨r, 0, none⟩), .slice (some ⟨W.heap.size, 0, none⟩) 1 1] (W.alloc (.cells #[.string p] 9)) (fun e w' => e = .returned (.int .i64 (looksE s [p])) ∧ Below W.heap.size W w') := by
  refine (looksR_at (h.below ((Below.refl _ _).alloc (Nat.le_refl _) _)) [p] W.heap.size 0 1 1 rfl (by decide) fun i hi => ?_).mono fun e w' ⟨he, hb⟩ => ⟨he, ((Below.refl _ _).alloc (Nat.le_refl _) _).trans (hb.mono (by simp))⟩
  obtain rfl : i = 0 := by omega
  rw [Nat.add_zero, cell_of_block (get_new _ _)]; rfl
theorem looksR_two (h : RA W r G s v K Kp vs fs) (p q : ByteArray) : Calls Tryz.prog 47 #[.pointer (some ⟨r, 0, none⟩), .slice (some ⟨W.heap.size, 0, none⟩) 2 2] (W.alloc (.cells #[.string p, .string q] 9)) (fun e w' => e = .returned (.int .i64 (looksE s [p, q])) ∧ Below W.heap.size W w') := by
  refine (looksR_at (h.below ((Below.refl _ _).alloc (Nat.le_refl _) _)) [p, q] W.heap.size 0 2 2 rfl (by decide) fun i hi => ?_).mono fun e w' ⟨he, hb⟩ => ⟨he, ((Below.refl _ _).alloc (Nat.le_refl _) _).trans (hb.mono (by simp))⟩
  have : i = 0 ∨ i = 1 := by omega
  rcases this with rfl | rfl <;> (rw [cell_of_block (get_new _ _)]; rfl)
theorem callsR_at (h : RA W r G s v K Kp vs fs) : Calls Tryz.prog 10 #[.pointer (some ⟨r, 0, none⟩)] W (RetQ (.int .i64 s.calls) W) := by
  obtain ⟨-, -, -, -, c4, -, -⟩ := h.cells
  clear h
  go_enter Tryz.func10, Tryz.ntmps10
  go_wp2
  go_ret
  exact ⟨rfl, rfl⟩
theorem downR_at (h : RA W r G s v K Kp vs fs) : Calls Tryz.prog 8 #[.pointer (some ⟨r, 0, none⟩)] W (RetQ (.bool s.down) W) := by
  obtain ⟨-, -, -, -, -, c5, -⟩ := h.cells
  clear h
  go_enter Tryz.func8, Tryz.ntmps8
  go_wp2
  go_ret
  exact ⟨rfl, rfl⟩
theorem restartR_at (h : RA W r G s v K Kp vs fs) : Calls Tryz.prog 28 #[.pointer (some ⟨r, 0, none⟩)] W (RPost r G W s.restart.2 (.int .i64 s.restart.1) v K Kp vs fs) := by
  obtain ⟨-, -, -, -, -, c5, fz⟩ := h.cells
  have f5 := fz 5
  clear fz
  cases hd : s.down with
  | true =>
    have e : s.restart = (0, { s with down := false }) := by unfold FsSt.restart; rw [hd, if_pos rfl]
    have HE := Lib.hid e
    clear e
    rw [hd] at c5
    go_enter Tryz.func28, Tryz.ntmps28
    go_wp2
    go_ret
    have t : Turns (Own1 r) W (W.setCell ⟨r, 5, none⟩ (.bool false)) := (Turns.refl _ _).own1
    rw [HE.out]
    refine ⟨rfl, h.turned t ?_ rfl h.fault h.left, t⟩
    rw [get_self, h.obj]; rfl
  | false =>
    have e : s.restart = (1, s) := by unfold FsSt.restart; rw [hd, if_neg (by simp)]
    have HE := Lib.hid e
    clear e
    rw [hd] at c5
    go_enter Tryz.func28, Tryz.ntmps28
    go_wp2
    go_ret
    rw [HE.out]
    exact ⟨rfl, h, Turns.refl _ _⟩
def RPostX (r : Nat) (G : Nat → Prop) (W : World) (s' : FsSt) (res : Value) (v : Value) (vs : List (ByteArray × Value)) (fs : List (ByteArray × ByteArray)) (e : Ending) (w' : World) : Prop := e = .returned res ∧ (∃ K Kp, RA w' r G s' v K Kp vs fs) ∧ Turns (Own1 r) W w'
theorem setFaultR_at (h : RA W r G s v K Kp vs fs) (k kind keep : Int) (hkm : k ≤ 9223372036854775807) : Calls Tryz.prog 26 #[.pointer (some ⟨r, 0, none⟩), .int .i64 k, .int .i64 kind, .int .i64 keep] W (RPostX r G W (s.setFault k kind keep).2 (.int .i64 (s.setFault k kind keep).1) v vs fs) := by
  obtain ⟨-, c1, c2, c3, -, c5, fz⟩ := h.cells
  have f1 := fz 1
  have f2 := fz 2
  have f3 := fz 3
  clear fz
  by_cases hbad : k < 0 ∨ kind < 0 ∨ 3 < kind ∨ keep < 0
  · have e : s.setFault k kind keep = (1, s) := by unfold FsSt.setFault; rw [if_pos hbad]
    rw [e]
    clear e
    by_cases h1 : k < 0
    all_goals by_cases h2 : kind < 0
    all_goals by_cases h3 : 3 < kind
    all_goals by_cases h4 : keep < 0
    all_goals first | (exfalso; omega) | skip
    all_goals clear hbad
    all_goals first | have h1' : decide (k < 0) = true := decide_eq_true h1 | have h1' : decide (k < 0) = false := decide_eq_false h1
    all_goals first | have h2' : decide (kind < 0) = true := decide_eq_true h2 | have h2' : decide (kind < 0) = false := decide_eq_false h2
    all_goals first | have h3' : decide (3 < kind) = true := decide_eq_true h3 | have h3' : decide (3 < kind) = false := decide_eq_false h3
    all_goals first | have h4' : decide (keep < 0) = true := decide_eq_true h4 | have h4' : decide (keep < 0) = false := decide_eq_false h4
    all_goals clear h1 h2 h3 h4
    all_goals
      go_enter Tryz.func26, Tryz.ntmps26
      go_wp2
      go_ret
      exact ⟨rfl, ⟨_, _, h⟩, Turns.refl _ _⟩
  · have h1' : decide (k < 0) = false := decide_eq_false (by omega)
    have h2' : decide (kind < 0) = false := decide_eq_false (by omega)
    have h3' : decide (3 < kind) = false := decide_eq_false (by omega)
    have h4' : decide (keep < 0) = false := decide_eq_false (by omega)
    cases hd : s.down with
    | true =>
      rw [hd] at c5
      have e : s.setFault k kind keep = (22, s) := by unfold FsSt.setFault; rw [if_neg hbad, hd]; rfl
      rw [e]
      clear e hbad
      go_enter Tryz.func26, Tryz.ntmps26
      go_wp2
      go_ret
      exact ⟨rfl, ⟨_, _, h⟩, Turns.refl _ _⟩
    | false =>
      rw [hd] at c5
      by_cases h0 : kind = 0
      · have e : s.setFault k kind keep = (0, { s with left := 0, kind := 0, keep := 0 }) := by unfold FsSt.setFault; rw [if_neg hbad, hd, if_pos h0]; rfl
        rw [e]
        have HH := Lib.hid hbad
        clear e hbad
        subst h0
        go_enter Tryz.func26, Tryz.ntmps26
        go_wp2
        go_ret
        have t : Turns (Own1 r) W ((((W.setCell ⟨r, 1, none⟩ (.int .i64 k)).setCell ⟨r, 1, none⟩ (.int .i64 0)).setCell ⟨r, 2, none⟩ (.int .i64 0)).setCell ⟨r, 3, none⟩ (.int .i64 keep)) := (Turns.refl _ _).own1.own1.own1.own1
        refine ⟨rfl, ⟨0, keep, h.turned t ?_ rfl (fun e => absurd rfl e) ⟨Int.le_refl 0, by show (0 : Int) ≤ 9223372036854775807; decide⟩⟩, t⟩
        rw [get_self, get_self, get_self, get_self, h.obj]
        simp [putCell, h.obj, hd]
      · have e : s.setFault k kind keep = (0, { s with left := k, kind := kind, keep := keep }) := by unfold FsSt.setFault; rw [if_neg hbad, hd, if_neg h0]; rfl
        rw [e]
        have h0' : (kind == 0) = false := by simpa using h0
        have HH := Lib.hid hbad
        clear e hbad
        go_enter Tryz.func26, Tryz.ntmps26
        go_wp2
        go_ret
        have t : Turns (Own1 r) W (((W.setCell ⟨r, 1, none⟩ (.int .i64 k)).setCell ⟨r, 2, none⟩ (.int .i64 kind)).setCell ⟨r, 3, none⟩ (.int .i64 keep)) := (Turns.refl _ _).own1.own1.own1
        have hb := HH.out
        refine ⟨rfl, ⟨kind, keep, h.turned t ?_ rfl (fun _ => ⟨rfl, rfl, by show 1 ≤ kind; omega, by show kind ≤ 3; omega⟩) ⟨by show 0 ≤ k; omega, hkm⟩⟩, t⟩
        rw [get_self, get_self, get_self, h.obj]
        simp [putCell, h.obj, hd]
end
end Go.Proofs.YthchfkjdbfhnhaaGreatDoor
