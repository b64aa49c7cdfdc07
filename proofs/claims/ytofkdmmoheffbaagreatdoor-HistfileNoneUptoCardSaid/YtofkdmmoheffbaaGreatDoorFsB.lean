/- The simulated file system's small calls, continued: answers, Calls, Down, Restart, SetFault. -/
import Derived.Test.YtofkdmmoheffbaaGreatDoorFsA
namespace Go.Proofs.YtofkdmmoheffbaaGreatDoor
open Go Go.RowKit Go.Lany
set_option maxRecDepth 100000
theorem FsAt.cells {w : World} {f m c : Nat} {F : Nat → Prop} {s : FsSt} (h : FsAt w f m c F s) :
    w.cell? ⟨f, 0, none⟩ = some (.map (some m)) ∧ w.cell? ⟨f, 1, none⟩ = some (.int .i64 s.left) ∧ w.cell? ⟨f, 2, none⟩ = some (.int .i64 s.kind) ∧ w.cell? ⟨f, 3, none⟩ = some (.int .i64 s.keep) ∧
    w.cell? ⟨f, 4, none⟩ = some (.pointer (some ⟨c, 0, none⟩)) ∧ w.cell? ⟨f, 5, none⟩ = some (.bool s.down) ∧ (∀ i, w.frozen? ⟨f, i, none⟩ = false) := by
  refine ⟨?_, ?_, ?_, ?_, ?_, ?_, free_of_block h.obj⟩ <;> (rw [cell_of_block h.obj]; rfl)
def Own1 (f k : Nat) : Prop := k = f
theorem _root_.Go.Lany.Turns.own1 {f i : Nat} {a b : World} {v : Value} (h : Turns (Own1 f) a b) : Turns (Own1 f) a (b.setCell ⟨f, i, none⟩ v) := Turns.setCell (p := ⟨f, i, none⟩) h (.inl rfl) v
/-- The file system's own block is written, nothing else. -/
theorem FsAt.own {w w' : World} {f m c : Nat} {F : Nat → Prop} {s s' : FsSt} (h : FsAt w f m c F s) (t : Turns (Own1 f) w w')
    (ho : w'.heap[f]? = some (fsObj m c s'.left s'.kind s'.keep s'.down)) (hc : s'.calls = s.calls) (hf : s'.files = s.files) : FsAt w' f m c F s' :=
  h.written (t.mono fun _ _ e => .inl e) ho (by rw [t.block c h.lt.2.2 (fun e => h.ne.2.1 e.symm), h.cnt, hc]) hf
def ansOf (k : Int) : Int := if k = 1 then 20 else if k = 2 then 21 else if k = 3 then 22 else 0
def FsSt.fall (s : FsSt) (k : Int) : FsSt := if k = 3 then { s with down := true } else s
theorem Own1.three {w w' : World} {f m c : Nat} (t : Turns (Own1 f) w w') : Turns (Own3 f m c) w w' := t.mono fun _ _ e => .inl e
def AnsPost (f m c : Nat) (F : Nat → Prop) (w : World) (s : FsSt) (k : Int) (e : Ending) (w' : World) : Prop :=
  e = .returned (.int .i64 (ansOf k)) ∧ FsAt w' f m c F (s.fall k) ∧ Turns (Own1 f) w w'
theorem answers_at {w : World} {f m c : Nat} {F : Nat → Prop} {s : FsSt} (h : FsAt w f m c F s) (l k p : Int) :
    Calls Tryz.prog 54 #[fsPtr f, .agg #[.int .i64 l, .int .i64 k, .int .i64 p]] w (AnsPost f m c F w s k) := by
  obtain ⟨l1, l2, l3⟩ := h.lt
  obtain ⟨c0, c1, c2, c3, c4, c5, fz⟩ := h.cells
  by_cases k1 : k = 1
  · subst k1
    go_enter Tryz.func54, Tryz.ntmps54
    go_wp2
    go_ret
    exact ⟨rfl, h.below ((Below.refl _ _).alloc (Nat.le_refl _) _), (Turns.refl (Own1 f) w).alloc _⟩
  by_cases k2 : k = 2
  · subst k2
    go_enter Tryz.func54, Tryz.ntmps54
    go_wp2
    go_ret
    exact ⟨rfl, h.below ((Below.refl _ _).alloc (Nat.le_refl _) _), (Turns.refl (Own1 f) w).alloc _⟩
  by_cases k3 : k = 3
  · subst k3
    have f5 := fz 5
    go_enter Tryz.func54, Tryz.ntmps54
    go_wp2
    go_ret
    refine ⟨rfl, h.own (((Turns.refl (Own1 f) w).own1.alloc _)) ?_ rfl rfl, ((Turns.refl (Own1 f) w).own1.alloc _)⟩
    rw [get_alloc _ _ (by rw [size_set]; exact l1), get_self, h.obj]; rfl
  · have k1' : (k == 1) = false := by simpa using k1
    have k2' : (k == 2) = false := by simpa using k2
    have k3' : (k == 3) = false := by simpa using k3
    go_enter Tryz.func54, Tryz.ntmps54
    go_wp2
    go_ret
    refine ⟨by simp [ansOf, k1, k2, k3], ?_, (Turns.refl (Own1 f) w).alloc _⟩
    have : s.fall k = s := by simp [FsSt.fall, k3]
    rw [this]; exact h.below ((Below.refl _ _).alloc (Nat.le_refl _) _)
theorem calls_at {w : World} {f m c : Nat} {F : Nat → Prop} {s : FsSt} (h : FsAt w f m c F s) : Calls Tryz.prog 45 #[fsPtr f] w fun e w' => e = .returned (.int .i64 s.calls) ∧ w = w' := by
  obtain ⟨c0, c1, c2, c3, c4, c5, fz⟩ := h.cells
  go_enter Tryz.func45, Tryz.ntmps45
  go_wp2_with (first | (go_at_call 31; refine (none_at h).mono ?_; rintro e w' ⟨rfl, rfl⟩) | (go_at_call 70; refine (load_at h.cnt).mono ?_; rintro e w' ⟨rfl, rfl⟩))
  go_ret
  exact ⟨rfl, rfl⟩
theorem down_at {w : World} {f m c : Nat} {F : Nat → Prop} {s : FsSt} (h : FsAt w f m c F s) : Calls Tryz.prog 43 #[fsPtr f] w fun e w' => e = .returned (.bool s.down) ∧ w = w' := by
  obtain ⟨c0, c1, c2, c3, c4, c5, fz⟩ := h.cells
  go_enter Tryz.func43, Tryz.ntmps43
  go_wp2_with (go_at_call 31; refine (none_at h).mono ?_; rintro e w' ⟨rfl, rfl⟩)
  go_ret
  exact ⟨rfl, rfl⟩
def FsSt.restart (s : FsSt) : Int × FsSt := if s.down then (0, { s with down := false }) else (1, s)
def FsSt.setFault (s : FsSt) (k kind keep : Int) : Int × FsSt :=
  if k < 0 ∨ kind < 0 ∨ 3 < kind ∨ keep < 0 then (1, s) else if s.down then (22, s)
  else if kind = 0 then (0, { s with left := 0, kind := 0, keep := 0 }) else (0, { s with left := k, kind := kind, keep := keep })
def ErrPost (f m c : Nat) (F : Nat → Prop) (w : World) (r : Int × FsSt) (e : Ending) (w' : World) : Prop := e = .returned (.int .i64 r.1) ∧ FsAt w' f m c F r.2 ∧ Turns (Own1 f) w w'
theorem restart_at {w : World} {f m c : Nat} {F : Nat → Prop} {s : FsSt} (h : FsAt w f m c F s) : Calls Tryz.prog 17 #[fsPtr f] w (ErrPost f m c F w s.restart) := by
  obtain ⟨c0, c1, c2, c3, c4, c5, fz⟩ := h.cells
  have f5 := fz 5
  cases hd : s.down with
  | true =>
    rw [hd] at c5
    go_enter Tryz.func17, Tryz.ntmps17
    go_wp2_with (go_at_call 31; refine (none_at h).mono ?_; rintro e w' ⟨rfl, rfl⟩)
    go_ret
    unfold FsSt.restart
    rw [hd]
    refine ⟨rfl, h.own (Turns.refl (Own1 f) w).own1 ?_ rfl rfl, (Turns.refl (Own1 f) w).own1⟩
    rw [get_self, h.obj]; rfl
  | false =>
    rw [hd] at c5
    go_enter Tryz.func17, Tryz.ntmps17
    go_wp2_with (go_at_call 31; refine (none_at h).mono ?_; rintro e w' ⟨rfl, rfl⟩)
    go_ret
    unfold FsSt.restart
    rw [hd]
    exact ⟨rfl, h, Turns.refl (Own1 f) w⟩
theorem setFault_at {w : World} {f m c : Nat} {F : Nat → Prop} {s : FsSt} (h : FsAt w f m c F s) (k kind keep : Int) : Calls Tryz.prog 16 #[fsPtr f, .int .i64 k, .int .i64 kind, .int .i64 keep] w (ErrPost f m c F w (s.setFault k kind keep)) := by
  obtain ⟨c0, c1, c2, c3, c4, c5, fz⟩ := h.cells
  have f1 := fz 1
  have f2 := fz 2
  have f3 := fz 3
  by_cases hbad : k < 0 ∨ kind < 0 ∨ 3 < kind ∨ keep < 0
  · have e : s.setFault k kind keep = (1, s) := by unfold FsSt.setFault; rw [if_pos hbad]
    rw [e]
    clear e
    by_cases h1 : k < 0
    all_goals by_cases h2 : kind < 0
    all_goals by_cases h3 : 3 < kind
    all_goals by_cases h4 : keep < 0
    all_goals first | (exfalso; omega) | skip
    all_goals clear hbad
    all_goals first | have h1' : decide (k < 0) = true := decide_eq_true h1 | have h1' : decide (k < 0) = false := decide_eq_false h1
    all_goals first | have h2' : decide (kind < 0) = true := decide_eq_true h2 | have h2' : decide (kind < 0) = false := decide_eq_false h2
    all_goals first | have h3' : decide (3 < kind) = true := decide_eq_true h3 | have h3' : decide (3 < kind) = false := decide_eq_false h3
    all_goals first | have h4' : decide (keep < 0) = true := decide_eq_true h4 | have h4' : decide (keep < 0) = false := decide_eq_false h4
    all_goals clear h1 h2 h3 h4
    all_goals
      go_enter Tryz.func16, Tryz.ntmps16
      go_wp2_with (go_at_call 31; refine (none_at h).mono ?_; rintro e w' ⟨rfl, rfl⟩)
      go_ret
      exact ⟨rfl, h, Turns.refl (Own1 f) w⟩
  · have h1' : decide (k < 0) = false := decide_eq_false (by omega)
    have h2' : decide (kind < 0) = false := decide_eq_false (by omega)
    have h3' : decide (3 < kind) = false := decide_eq_false (by omega)
    have h4' : decide (keep < 0) = false := decide_eq_false (by omega)
    cases hd : s.down with
    | true =>
      rw [hd] at c5
      have e : s.setFault k kind keep = (22, s) := by unfold FsSt.setFault; rw [if_neg hbad, hd]; rfl
      rw [e]
      clear e hbad
      go_enter Tryz.func16, Tryz.ntmps16
      go_wp2_with (go_at_call 31; refine (none_at h).mono ?_; rintro e w' ⟨rfl, rfl⟩)
      go_ret
      exact ⟨rfl, h, Turns.refl (Own1 f) w⟩
    | false =>
      rw [hd] at c5
      by_cases h0 : kind = 0
      · have e : s.setFault k kind keep = (0, { s with left := 0, kind := 0, keep := 0 }) := by unfold FsSt.setFault; rw [if_neg hbad, hd, if_pos h0]; rfl
        rw [e]
        clear e hbad
        subst h0
        go_enter Tryz.func16, Tryz.ntmps16
        go_wp2_with (go_at_call 31; refine (none_at h).mono ?_; rintro e w' ⟨rfl, rfl⟩)
        go_ret
        have t : Turns (Own1 f) w ((((((w.setCell ⟨f, 1, none⟩ (.int .i64 k)).setCell ⟨f, 2, none⟩ (.int .i64 0)).setCell ⟨f, 3, none⟩ (.int .i64 keep)).setCell ⟨f, 1, none⟩ (.int .i64 0)).setCell ⟨f, 2, none⟩ (.int .i64 0)).setCell ⟨f, 3, none⟩ (.int .i64 0)) :=
          (Turns.refl (Own1 f) w).own1.own1.own1.own1.own1.own1
        refine ⟨rfl, h.own t ?_ rfl rfl, t⟩
        rw [get_self, get_self, get_self, get_self, get_self, get_self, h.obj]; rfl
      · have e : s.setFault k kind keep = (0, { s with left := k, kind := kind, keep := keep }) := by unfold FsSt.setFault; rw [if_neg hbad, hd, if_neg h0]; rfl
        rw [e]
        have h0' : (kind == 0) = false := by simpa using h0
        clear e hbad
        go_enter Tryz.func16, Tryz.ntmps16
        go_wp2_with (go_at_call 31; refine (none_at h).mono ?_; rintro e w' ⟨rfl, rfl⟩)
        go_ret
        have t : Turns (Own1 f) w (((w.setCell ⟨f, 1, none⟩ (.int .i64 k)).setCell ⟨f, 2, none⟩ (.int .i64 kind)).setCell ⟨f, 3, none⟩ (.int .i64 keep)) :=
          (Turns.refl (Own1 f) w).own1.own1.own1
        refine ⟨rfl, h.own t ?_ rfl rfl, t⟩
        rw [get_self, get_self, get_self, h.obj]; rfl
end Go.Proofs.YtofkdmmoheffbaaGreatDoor
