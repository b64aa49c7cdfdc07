/- The document's file system: Rename. -/
import Derived.Test.YthchfkjdbfhnhaaGreatDoorRefG
namespace Go.Proofs.YthchfkjdbfhnhaaGreatDoor
open Go Go.RowKit Go.Lany
set_option maxRecDepth 100000
section
variable {W : World} {r : Nat} {G : Nat → Prop} {s : FsSt} {v : Value} {K Kp : Int} {vs : List (ByteArray × Value)} {fs : List (ByteArray × ByteArray)}
theorem both_get {α β : Type} {R : α → β → Prop} {a : List (ByteArray × α)} {b : List (ByteArray × β)} (h : Both R a b) {k : Nat} {p : ByteArray} {x : α} {y : β} (hb : b[k]? = some (p, y)) (ha : a[k]? = some (p, x)) : R x y := by
  induction h generalizing k with
  | nil => simp at hb
  | cons hr _ ih =>
    rcases k with _ | k
    · simp at ha hb
      rw [← ha.2, ← hb.2]
      exact hr
    · exact ih (by simpa using hb) (by simpa using ha)
theorem bytes_of_own {w : World} {base : Nat} {u : Value} {n : Nat} {b : ByteArray} {F : Nat → Prop} (h : w.ownsRow base 5 1 u n (byteCells b)) (hf : ∀ j, u.ownBlock = some j → F j) : Bytes F w u b := by
  rcases bytes_of_row h with h0 | ⟨bl, off, sp, cap, hc, e, hr⟩
  · exact .inl h0
  · refine .inr ⟨bl, off, sp, cap, hc, e, hr.imp id ?_⟩
    rintro ⟨h1, h2, h3⟩
    refine ⟨h1, ?_, h3⟩
    rcases h.2 with ⟨e', _⟩ | ⟨g, c2, cur, e', _⟩
    · rw [e'] at e; cases e
    · have e2 := e'.symm.trans e
      cases e2
      exact hf bl (by rw [e']; rfl)
theorem RA.bytesAt (h : RA W r G s v K Kp vs fs) {k : Nat} {p d : ByteArray} {u : Value} (hk : fs[k]? = some (p, d)) (hv : vs[k]? = some (p, u)) : Bytes (fun j => j ≠ r) W u d := by
  obtain ⟨h1, h2⟩ := both_get h.data hk hv
  exact bytes_of_own h1 fun j hj => (h2 j hj).2.1
theorem _root_.Go.Lany.Turns.within {S S' : Nat → Prop} {a b c : World} (h : Turns S a b) (k : Turns S' b c) (hs : ∀ j, j < a.heap.size → S' j → S j) : Turns S a c :=
  ⟨k.os.trans h.os, k.tape.trans h.tape, k.output.trans h.output, Nat.le_trans h.size k.size, fun i hi hn => (k.block i (Nat.lt_of_lt_of_le hi h.size) fun e => hn (hs i hi e)).trans (h.block i hi hn)⟩
set_option maxHeartbeats 4000000 in
theorem renameR_at (h : RA W r G s v K Kp vs fs) (hw : s.Wf) (hl : fs.length ≤ 4096) (hml : 0 < W.heap.size) (p q : ByteArray) :
    Calls Tryz.prog 20 #[.pointer (some ⟨r, 0, none⟩), .string p, .string q] W (StR r G W (s.rename p q)) := by
  have hlk := looksR_two h p q
  have HX := Lib.hid h.fault_of
  have hw2 : s.call.2.Wf := hw.call
  have HH := Lib.hid h
  clear h
  go_enter Tryz.func20, Tryz.ntmps20
  go_upto_region 10 with (first
    | (go_at_call 47; refine hlk.mono ?_; rintro e w1 ⟨rfl, hb1⟩; have h1 := HH.out.below hb1; have T1 := Lib.hid hb1)
    | (go_at_call 48; refine (callR_at h1).mono ?_; rintro e w2 ⟨rfl, h2, t2⟩; have T2 := Lib.hid t2)
    | (go_at_call 49; refine (goesR_at h2 (HX.out.resolve_left (ne_zero (by assumption))).1).mono ?_; rintro e w3 ⟨rfl, h3, t3⟩; have T3 := Lib.hid t3)
    | (go_at_call 50; refine (fileR_at h2 hw2 hl p).mono ?_; rintro e w3 ⟨rfl, rfl⟩))
  · have e0 : ¬ looksE s [p, q] = 0 := ne_zero (by assumption)
    have eR : s.rename p q = (looksE s [p, q], s) := by unfold FsSt.rename; rw [if_neg e0]
    go_ret
    rw [eR]
    exact ⟨rfl, (h1.grow hml).at_, Turns.of_below T1.out⟩
  · have e0 : looksE s [p, q] = 0 := eq_zero (by assumption)
    have e1 : ¬ s.call.1.2.1 = 0 := ne_zero (by assumption)
    have eR : s.rename p q = (ansOf s.call.1.2.1, s.after) := by unfold FsSt.rename; rw [if_pos e0, if_neg (ans_some (HX.out.resolve_left e1).1)]
    go_ret
    rw [eR]
    exact ⟨rfl, (h3.grow hml).at_, HH.out.turnsG ((Turns.lift T1.out T2.out).trans T3.out)⟩
  · have e0 : looksE s [p, q] = 0 := eq_zero (by assumption)
    have e1 : s.call.1.2.1 = 0 := eq_zero (by assumption)
    have e2 : ¬ thereE s.call.2 p = 0 := ne_zero (by assumption)
    have eR : s.rename p q = (thereE s.call.2 p, s.call.2) := by unfold FsSt.rename; rw [if_pos e0, if_pos (ans_zero e1), after_zero e1, if_neg e2]
    go_ret
    rw [eR]
    exact ⟨rfl, (h2.grow hml).at_, HH.out.turnsG (Turns.lift T1.out T2.out)⟩
  · have e0 : looksE s [p, q] = 0 := eq_zero (by assumption)
    have e1 : s.call.1.2.1 = 0 := eq_zero (by assumption)
    have e2 : thereE s.call.2 p = 0 := eq_zero (by assumption)
    obtain ⟨k, d, hk, hkd, had⟩ := h2.found (there_file e2)
    have ER : Hid (s.rename p q = if freeE { s.call.2 with files := adel s.call.2.files p } q ⟨#[]⟩ = 0 then (0, { s.call.2 with files := aput (adel s.call.2.files p) q d }) else (freeE { s.call.2 with files := adel s.call.2.files p } q ⟨#[]⟩, s.call.2)) := Lib.hid (by
      have hp : 1 ≤ p.size := good_pos ((looks_good e0).2 p (.head _))
      unfold FsSt.rename
      rw [if_pos e0, if_pos (ans_zero e1), after_zero e1, if_pos e2, free_drop hw2 hp, had]
      rfl)
    have hf : Calls Tryz.prog 51 #[.pointer (some ⟨r, 0, none⟩), .string p] w2.drew (RetQ (.int .i64 (k : Int)) w2.drew) := by
      have := findR_at h2.drew hl p
      rw [hk] at this
      exact this
    obtain ⟨c0, -, -, -, -, -, -⟩ := h2.cells
    obtain ⟨a, cap, rfl, hfo⟩ := h2.form
    obtain ⟨g, u, rfl, hvs, -, x1, -, hu⟩ := hfo k _ hkd
    obtain ⟨au, cu, rfl⟩ := rowF_slice hu
    have hkl : k < fs.length := (List.getElem?_eq_some_iff.1 hkd).1
    have hds : d.size ≤ 1048576 := hw2.size p d had
    have T := Lib.hid (Turns.lift T1.out T2.out)
    have hbu := h2.bytesAt hkd hvs
    have HBU := Lib.hid hbu
    have HK := Lib.hid hk
    have H2 := Lib.hid h2
    obtain ⟨sd, hsd⟩ : ∃ sd, sd = { s.call.2 with files := adel s.call.2.files p } := ⟨_, rfl⟩
    have ER' : Hid (s.rename p q = if freeE sd q ⟨#[]⟩ = 0 then (0, sd.put q d) else (freeE sd q ⟨#[]⟩, s.call.2)) := Lib.hid (by rw [ER.out, hsd]; rfl)
    have hwd : sd.Wf := by rw [hsd]; exact hw2.del p
    have HSD := Lib.hid hsd
    clear e0 e1 e2 hk hkd had hfo hvs hu h1 h2 t2 hb1 hlk HX T1 T2 ER hsd hbu
    dsimp only at x1
    go_upto_region 10 with fail
    go_cut [10] (fun v wc => v = .slice au d.size cu ∧ wc = w2.drew)
    case first =>
      go_region_held3 (fun w' => w'.cell? ⟨r, 0, none⟩ = some (.slice (some ⟨g, 0, none⟩) fs.length cap) ∧ w'.cell? ⟨g, k * 2 + 1, none⟩ = some (.slice au d.size cu)) (first | exact ⟨by assumption, by assumption⟩ | go_keep)
        (first | (go_at_call 51; refine hf.mono ?_; rintro e w5 ⟨rfl, rfl⟩))
      all_goals
        go_wp2
        go_meet
        exact ⟨rfl, rfl⟩
    case rest =>
      obtain ⟨rfl, hwc⟩ := hcut
      have h2d : RA wc r G s.call.2 (.slice (some ⟨g, 0, none⟩) fs.length cap) K Kp vs fs := by rw [hwc]; exact H2.out.drew
      have td : Turns G W wc := by rw [hwc]; exact (HH.out.turnsG T.out).trans (Turns.of_below (Below.refl _ _).drew)
      have hbd : Bytes (fun j => j ≠ r) wc (.slice au d.size cu) d := by rw [hwc]; exact HBU.out.below (Below.refl _ _).drew
      have c0 : wc.cell? ⟨r, 0, none⟩ = some (.slice (some ⟨g, 0, none⟩) fs.length cap) := h2d.cells.1
      have H2D := Lib.hid h2d
      have TD := Lib.hid td
      have HBD := Lib.hid hbd
      have hdr := dropR_at h2d hl (Nat.lt_of_lt_of_le hml td.size) HK.out
      rw [← HSD.out] at hdr
      clear h2d td hbd hwc
      go_wp2_with (first
        | (go_at_call 54; refine hdr.mono ?_; rintro e w3 ⟨rfl, ⟨v3, vs3, fs3, h3⟩, t3⟩; obtain ⟨e3, -, -, -, -, -, fz⟩ := h3.cells; have f3 := fz 0; clear fz; obtain ⟨a3, c3, hv3, -⟩ := h3.form; subst hv3; have hl3 : fs3.length ≤ 4096 := (by rw [h3.sorts.length hwd]; exact hwd.many); have H3 := Lib.hid h3; have T3 := Lib.hid t3; clear h3 t3)
        | (go_at_call 55; refine (freeR_at H3.out hwd hl3 q).mono ?_; rintro e w4 ⟨rfl, rfl⟩)
        | (go_at_call 56; refine (putR_at H3.out hl3 (Nat.lt_of_lt_of_le hml (Nat.le_trans TD.out.size T3.out.size)) q d _ (HBD.out.kept T3.out (fun j hj e => hj e)) (fun e => e rfl) (by omega)).mono ?_; rintro e w4 ⟨rfl, h4, t4⟩; have H4 := Lib.hid (And.intro h4 t4); clear h4 t4))
      · have e0 : ¬ freeE sd q ⟨#[]⟩ = 0 := ne_zero (by assumption)
        go_ret
        rw [ER'.out, if_neg e0]
        have tt : Turns (Own1 r) wc (w3.setCell ⟨r, 0, none⟩ (.slice (some ⟨g, 0, none⟩) fs.length cap)) := T3.out.own1
        have q2 : RA _ r G s.call.2 _ K Kp vs fs := H2D.out.turned tt (by rw [get_self, H3.out.obj, HSD.out]; rfl) rfl H2D.out.fault H2D.out.left
        exact ⟨rfl, (q2.grow hml).at_, TD.out.trans (HH.out.turnsG tt)⟩
      · have e0 : freeE sd q ⟨#[]⟩ = 0 := eq_zero (by assumption)
        go_ret
        rw [ER'.out, if_pos e0]
        obtain ⟨⟨v4, vs4, fs4, q4⟩, t4⟩ := H4.out
        refine ⟨rfl, ⟨_, _, _, _, _, q4.mono (fun j _ hj => ?_) fun e => e.elim HH.out.far (fun e => by omega)⟩, (TD.out.trans (HH.out.turnsG T3.out)).within t4 fun j hj e => ?_⟩
        · rcases hj with (hj | hj) | hj
          · exact .inl hj
          · exact .inr (Nat.le_trans TD.out.size hj)
          · exact .inr (Nat.le_trans TD.out.size (Nat.le_trans T3.out.size hj))
        · rcases e with e | e
          · exact e ▸ HH.out.inG
          · rcases (H3.out.rowG j e.symm).1 with e | e
            · exact e
            · have := TD.out.size; omega
end
end Go.Proofs.YthchfkjdbfhnhaaGreatDoor
