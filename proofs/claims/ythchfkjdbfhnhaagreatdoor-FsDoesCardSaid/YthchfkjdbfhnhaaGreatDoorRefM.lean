/- One operation with both. -/
import Derived.Test.YthchfkjdbfhnhaaGreatDoorRefL
namespace Go.Proofs.YthchfkjdbfhnhaaGreatDoor
open Go Go.RowKit Go.Lany
set_option maxRecDepth 100000
theorem _root_.Go.Lany.Turns.cellAt {S : Nat → Prop} {w w' : World} (t : Turns S w w') {b i : Nat} {v : Value} (h : w.cell? ⟨b, i, none⟩ = some v) (hn : ¬ S b) : w'.cell? ⟨b, i, none⟩ = some v := by
  have hb := World.block_lt_of_cell? _ _ h
  have := t.block b hb hn
  unfold World.cell? at *
  simp only at *
  rw [this]
  exact h
section
variable {W : World} {r : Nat} {G : Nat → Prop} {s : FsSt}
theorem RAt.many (h : RAt W r G s) (hw : s.Wf) : ∃ v K Kp vs fs, RA W r G s v K Kp vs fs ∧ fs.length ≤ 4096 := by
  obtain ⟨v, K, Kp, vs, fs, h⟩ := h
  exact ⟨v, K, Kp, vs, fs, h, by rw [h.sorts.length hw]; exact hw.many⟩
theorem writeRt (h : RAt W r G s) (hw : s.Wf) (hml : 0 < W.heap.size) (p b : ByteArray) (vb : Value) {F : Nat → Prop} (hb : Bytes F W vb b) (hF : ¬ F r) (hbs : b.size ≤ 140737488351232) :
    Calls Tryz.prog 16 #[.pointer (some ⟨r, 0, none⟩), .string p, vb] W (StR r G W (s.write p ByteArray.empty b)) := by
  obtain ⟨v, K, Kp, vs, fs, q, hl⟩ := h.many hw
  exact writeR_at q hw hl hml p b vb hb hF hbs
theorem appendRt (h : RAt W r G s) (hw : s.Wf) (hml : 0 < W.heap.size) (p b : ByteArray) (vb : Value) {F : Nat → Prop} (hb : Bytes F W vb b) (hF : ¬ F r) (hbs : b.size ≤ 140737488351232) :
    Calls Tryz.prog 18 #[.pointer (some ⟨r, 0, none⟩), .string p, vb] W (StR r G W (s.write p ((aget s.files p).getD ByteArray.empty) b)) := by
  obtain ⟨v, K, Kp, vs, fs, q, hl⟩ := h.many hw
  exact appendR_at q hw hl hml p b vb hb hF hbs
theorem renameRt (h : RAt W r G s) (hw : s.Wf) (hml : 0 < W.heap.size) (p q : ByteArray) :
    Calls Tryz.prog 20 #[.pointer (some ⟨r, 0, none⟩), .string p, .string q] W (StR r G W (s.rename p q)) := by
  obtain ⟨v, K, Kp, vs, fs, h, hl⟩ := h.many hw
  exact renameR_at h hw hl hml p q
theorem removeRt (h : RAt W r G s) (hw : s.Wf) (hml : 0 < W.heap.size) (p : ByteArray) :
    Calls Tryz.prog 22 #[.pointer (some ⟨r, 0, none⟩), .string p] W (StR r G W (s.remove p)) := by
  obtain ⟨v, K, Kp, vs, fs, h, hl⟩ := h.many hw
  exact (removeR_at h hw hl hml p).mono fun e w' ⟨he, ⟨v', vs', fs', q⟩, t⟩ => ⟨he, q.at_, h.turnsG t⟩
theorem setFaultRt (h : RAt W r G s) (hml : 0 < W.heap.size) (k kind keep : Int) (hk : k ≤ 9223372036854775807) :
    Calls Tryz.prog 26 #[.pointer (some ⟨r, 0, none⟩), .int .i64 k, .int .i64 kind, .int .i64 keep] W (StR r G W (s.setFault k kind keep)) := by
  obtain ⟨v, K, Kp, vs, fs, h⟩ := h
  exact (setFaultR_at h k kind keep hk).mono fun e w' ⟨he, ⟨K', Kp', q⟩, t⟩ => ⟨he, (q.grow hml).at_, h.turnsG t⟩
theorem restartRt (h : RAt W r G s) (hml : 0 < W.heap.size) :
    Calls Tryz.prog 28 #[.pointer (some ⟨r, 0, none⟩)] W (StR r G W s.restart) := by
  obtain ⟨v, K, Kp, vs, fs, h⟩ := h
  exact (restartR_at h).mono fun e w' ⟨he, q, t⟩ => ⟨he, (q.grow hml).at_, h.turnsG t⟩
def ReadRt (r : Nat) (G : Nat → Prop) (W : World) (res : ByteArray × Int × FsSt) (e : Ending) (w' : World) : Prop :=
  ∃ u, e = .returned (.tuple #[u, .int .i64 res.2.1]) ∧ Bytes (fun k => W.heap.size ≤ k) w' u res.1 ∧ RAt w' r (Grow G W.heap.size) res.2.2 ∧ Turns G W w'
theorem readRt (h : RAt W r G s) (hw : s.Wf) (hml : 0 < W.heap.size) (p : ByteArray) :
    Calls Tryz.prog 15 #[.pointer (some ⟨r, 0, none⟩), .string p] W (ReadRt r G W (s.read p)) := by
  obtain ⟨v, K, Kp, vs, fs, h, hl⟩ := h.many hw
  exact (readR_at h hw hl p).mono fun e w' ⟨u, he, hu, q, t⟩ => ⟨u, he, bytes_of_row hu, (q.grow hml).at_, h.turnsG t⟩
def ListRt (r : Nat) (G : Nat → Prop) (W : World) (res : List ByteArray × Int × FsSt) (e : Ending) (w' : World) : Prop :=
  ∃ u, e = .returned (.tuple #[u, .int .i64 res.2.1]) ∧ Strs (fun k => W.heap.size ≤ k) w' u res.1 ∧ RAt w' r (Grow G W.heap.size) res.2.2 ∧ Turns G W w'
theorem listRt (h : RAt W r G s) (hw : s.Wf) (hml : 0 < W.heap.size) (d : ByteArray) :
    Calls Tryz.prog 23 #[.pointer (some ⟨r, 0, none⟩), .string d] W (ListRt r G W (s.list d)) := by
  obtain ⟨v, K, Kp, vs, fs, h, hl⟩ := h.many hw
  exact (listR_at h hw hl d).mono fun e w' ⟨u, he, hu, q, t⟩ => ⟨u, he, strs_both hu, (q.grow hml).at_, h.turnsG t⟩
theorem isRt (h : RAt W r G s) (hw : s.Wf) (p : ByteArray) :
    Calls Tryz.prog 30 #[.pointer (some ⟨r, 0, none⟩), .string p] W (IsPost W (isFile s p) (isDir s p)) := by
  obtain ⟨v, K, Kp, vs, fs, h, hl⟩ := h.many hw
  exact isR_at h hw hl p
theorem list_small {s : FsSt} (hw : s.Wf) (d : ByteArray) : (s.list d).1.length ≤ 1000000 := by
  unfold FsSt.list
  repeat' split
  all_goals first | exact Nat.zero_le _ | skip
  have h1 := list_len (akeys s.after.files) (dirOf d)
  have h2 := hw.after.many
  have : (akeys s.after.files).length = s.after.files.length := by simp [akeys]
  show (listOf _ _).length ≤ _
  omega
end
theorem step_done {B : Nat} {W0 W : World} {f m c r : Nat} {s : FsSt} {F G : Nat → Prop} (b0 : Below B W0 W) (J : JA B W f m c r s F G) {W1 : World} {s1 : FsSt} (h1 : FsAt W1 f m c (Grow F W.heap.size) s1) (t1 : Turns (Own3 f m c) W W1) {W2 : World} (h2 : RAt W2 r (Grow G W1.heap.size) s1) (t2 : Turns G W1 W2) (hw : s1.Wf) (ht : Tree s1) :
    StepPost B r W0 (.returned (.tuple #[fsPtr f, .bool true])) W2 := by
  obtain ⟨q1, q2⟩ := J.both h1 t1 h2 t2 hw ht
  exact ⟨f, rfl, ⟨m, c, s1, _, _, q1⟩, b0.trans q2⟩
theorem step_clone {B : Nat} {W0 W : World} {f m c r : Nat} {s : FsSt} {F G : Nat → Prop} (b0 : Below B W0 W) (J : JA B W f m c r s F G) {W1 W2 : World} {f' m' c' : Nat} (h1 : FsAt W1 f' m' c' (From W.heap.size) s.sorted) (t1 : Below W.heap.size W W1) (t2 : Turns (Own3 f m c) W1 W2) :
    StepPost B r W0 (.returned (.tuple #[fsPtr f', .bool true])) W2 := by
  have hB := J.B
  have hs1 := t1.size
  have hs2 := t2.size
  have hF : ∀ k, (W.heap.size ≤ k ∧ k < W1.heap.size) → ¬ Own3 f m c k := by
    obtain ⟨l1, l2, l3⟩ := J.p.lt
    rintro k ⟨hk, _⟩ (e | e | e) <;> omega
  have hp : FsAt W2 f' m' c' (fun k => W.heap.size ≤ k ∧ k < W1.heap.size) s.sorted :=
    (h1.mono (G := fun k => W.heap.size ≤ k ∧ k < W1.heap.size) (fun k hk hf => ⟨hf, hk⟩) (fun e => by have := e.1; omega)).kept t2 hF J.p.far3
  have hq : RAt W2 r G s := (J.q.kept (S := fun _ => False) (Turns.of_below t1) fun _ _ => id).kept t2 J.ownG
  obtain ⟨v, K, Kp, vs, fs, q⟩ := hq
  have hq' : RAt W2 r G s.sorted := (q.state (t := s.sorted) ⟨fun p => (q.sorts.has p).trans (sorted_has s p).symm, q.sorts.up⟩ rfl rfl rfl rfl rfl).at_
  refine ⟨f', rfl, ⟨m', c', s.sorted, _, G, hp, hq', sorted_wf J.wf, sorted_tree J.tree, fun k hk hg => ?_, fun k hk => ⟨by have := hk.1; omega, by have := hk.2; omega⟩, fun k hk => ⟨(J.qb k hk).1, by have := (J.qb k hk).2; omega⟩, hB.1, by omega⟩, b0.trans ((t1.mono hB.2).trans (t2.below (by omega) J.own))⟩
  have := (J.qb k hg).2
  have := hk.1
  omega
set_option maxHeartbeats 8000000 in
theorem step_at {B : Nat} {W : World} {f m c r : Nat} {s : FsSt} {F G : Nat → Prop} (J : JA B W f m c r s F G) (d k kind keep : Int) (path dest b : ByteArray) (vb : Value) (hb : Bytes (fun k => k < B) W vb b) (hbs : b.size ≤ 140737488351232) (hk : k ≤ 9223372036854775807) (hps : path.size ≤ 140737488351232) :
    Calls Tryz.prog 6 #[fsPtr f, .pointer (some ⟨r, 0, none⟩), .agg #[.int .i64 d, .string path, .string dest, vb, .int .i64 k, .int .i64 kind, .int .i64 keep]] W (StepPost B r W) := by
  obtain ⟨a, cap, rfl⟩ := hb.len
  have J1 := J.alloc (opObj d k kind keep path dest a b.size cap)
  have J2 := J1.drew
  have hb1 := hb.below ((Below.refl _ _).alloc (Nat.le_refl _) (opObj d k kind keep path dest a b.size cap))
  have hb2 := hb1.below (Below.refl _ _).drew
  have BB : Hid (Below B W (W.alloc (opObj d k kind keep path dest a b.size cap))) := Lib.hid ((Below.refl B W).alloc J.B.2 _)
  have BD : Hid (Below B W (W.alloc (opObj d k kind keep path dest a b.size cap)).drew) := Lib.hid BB.out.drew
  have hcell : ∀ i, (W.alloc (opObj d k kind keep path dest a b.size cap)).cell? ⟨W.heap.size, i, none⟩ = #[.int .i64 d, .string path, .string dest, .slice a b.size cap, .int .i64 k, .int .i64 kind, .int .i64 keep][i]? := fun i => cell_of_block (get_new _ _) i
  have x1 := hcell 1
  have x2 := hcell 2
  have x3 := hcell 3
  have x4 := hcell 4
  have x5 := hcell 5
  have x6 := hcell 6
  have nb : Hid (¬ Own3 f m c W.heap.size) := Lib.hid (by
    obtain ⟨h1, h2, h3⟩ := J.p.lt
    rintro (e | e | e) <;> omega)
  have ng : Hid (¬ G W.heap.size) := Lib.hid fun e => by have := (J.qb _ e).2; omega
  have nr : Hid (¬ r < B) := Lib.hid (by
    obtain ⟨v, K, Kp, vs, fs, h⟩ := J.q
    have := (J.qb r h.inG).1
    omega)
  have HML : Hid (0 < (W.alloc (opObj d k kind keep path dest a b.size cap)).heap.size) := Lib.hid (by have := J1.B; omega)
  have hkeep := J.wf.keep
  have hsz : ∀ p b, aget s.files p = some b → b.size ≤ 140737488355328 := fun p b hb => by have := J.wf.size p b hb; omega
  have hold : ((aget s.files path).getD ByteArray.empty).size ≤ 140737488355328 := by have := J.wf.getD path; omega
  have hks : ∀ k ∈ akeys s.files, k.size ≤ 1024 := fun k hk => good_len (J.wf.good k hk)
  have X1 := Lib.hid x1
  have X2 := Lib.hid x2
  have X3 := Lib.hid x3
  have X4 := Lib.hid x4
  have X5 := Lib.hid x5
  have X6 := Lib.hid x6
  have HJ := Lib.hid J
  have HJ1 := Lib.hid J1
  have HJ2 := Lib.hid J2
  have HB1 := Lib.hid hb1
  have HB2 := Lib.hid hb2
  have HSZ := Lib.hid hsz
  have HKS := Lib.hid hks
  have HOLD := Lib.hid hold
  clear J J1 J2 hb hb1 hb2 hcell x1 x2 x3 x4 x5 x6 hsz hks hold
  cases e0 : (d == 0) with
  | true =>
    have hP := read_at HJ1.out.p path (HSZ.out path)
    go_enter Tryz.func6, Tryz.ntmps6
    go_wp2_with (first
      | (go_at_call 13; refine hP.mono ?_; rintro e w2 ⟨v2, rfl, hv2, h2, t2⟩; have T2 := Lib.hid t2; have H2 := Lib.hid (grow_of h2 HJ1.out.p.ml); have y1 := T2.out.cellAt X1.out nb.out; have HM := Lib.hid (HJ1.out.first H2.out T2.out); have HV2 := Lib.hid hv2; obtain ⟨a2, c2, rfl⟩ := hv2.len; clear h2 t2 hv2)
      | (go_at_call 15; refine (readRt HM.out.2.1 HJ.out.wf (Nat.lt_of_lt_of_le HML.out T2.out.size) path).mono ?_; rintro e w3 ⟨v3, rfl, hv3, h3, t3⟩; have T3 := Lib.hid t3; have H3 := Lib.hid h3; have hst3 := str_of_bytes hv3; have hst2 := str_of_bytes (HV2.out.kept T3.out (fun j hj hg => by (have h1 := (HJ1.out.qb j hg).2; have h2 : (W.alloc (opObj d k kind keep path dest a b.size cap)).heap.size ≤ j := hj; omega))); obtain ⟨a3, c3, rfl⟩ := hv3.len; clear h3 t3 hv3))
    go_ret2
    exact step_done BB.out HJ1.out H2.out T2.out H3.out T3.out (HJ.out.wf.read _).1 (HJ.out.tree.read _)
  | false =>
    cases e1 : (d == 1) with
    | true =>
      have hP := Write_at HJ2.out.p path _ b HB2.out (by omega) hkeep
      go_enter Tryz.func6, Tryz.ntmps6
      go_upto_region 7 with fail
      have x1 := X1.out
      have x3 := X3.out
      go_region_held3 (fun w' => w'.cell? ⟨W.heap.size, 1, none⟩ = some (.string path) ∧ w'.cell? ⟨W.heap.size, 3, none⟩ = some (.slice a b.size cap)) (first | exact ⟨by assumption, by assumption⟩ | go_keep)
        (first
          | (go_at_call 12; refine hP.mono ?_; rintro e w2 ⟨rfl, h2, t2⟩; have T2 := Lib.hid (t2); have H2 := Lib.hid (h2); have y1 := T2.out.cellAt (show _ from X1.out) nb.out; have y3 := T2.out.cellAt (show _ from X3.out) nb.out; have HM := Lib.hid (HJ2.out.first H2.out T2.out); clear h2 t2)
          | (go_at_call 16; refine (writeRt HM.out.2.1 HJ.out.wf (Nat.lt_of_lt_of_le HML.out T2.out.size) path b _ (HB2.out.kept T2.out HJ.out.own) nr.out hbs).mono ?_; rintro e w3 ⟨rfl, h3, t3⟩; have T3 := Lib.hid t3; have H3 := Lib.hid h3; have z1 := T3.out.cellAt y1 ng.out; have z3 := T3.out.cellAt y3 ng.out; clear h3 t3))
      all_goals
        go_wp2
        go_ret2
        exact step_done BD.out HJ2.out H2.out T2.out H3.out T3.out (HJ.out.wf.write _ _ _) (HJ.out.tree.write HJ.out.wf _ _ _)
    | false =>
      cases e2 : (d == 2) with
      | true =>
        have hP := Append_at HJ2.out.p path _ b HB2.out (by omega) hkeep HOLD.out
        go_enter Tryz.func6, Tryz.ntmps6
        go_upto_region 9 with fail
        have x1 := X1.out
        have x3 := X3.out
        go_region_held3 (fun w' => w'.cell? ⟨W.heap.size, 1, none⟩ = some (.string path) ∧ w'.cell? ⟨W.heap.size, 3, none⟩ = some (.slice a b.size cap)) (first | exact ⟨by assumption, by assumption⟩ | go_keep)
          (first
            | (go_at_call 17; refine hP.mono ?_; rintro e w2 ⟨rfl, h2, t2⟩; have T2 := Lib.hid (t2); have H2 := Lib.hid (h2); have y1 := T2.out.cellAt (show _ from X1.out) nb.out; have y3 := T2.out.cellAt (show _ from X3.out) nb.out; have HM := Lib.hid (HJ2.out.first H2.out T2.out); clear h2 t2)
            | (go_at_call 18; refine (appendRt HM.out.2.1 HJ.out.wf (Nat.lt_of_lt_of_le HML.out T2.out.size) path b _ (HB2.out.kept T2.out HJ.out.own) nr.out hbs).mono ?_; rintro e w3 ⟨rfl, h3, t3⟩; have T3 := Lib.hid t3; have H3 := Lib.hid h3; have z1 := T3.out.cellAt y1 ng.out; have z3 := T3.out.cellAt y3 ng.out; clear h3 t3))
        all_goals
          go_wp2
          go_ret2
          exact step_done BD.out HJ2.out H2.out T2.out H3.out T3.out (HJ.out.wf.write _ _ _) (HJ.out.tree.write HJ.out.wf _ _ _)
      | false =>
        cases e3 : (d == 3) with
        | true =>
          have hP := rename_at HJ2.out.p path dest
          go_enter Tryz.func6, Tryz.ntmps6
          go_upto_region 11 with fail
          have x1 := X1.out
          have x2 := X2.out
          go_region_held3 (fun w' => w'.cell? ⟨W.heap.size, 1, none⟩ = some (.string path) ∧ w'.cell? ⟨W.heap.size, 2, none⟩ = some (.string dest)) (first | exact ⟨by assumption, by assumption⟩ | go_keep)
            (first
              | (go_at_call 19; refine hP.mono ?_; rintro e w2 ⟨rfl, h2, t2⟩; have T2 := Lib.hid (t2); have H2 := Lib.hid (grow_of h2 HJ2.out.p.ml); have y1 := T2.out.cellAt (show _ from X1.out) nb.out; have y2 := T2.out.cellAt (show _ from X2.out) nb.out; have HM := Lib.hid (HJ2.out.first H2.out T2.out); clear h2 t2)
              | (go_at_call 20; refine (renameRt HM.out.2.1 HJ.out.wf (Nat.lt_of_lt_of_le HML.out T2.out.size) path dest).mono ?_; rintro e w3 ⟨rfl, h3, t3⟩; have T3 := Lib.hid t3; have H3 := Lib.hid h3; have z1 := T3.out.cellAt y1 ng.out; have z2 := T3.out.cellAt y2 ng.out; clear h3 t3))
          all_goals
            go_wp2
            go_ret2
            exact step_done BD.out HJ2.out H2.out T2.out H3.out T3.out (HJ.out.wf.rename _ _) (HJ.out.tree.rename HJ.out.wf _ _)
        | false =>
          cases e4 : (d == 4) with
          | true =>
            have hP := remove_at HJ2.out.p path
            go_enter Tryz.func6, Tryz.ntmps6
            go_upto_region 13 with fail
            have x1 := X1.out
            go_region_held3 (fun w' => w'.cell? ⟨W.heap.size, 1, none⟩ = some (.string path)) (first | assumption | go_keep)
              (first
                | (go_at_call 21; refine hP.mono ?_; rintro e w2 ⟨rfl, h2, t2⟩; have T2 := Lib.hid (t2); have H2 := Lib.hid (grow_of h2 HJ2.out.p.ml); have y1 := T2.out.cellAt (show _ from X1.out) nb.out; have HM := Lib.hid (HJ2.out.first H2.out T2.out); clear h2 t2)
                | (go_at_call 22; refine (removeRt HM.out.2.1 HJ.out.wf (Nat.lt_of_lt_of_le HML.out T2.out.size) path).mono ?_; rintro e w3 ⟨rfl, h3, t3⟩; have T3 := Lib.hid t3; have H3 := Lib.hid h3; have z1 := T3.out.cellAt y1 ng.out; clear h3 t3))
            all_goals
              go_wp2
              go_ret2
              exact step_done BD.out HJ2.out H2.out T2.out H3.out T3.out (HJ.out.wf.remove _) (HJ.out.tree.remove _)
          | false =>
            cases e5 : (d == 5) with
            | true =>
              have hP := list_at HJ1.out.p path HKS.out HJ.out.wf.many
              have hls := list_small HJ.out.wf path
              go_enter Tryz.func6, Tryz.ntmps6
              go_wp2_with (first
                | (go_at_call 14; refine hP.mono ?_; rintro e w2 ⟨v2, rfl, hv2, h2, t2⟩; have T2 := Lib.hid t2; have H2 := Lib.hid (grow_of h2 HJ1.out.p.ml); have y1 := T2.out.cellAt X1.out nb.out; have HM := Lib.hid (HJ1.out.first H2.out T2.out); have HV2 := Lib.hid hv2; clear h2 t2 hv2)
                | (go_at_call 23; refine (listRt HM.out.2.1 HJ.out.wf (Nat.lt_of_lt_of_le HML.out T2.out.size) path).mono ?_; rintro e w3 ⟨v3, rfl, hv3, h3, t3⟩; have T3 := Lib.hid t3; have H3 := Lib.hid h3; have HV3 := Lib.hid hv3; have HV23 := Lib.hid (HV2.out.kept T3.out (fun j hj hg => by (have h1 := (HJ1.out.qb j hg).2; have h2 : (W.alloc (opObj d k kind keep path dest a b.size cap)).heap.size ≤ j := hj; omega))); clear h3 t3 hv3)
                | (go_at_call 24; refine (texts_at HV23.out HV3.out hls).mono ?_; rintro e w4 ⟨rfl, hb4⟩; have T4 := Lib.hid hb4; clear hb4))
              go_ret2
              exact step_done BB.out HJ1.out H2.out T2.out (H3.out.kept (S := fun _ => False) (Turns.of_below T4.out) fun _ _ => id) (T3.out.trans (Turns.of_below T4.out)) (HJ.out.wf.list _) (HJ.out.tree.list _)
            | false =>
              cases e6 : (d == 6) with
              | true =>
                have hP := setFault_at HJ2.out.p k kind keep
                go_enter Tryz.func6, Tryz.ntmps6
                go_upto_region 19 with fail
                have x4 := X4.out
                have x5 := X5.out
                have x6 := X6.out
                go_region_held3 (fun w' => w'.cell? ⟨W.heap.size, 4, none⟩ = some (.int .i64 k) ∧ w'.cell? ⟨W.heap.size, 5, none⟩ = some (.int .i64 kind) ∧ w'.cell? ⟨W.heap.size, 6, none⟩ = some (.int .i64 keep)) (first | exact ⟨by assumption, by assumption, by assumption⟩ | go_keep)
                  (first
                    | (go_at_call 25; refine hP.mono ?_; rintro e w2 ⟨rfl, h2, t2⟩; have T2 := Lib.hid (Own1.three (m := m) (c := c) t2); have H2 := Lib.hid (grow_of h2 HJ2.out.p.ml); have y4 := T2.out.cellAt (show _ from X4.out) nb.out; have y5 := T2.out.cellAt (show _ from X5.out) nb.out; have y6 := T2.out.cellAt (show _ from X6.out) nb.out; have HM := Lib.hid (HJ2.out.first H2.out T2.out); clear h2 t2)
                    | (go_at_call 26; refine (setFaultRt HM.out.2.1 (Nat.lt_of_lt_of_le HML.out T2.out.size) k kind keep hk).mono ?_; rintro e w3 ⟨rfl, h3, t3⟩; have T3 := Lib.hid t3; have H3 := Lib.hid h3; have z4 := T3.out.cellAt y4 ng.out; have z5 := T3.out.cellAt y5 ng.out; have z6 := T3.out.cellAt y6 ng.out; clear h3 t3))
                all_goals
                  go_wp2
                  go_ret2
                  exact step_done BD.out HJ2.out H2.out T2.out H3.out T3.out (HJ.out.wf.setFault _ _ _) (HJ.out.tree.setFault _ _ _)
              | false =>
                cases e7 : (d == 7) with
                | true =>
                  have hP := restart_at HJ1.out.p
                  go_enter Tryz.func6, Tryz.ntmps6
                  go_wp2_with (first
                    | (go_at_call 27; refine hP.mono ?_; rintro e w2 ⟨rfl, h2, t2⟩; have T2 := Lib.hid (Own1.three (m := m) (c := c) t2); have H2 := Lib.hid (grow_of h2 HJ1.out.p.ml); have HM := Lib.hid (HJ1.out.first H2.out T2.out); clear h2 t2)
                    | (go_at_call 28; refine (restartRt HM.out.2.1 (Nat.lt_of_lt_of_le HML.out T2.out.size)).mono ?_; rintro e w3 ⟨rfl, h3, t3⟩; have T3 := Lib.hid t3; have H3 := Lib.hid h3; clear h3 t3))
                  go_ret2
                  exact step_done BB.out HJ1.out H2.out T2.out H3.out T3.out HJ.out.wf.restart HJ.out.tree.restart
                | false =>
                  cases e8 : (d == 8) with
                  | true =>
                    have hP := is_at HJ1.out.p path hps
                    go_enter Tryz.func6, Tryz.ntmps6
                    go_wp2_with (first
                      | (go_at_call 29; refine hP.mono ?_; rintro e w2 ⟨rfl, hb2⟩; have T2 := Lib.hid (Turns.of_below (S := Own3 f m c) hb2); have H2 := Lib.hid (grow_of (HJ1.out.p.below hb2) HJ1.out.p.ml); have y1 := T2.out.cellAt X1.out nb.out; have HM := Lib.hid (HJ1.out.first H2.out T2.out); clear hb2)
                      | (go_at_call 30; refine (isRt HM.out.2.1 HJ.out.wf path).mono ?_; rintro e w3 ⟨rfl, hb3⟩; have T3 := Lib.hid (Turns.of_below (S := G) hb3); have H3 := Lib.hid ((HM.out.2.1.kept (S := fun _ => False) (Turns.of_below hb3) fun _ _ => id).grow (Nat.lt_of_lt_of_le HML.out T2.out.size)); clear hb3))
                    go_ret2
                    exact step_done BB.out HJ1.out H2.out T2.out H3.out T3.out HJ.out.wf HJ.out.tree
                  | false =>
                    cases e9 : (d == 9) with
                    | true =>
                      go_enter Tryz.func6, Tryz.ntmps6
                      go_wp2_with (first
                        | (go_at_call 31; refine (clone_at HJ1.out.p HJ.out.wf).mono ?_; rintro e w2 ⟨f2, m2, c2, rfl, h2, hb2⟩; have T2 := Lib.hid hb2; have H2 := Lib.hid h2; have y1 := T2.out.cell (World.block_lt_of_cell? _ _ X1.out) |>.trans X1.out; have y2 := T2.out.cell (World.block_lt_of_cell? _ _ X2.out) |>.trans X2.out; have y3 := T2.out.cell (World.block_lt_of_cell? _ _ X3.out) |>.trans X3.out; clear h2 hb2)
                        | (go_at_call 12; refine (Write_at (HJ1.out.p.below T2.out) path _ b (HB1.out.below T2.out) (by omega) hkeep).mono ?_; rintro e w3 ⟨rfl, h3, t3⟩; have T3 := Lib.hid t3; have H3 := Lib.hid h3; have z2 := T3.out.cellAt y2 nb.out; clear h3 t3)
                        | (go_at_call 21; refine (remove_at H3.out dest).mono ?_; rintro e w4 ⟨rfl, h4, t4⟩; have T4 := Lib.hid t4; clear h4 t4))
                      go_ret2
                      exact step_clone BB.out HJ1.out H2.out T2.out (T3.out.trans T4.out)
                    | false =>
                      go_enter Tryz.func6, Tryz.ntmps6
                      go_wp2
                      go_ret2
                      exact step_done BB.out HJ1.out (grow_of HJ1.out.p HJ1.out.p.ml) (Turns.refl _ _) (HJ1.out.q.grow HML.out) (Turns.refl _ _) HJ.out.wf HJ.out.tree
end Go.Proofs.YthchfkjdbfhnhaaGreatDoor
