/- A file system's files as a map: the law's own function. -/
import Derived.Test.YthchfkjdbfhnhaaDoorCrash
import Derived.Test.YthchfkjdbfhnhaaDoorRange
import Derived.Test.YthchfkjdbfhnhaaDoorBegun
namespace Go.Proofs.YthchfkjdbfhnhaaDoor
open Go Go.RowKit Go.Shelf Go.Lany
attribute [local go_sem] Oper.semAt_some
set_option maxRecDepth 100000
def strV (l : List (ByteArray × ByteArray)) : List (ByteArray × Value) := l.map fun p => (p.1, Value.string p.2)
theorem strV_put (l : List (ByteArray × ByteArray)) (k b : ByteArray) : aput (strV l) k (.string b) = strV (aput l k b) := by
  induction l with
  | nil => rfl
  | cons p l ih =>
    simp only [strV, List.map_cons, aput] at *
    split <;> simp [ih]
theorem strV_get (l : List (ByteArray × ByteArray)) (k : ByteArray) : aget (strV l) k = (aget l k).map Value.string := by
  induction l with
  | nil => rfl
  | cons p l ih =>
    simp only [strV, List.map_cons, aget] at *
    split <;> simp [ih]
/-- A block that is no block of cells is written. -/
theorem FsAt.grown {w w' : World} {f m c : Nat} {F : Nat → Prop} {s : FsSt} (h : FsAt w f m c F s) {row : Option Nat} (hg : w.grownBy w' row) (hr : ∀ r, row = some r → r ≠ m ∧ ∃ o : Obj, w.heap[r]? = some o ∧ o.isCells = false) : FsAt w' f m c F s := by
  obtain ⟨vs, hm, hb⟩ := h.map
  have hcell : ∀ k cs e fr, w.heap[k]? = some (Obj.cells cs e fr) → w'.heap[k]? = some (Obj.cells cs e fr) := fun k cs e fr hk => (hg.block k (lt_of_block hk) (fun e' => by
    obtain ⟨o, ho, hc⟩ := (hr k e'.symm).2
    rw [hk] at ho
    cases ho
    cases hc)).trans hk
  refine ⟨hcell _ _ _ _ h.obj, hcell _ _ _ _ h.cnt, ⟨vs, hm.of_block (hg.block m hm.lt fun e => (hr m e.symm).1 rfl), hb.mono fun _ _ _ hp => hp.own hg fun r e => (hr r e).2⟩, h.inF, h.far, ?_⟩
  obtain ⟨n, hn⟩ := h.ml
  refine ⟨n, ?_⟩
  simp only [World.cell?] at hn ⊢
  cases ho : w.heap[0]? with
  | none => rw [ho] at hn; cases hn
  | some o =>
    rw [ho] at hn
    cases o with
    | cells cs e fr => rw [hcell _ cs e fr ho]; exact hn
    | _ => cases hn
/-- Where the loop stands. -/
structure FRel (w : World) (s : FsSt) (f m c : Nat) (F : Nat → Prop) (Cb Mb mb : Nat) (pre : List ByteArray) (W : World) : Prop where
  st : ∃ t, Still s t ∧ FsAt W f m c F t
  cb : W.heap[Cb]? = some (.cells #[fsPtr f] 25 (0, 0))
  mbx : W.heap[Mb]? = some (.cells #[.map (some mb)] 44 (0, 0))
  mp : MapOf W mb (strV (foldR (readOf s) pre))
  bel : Below w.heap.size w W
theorem FRel.grown {w : World} {s : FsSt} {f m c Cb Mb mb : Nat} {F : Nat → Prop} {pre : List ByteArray} {W W' : World} {row : Option Nat} (h : FRel w s f m c F Cb Mb mb pre W) (hg : W.grownBy W' row) (hr : ∀ r, row = some r → r ≠ m ∧ r ≠ mb ∧ w.heap.size ≤ r ∧ ∃ o : Obj, W.heap[r]? = some o ∧ o.isCells = false) : FRel w s f m c F Cb Mb mb pre W' := by
  obtain ⟨t, h1, h2⟩ := h.st
  have hcell : ∀ k cs e fr, W.heap[k]? = some (Obj.cells cs e fr) → W'.heap[k]? = some (Obj.cells cs e fr) := fun k cs e fr hk => (hg.block k (lt_of_block hk) (fun e' => by
    obtain ⟨o, ho, hc⟩ := (hr k e'.symm).2.2.2
    rw [hk] at ho
    cases ho
    cases hc)).trans hk
  exact ⟨⟨t, h1, h2.grown hg fun r e => ⟨(hr r e).1, (hr r e).2.2.2⟩⟩, hcell _ _ _ _ h.cb, hcell _ _ _ _ h.mbx, h.mp.of_block (hg.block mb h.mp.lt fun e => (hr mb e.symm).2.1 rfl), h.bel.grown hg h.bel.size fun k e => (hr k e).2.2.1⟩
theorem FRel.own {w : World} {s : FsSt} {f m c Cb Mb mb B0 : Nat} {F : Nat → Prop} (hm : m < B0) (hmb : mb < B0) (hw : w.heap.size ≤ B0) : OwnFrom B0 (FRel w s f m c F Cb Mb mb) := fun pre W W' row h hg hr =>
  h.grown hg fun r e => by
    obtain ⟨h1, h2⟩ := hr r e
    exact ⟨by omega, by omega, by omega, h2⟩
/-- A file system's files in a map. -/
def FilesPost (s : FsSt) (w : World) (e : Ending) (w' : World) : Prop := ∃ b l, e = .returned (.map (some b)) ∧ MapOf w' b (strV l) ∧ Has s l ∧ w.heap.size ≤ b ∧ Below w.heap.size w w'
theorem cell_two {w : World} {b : Nat} {v : Value} {t : TypeId} {o1 o2 : Obj} (h : w.heap[b]? = some (.cells #[v] t (0, 0))) : ((w.alloc o1).alloc o2).cell? ⟨b, 0, none⟩ = some v := by
  have hl := lt_of_block h
  rw [cell_of_block ((get_alloc _ _ (by rw [size_alloc]; omega)).trans ((get_alloc _ _ hl).trans h))]
  rfl
theorem box_ne {w1 : World} {f m c : Nat} {F : Nat → Prop} {s : FsSt} (h : FsAt w1 f m c F s) : ¬ Own1 f w1.heap.size := fun e => by
  have := h.lt
  unfold Own1 at e
  omega
theorem box_kept {w1 w3 : World} {f m c : Nat} {F : Nat → Prop} {s : FsSt} {o : Obj} (h : FsAt w1 f m c F s) (t : Turns (Own1 f) (w1.alloc o) w3) : w3.heap[w1.heap.size]? = some o := (t.block _ (by simp) (box_ne h)).trans (get_new _ _)
set_option maxHeartbeats 8000000 in
theorem files_at {w : World} {f m c : Nat} {F : Nat → Prop} {s : FsSt} (h : FsAt w f m c F s) (hw : s.Wf) (ht : Tree s) : Calls Tryd.prog 18 #[fsPtr f] w (FilesPost s w) := by
  have hmm := @run_makeMap Tryd.prog
  have hcl := clone_at h hw
  have hsw := sorted_wf hw
  have hst := sorted_tree ht
  have hhas := sorted_has s
  have HSW := Lib.hid hsw
  have HST := Lib.hid hst
  have HHAS := Lib.hid hhas
  clear h hw ht hsw hst hhas
  obtain ⟨s1, hs1⟩ : ∃ s1, s1 = s.sorted := ⟨_, rfl⟩
  have hcl' : Calls Tryd.prog 24 #[fsPtr f] w fun e w' => ∃ f m c, e = .returned (fsPtr f) ∧ FsAt w' f m c (From w.heap.size) s1 ∧ Below w.heap.size w w' := by rw [hs1]; exact hcl
  rw [← hs1] at HSW HST HHAS
  clear hcl hs1
  refine (callsIn_wide (n := 6)).1 ?_
  refine callsIn_of_wp_marks Tryd.func18 rfl trivial ?_ rfl
  simp only [Tryd.ntmps18, List.size_toArray, List.length_cons, List.length_nil, Nat.reduceAdd, Nat.reduceSub, Array.replicate_succ, Array.replicate_zero, List.push_toArray, List.append_toArray, List.nil_append, List.cons_append]
  gi_wp2_with (first
    | (refine ⟨trivial, ?_⟩; gi_at_call 24; refine (callsIn_wide.2 hcl').mono ?_; rintro e w1 ⟨f1, m1, c1, rfl, h1, t1⟩; have h1' := h1.below ((Below.refl _ _).alloc (Nat.le_refl _) (.cells #[fsPtr f1] 25)); have T1 := Lib.hid t1; have H1 := Lib.hid h1; clear hcl' t1 h1)
    | (refine ⟨trivial, ?_⟩; gi_at_call 12; refine (callsIn_wide.2 (restart_at h1')).mono ?_; rintro e w3 ⟨rfl, h3, t3⟩; have hb3 := box_kept H1.out t3; have hcb3 : w3.cell? ⟨w1.heap.size, 0, none⟩ = some (fsPtr f1) := (by rw [cell_of_block hb3]; rfl); have T3 := Lib.hid t3; have HB3 := Lib.hid hb3; clear t3 hb3)
    | (refine ⟨trivial, ?_⟩; gi_at_call 13; refine (callsIn_wide.2 (setFault_at h3 0 0 0)).mono ?_; rintro e w4 ⟨rfl, h4, t4⟩; have hb4 := (t4.block _ (lt_of_block HB3.out) (box_ne H1.out)).trans HB3.out; have hcb4 : w4.cell? ⟨w1.heap.size, 0, none⟩ = some (fsPtr f1) := (by rw [cell_of_block hb4]; rfl); have T4 := Lib.hid t4; have HB4 := Lib.hid hb4; have H4 := Lib.hid h4; have hcb5 := cell_two (o1 := .map #[] 0) (o2 := .cells #[.map (some w4.heap.size)] 44) hb4; clear t4 hb4 hcb3 hcb4 h3 h4 h1'))
  obtain ⟨w5, hw5⟩ : ∃ w5, w5 = (w4.alloc (.map #[] 0)).alloc (.cells #[.map (some w4.heap.size)] 44) := ⟨_, rfl⟩
  rw [← hw5] at hcb5 ⊢
  have hst0 := Still.begun (s := s1)
  have hlt1 := H1.out.lt
  have hin1 : w.heap.size ≤ f1 ∧ w.heap.size ≤ m1 ∧ w.heap.size ≤ c1 := H1.out.inF
  have hs01 := T1.out.size
  have hs14 : w1.heap.size + 1 ≤ w4.heap.size := by
    have h1 := T3.out.size
    have h2 := T4.out.size
    rw [size_alloc] at h1
    omega
  have hs45 : w5.heap.size = w4.heap.size + 2 := by rw [hw5, size_alloc, size_alloc]
  have b45 : Below w4.heap.size w4 w5 := by rw [hw5]; exact ((Below.refl _ _).alloc (Nat.le_refl _) _).alloc (by simp) _
  have b05 : Below w.heap.size w w5 := by
    have t1 : Below w.heap.size w (w1.alloc (.cells #[fsPtr f1] 25)) := T1.out.alloc hs01 _
    have t2 := t1.trans (T3.out.below t1.size fun k hk e => by unfold Own1 at e; omega)
    have t3 := t2.trans (T4.out.below t2.size fun k hk e => by unfold Own1 at e; omega)
    exact t3.trans (b45.mono t3.size)
  have h5 := H4.out.below b45
  have hwf0 : ((s1.restart.snd.setFault 0 0 0).snd).Wf := HSW.out.restart.setFault 0 0 0
  obtain ⟨t0, ht0⟩ : ∃ t0, t0 = (s1.restart.snd.setFault 0 0 0).snd := ⟨_, rfl⟩
  rw [← ht0] at h5 hst0 hwf0
  have hP := paths_at h5 hwf0
  rw [hst0.1.files] at hP
  have hcb : w5.heap[w1.heap.size]? = some (.cells #[fsPtr f1] 25 (0, 0)) := (b45.block _ (by omega)).trans HB4.out
  have hmbx : w5.heap[w4.heap.size + 1]? = some (.cells #[.map (some w4.heap.size)] 44 (0, 0)) := by
    rw [hw5]
    have h := get_new (w4.alloc (.map #[] 0)) (.cells #[.map (some w4.heap.size)] 44)
    rwa [size_alloc] at h
  have hmp : MapOf w5 w4.heap.size [] := by
    rw [hw5]
    exact (MapOf.made w4).of_block (get_alloc _ _ (by simp))
  have H5 := Lib.hid h5
  have HF5 : Hid (FRel w s1 f1 m1 c1 (From w.heap.size) w1.heap.size (w4.heap.size + 1) w4.heap.size [] w5) := Lib.hid ⟨⟨t0, hst0.1, h5⟩, hcb, hmbx, hmp, b05⟩
  have hlen : (rise (akeys s1.files)).length ≤ 4096 := by rw [rise_length]; have := HSW.out.many; simpa [akeys] using this
  have hs5 := b05.size
  clear hw5 ht0 h5 hst0 hwf0 hcb hmbx hmp b45 b05 T3 T4 HB3 HB4 H4 H1
  refine ⟨trivial, ?_⟩
  refine (callsIn_wide.2 hP).mono ?_
  rintro e w6 ⟨B, vz, rfl, hcB, hvz, t6⟩
  clear hP
  have hs6 := t6.size
  have HF6 : Hid (FRel w s1 f1 m1 c1 (From w.heap.size) w1.heap.size (w4.heap.size + 1) w4.heap.size [] w6) := by
    obtain ⟨t, h1, h2⟩ := HF5.out.st
    exact Lib.hid ⟨⟨t, h1, h2.below t6⟩, (t6.block _ (lt_of_block HF5.out.cb)).trans HF5.out.cb, (t6.block _ (lt_of_block HF5.out.mbx)).trans HF5.out.mbx, HF5.out.mp.of_block (t6.block _ HF5.out.mp.lt), HF5.out.bel.trans (t6.mono HF5.out.bel.size)⟩
  have HVZ : Hid (Strs (fun k => w5.heap.size ≤ k ∧ k < w6.heap.size) w6 vz (rise (akeys s1.files))) := Lib.hid (hvz.mono fun k hk h => ⟨h, hk⟩)
  have HCB := Lib.hid hcB
  clear hvz hcB t6 hcb5 HF5 H5
  gi_wp2
  refine range_strs (q := 5) (by decide) rfl HCB.out HVZ.out (fun _ h => h.2) (by omega) (fun pre W => FRel w s1 f1 m1 c1 (From w.heap.size) w1.heap.size (w4.heap.size + 1) w4.heap.size pre W ∧ w6.heap.size ≤ W.heap.size) (OwnFrom.and (FRel.own (by omega) (by omega) (by omega)) (fun _ _ _ _ h hg _ => Nat.le_trans h hg.size)) ⟨HF6.out, Nat.le_refl _⟩ ?assign ?body ?done
  case assign =>
    intro l x W K hK
    gi_wp2
    simpa using hK
  case body =>
    rintro l pre x W ⟨hG, hsz⟩ -
    obtain ⟨t, hst, hft⟩ := hG.st
    have e3 : W.cell? ⟨w1.heap.size, 0, none⟩ = some (fsPtr f1) := by rw [cell_of_block hG.cb]; rfl
    have hrd := read_at hft x (fun b hb => hst.size HSW.out x b hb)
    obtain ⟨hr1, hr2⟩ := hst.read x
    obtain ⟨rr, hrr⟩ : ∃ rr, rr = t.read x := ⟨_, rfl⟩
    rw [← hrr] at hrd hr1 hr2
    obtain ⟨rb, rc, rt⟩ := rr
    simp only at hr1 hr2
    have HG := Lib.hid hG
    have HR1 := Lib.hid hr1
    have HR2 := Lib.hid hr2
    clear hG hst hft hr1 hr2 hrr
    gi_wp2_with (refine ⟨trivial, ?_⟩; gi_at_call 23; refine (CallsIn.inRound l (callsIn_wide.2 hrd)).mono ?_; rintro e w7 ⟨v7, rfl, hb7, h7, t7⟩; have hcv := str_of_bytes hb7; have HT7 := Lib.hid t7; have H7 := Lib.hid h7; have hmx7 := (t7.block _ (lt_of_block HG.out.mbx) (fun e => by (unfold Own3 at e; omega))).trans HG.out.mbx; have e4 : w7.cell? ⟨w4.heap.size + 1, 0, none⟩ = some (.map (some w4.heap.size)) := (by rw [cell_of_block hmx7]; rfl); have hm7 := HG.out.mp.of_block (t7.block _ HG.out.mp.lt (fun e => by (unfold Own3 at e; omega))); obtain ⟨w8, hup, hm8, hg8, hsz8⟩ := hm7.store (P := Tryd.prog) (t := 44) (k := 9) (e := 9) (by kernel_rfl) (by kernel_rfl) x (.string rb); have HMX7 := Lib.hid hmx7; have HM7 := Lib.hid hm7; have HM8 := Lib.hid hm8; have HG8 := Lib.hid hg8; have HS8 := Lib.hid hsz8; clear hb7 h7 t7 hmx7 hm7 hm8 hg8 hsz8 e3 hrd)
    have hk7 : ∀ k, k < W.heap.size → ¬ Own3 f1 m1 c1 k → k ≠ w4.heap.size → w8.heap[k]? = W.heap[k]? := fun k h1 h2 h3 => (HG8.out.block k (by have := HT7.out.size; omega) (fun e => h3 (Option.some.inj e))).trans (HT7.out.block k h1 h2)
    have hs8 := HS8.out
    have hs7 := HT7.out.size
    have hno : ∀ k, w1.heap.size ≤ k → ¬ Own3 f1 m1 c1 k := fun k hk e => by unfold Own3 at e; omega
    have h8 : FsAt w8 f1 m1 c1 (From w.heap.size) rt := H7.out.grown HG8.out fun r e => by
      have hr : w4.heap.size = r := Option.some.inj e
      obtain ⟨es, clock, hbk, _⟩ := HM7.out
      exact ⟨by omega, _, by rw [← hr]; exact hbk, rfl⟩
    refine ⟨⟨by omega, fun k o hB hk _ => (hk7 k (lt_of_block hk) (hno k (by omega)) (by omega)).trans hk⟩, fun k hk => hk7 k (by omega) (hno k (by omega)) (by omega), ⟨⟨rt, HR2.out, h8⟩, (hk7 _ (lt_of_block HG.out.cb) (hno _ (by omega)) (by omega)).trans HG.out.cb, (hk7 _ (lt_of_block HG.out.mbx) (hno _ (by omega)) (by omega)).trans HG.out.mbx, ?_, ?_⟩, by omega⟩
    · rw [foldR_snoc, ← HR1.out, ← strV_put]
      exact HM8.out
    · exact (HG.out.bel.trans (HT7.out.below HG.out.bel.size fun k hk e => by unfold Own3 at e; omega)).grown HG8.out (by omega) fun k e => by
        have hr : w4.heap.size = k := Option.some.inj e
        omega
  case done =>
    rintro D W hD ⟨hG, hsz⟩ hK
    have e4 : W.cell? ⟨w4.heap.size + 1, 0, none⟩ = some (.map (some w4.heap.size)) := by rw [cell_of_block hG.mbx]; rfl
    have HG := Lib.hid hG
    have HK := Lib.hid hK
    clear hG hK
    dsimp only [Exit.inBlock, Exit.then]
    gi_wp2
    refine leave_marks (base := w6.heap.size) [D] _ ⟨by simp, fun D' h => by
      rw [List.mem_singleton] at h
      subst h
      exact ⟨hD, HK.out⟩⟩ fun W' h1 h2 => ⟨.map (some w4.heap.size), by simp [results, Tryd.f18, go_sem], ?_⟩
    refine ⟨w4.heap.size, foldR (readOf s1) (rise (akeys s1.files)), rfl, HG.out.mp.of_block (h1 _ (by simp; omega)), ?_, by omega, HG.out.bel.trans (h2.mono (by omega))⟩
    intro p
    rw [has_fold HSW.out HST.out (fun x => mem_rise) p]
    exact HHAS.out p
end Go.Proofs.YthchfkjdbfhnhaaDoor
