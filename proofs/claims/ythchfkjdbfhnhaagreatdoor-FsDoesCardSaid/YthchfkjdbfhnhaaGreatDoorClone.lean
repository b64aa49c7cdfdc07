/- The clone of a file system. -/
import Derived.Test.YthchfkjdbfhnhaaGreatDoorRound
import Derived.Test.YthchfkjdbfhnhaaGreatDoorOneP
namespace Go.Proofs.YthchfkjdbfhnhaaGreatDoor
open Go Go.RowKit Go.Shelf Go.Lany
attribute [local go_sem] Oper.semAt_some
set_option maxRecDepth 100000
/-- The files in their paths' order. -/
def dataOf (s : FsSt) (k : ByteArray) : ByteArray := (aget s.files k).getD ByteArray.empty
def copyB (s : FsSt) (ks : List ByteArray) : List (ByteArray × ByteArray) := ks.foldl (fun m k => aput m k (dataOf s k)) []
theorem copyB_snoc (s : FsSt) (ks : List ByteArray) (k : ByteArray) : copyB s (ks ++ [k]) = aput (copyB s ks) k (dataOf s k) := by simp [copyB]
def FsSt.sorted (s : FsSt) : FsSt := { s with files := copyB s (rise (akeys s.files)) }
theorem Bytes.own {F : Nat → Prop} {w w' : World} {v : Value} {bs : ByteArray} (h : Bytes F w v bs) {row : Option Nat} (hg : w.grownBy w' row) (hr : ∀ r, row = some r → ∃ o : Obj, w.heap[r]? = some o ∧ o.isCells = false) : Bytes F w' v bs := by
  rcases h with h | ⟨b, off, sp, cap, hcap, rfl, h⟩
  · exact .inl h
  · refine .inr ⟨b, off, sp, cap, hcap, rfl, h.imp id ?_⟩
    rintro ⟨hsp, h2, cells, e, fr, h3, h4⟩
    refine ⟨hsp, h2, cells, e, fr, (hg.block b (lt_of_block h3) fun e' => ?_).trans h3, h4⟩
    obtain ⟨o, ho, hc⟩ := hr b e'.symm
    rw [h3] at ho
    cases ho
    cases hc
/-- Where the clone stands: its own blocks, the files that have been copied. -/
structure CLaw (s : FsSt) (w : World) (f c : Nat) (pre : List ByteArray) (W : World) : Prop where
  box : W.heap[w.heap.size]? = some (.cells #[fsPtr f] 23 (0, 0))
  obj : W.heap[w.heap.size + 1]? = some (fsObj (w.heap.size + 2) c s.left s.kind s.keep s.down)
  map : ∃ vs, MapOf W (w.heap.size + 2) vs ∧ Both (Bytes (From (w.heap.size + 3)) W) vs (copyB s pre)
  bel : Below w.heap.size w W
theorem CLaw.below {s : FsSt} {w : World} {f c : Nat} {pre : List ByteArray} {W W' : World} (h : CLaw s w f c pre W) (t : Below W.heap.size W W') : CLaw s w f c pre W' := by
  obtain ⟨vs, h1, h2⟩ := h.map
  exact ⟨(t.block _ (lt_of_block h.box)).trans h.box, (t.block _ (lt_of_block h.obj)).trans h.obj, ⟨vs, h1.of_block (t.block _ h1.lt), h2.mono fun _ _ _ hb => hb.below t⟩, h.bel.trans (t.mono h.bel.size)⟩
theorem CLaw.own {s : FsSt} {w : World} {f c B : Nat} (hB : w.heap.size + 3 ≤ B) : OwnFrom B (CLaw s w f c) := fun pre W W' row h hg hr => by
  obtain ⟨vs, h1, h2⟩ := h.map
  have hne : ∀ k, k < B → some k ≠ row := fun k hk e => by have := (hr k e.symm).1; omega
  exact ⟨(hg.block _ (lt_of_block h.box) (hne _ (by omega))).trans h.box, (hg.block _ (lt_of_block h.obj) (hne _ (by omega))).trans h.obj, ⟨vs, h1.of_block (hg.block _ h1.lt (hne _ (by omega))), h2.mono fun _ _ _ hb => hb.own hg fun r e => (hr r e).2⟩, h.bel.grown hg h.bel.size fun k e => by have := (hr k e).1; omega⟩
/-- A file is copied. -/
theorem CLaw.put {s : FsSt} {w : World} {f c : Nat} {pre : List ByteArray} {W : World} (h : CLaw s w f c pre W) (x : ByteArray) {u : Value} (hu : Bytes (From (w.heap.size + 3)) W u (dataOf s x)) :
    ∃ W', (Instr.mapUpdate 38 (.map (some (w.heap.size + 2))) (.string x) u).run Tryz.prog W = .ok () W' ∧ CLaw s w f c (pre ++ [x]) W' ∧ W.grownBy W' (some (w.heap.size + 2)) := by
  obtain ⟨vs, h1, h2⟩ := h.map
  obtain ⟨W', e1, e2, e3, e4⟩ := h1.store (P := Tryz.prog) (t := 38) (k := 9) (e := 30) (by kernel_rfl) (by kernel_rfl) x u
  have hr : ∀ r, some (w.heap.size + 2) = some r → ∃ o : Obj, W.heap[r]? = some o ∧ o.isCells = false := fun r e => by
    cases e
    obtain ⟨es, clock, hb, _⟩ := h1
    exact ⟨_, hb, rfl⟩
  refine ⟨W', e1, ⟨(e3.block _ (lt_of_block h.box) (by simp)).trans h.box, (e3.block _ (lt_of_block h.obj) (by simp)).trans h.obj, ⟨_, e2, ?_⟩, h.bel.grown e3 h.bel.size fun k e => by cases e; omega⟩, e3⟩
  rw [copyB_snoc]
  exact (h2.mono fun _ _ _ hb => hb.own e3 hr).put x (hu.own e3 hr)
def PathsPost (l : List ByteArray) (w : World) (e : Ending) (w' : World) : Prop :=
  ∃ B v, e = .returned (.func (.func 77) #[] #[.pointer (some ⟨B, 0, none⟩)]) ∧ w'.cell? ⟨B, 0, none⟩ = some v ∧ Strs (From w.heap.size) w' v l ∧ Below w.heap.size w w'
theorem Strs.slice {F : Nat → Prop} {w : World} {v : Value} {l : List ByteArray} (h : Strs F w v l) : ∃ a c, v = .slice a l.length c := by
  rcases h with ⟨rfl, rfl⟩ | ⟨b, cap, cells, rfl, _⟩ <;> exact ⟨_, _, rfl⟩
theorem paths_at {w : World} {f m c : Nat} {F : Nat → Prop} {s : FsSt} (h : FsAt w f m c F s) (hw : s.Wf) : Calls Tryz.prog 34 #[fsPtr f] w (PathsPost (rise (akeys s.files)) w) := by
  obtain ⟨c0, -, -, -, -, -, -⟩ := h.cells
  have hn := none_at h
  obtain ⟨vs, hm, hb⟩ := h.map
  have hka : akeys vs = akeys s.files := hb.akeys
  have hl : vs.length ≤ 1000000 := by have := hw.many; rw [hb.length]; omega
  have hk := keysB w m
  have hs := sortedB hm hl (fun k hk => by rw [hka] at hk; have := good_len (hw.good k hk); omega)
  rw [hka] at hs
  clear h hw hm hb hka hl
  go_enter Tryz.func34, Tryz.ntmps34
  go_wp2_with (first
    | (go_at_call 32; refine hn.mono ?_; rintro e w' ⟨rfl, rfl⟩)
    | (go_at_call 62; refine hk.mono ?_; rintro e w' ⟨rfl, rfl⟩)
    | (go_at_call 45; refine hs.mono ?_; rintro e w3 ⟨v, rfl, hv, t3⟩; have HV := Lib.hid hv; have T3 := Lib.hid t3; obtain ⟨a, cp, rfl⟩ := hv.slice; clear hv t3)
    | (go_at_call 63; refine (values_any _ _ _ _).mono ?_; rintro e w' ⟨rfl, rfl⟩))
  go_ret
  exact ⟨_, _, rfl, by rw [cell_of_block (get_new _ _)]; rfl, HV.out.below ((Below.refl _ _).alloc (Nat.le_refl _) _), T3.out.alloc T3.out.size _⟩
def ClonePost (s : FsSt) (w : World) (e : Ending) (w' : World) : Prop := ∃ f m c, e = .returned (fsPtr f) ∧ FsAt w' f m c (From w.heap.size) s.sorted ∧ Below w.heap.size w w'
theorem drew_size (w : World) : w.drew.heap.size = w.heap.size := rfl
/-- The world that the function leaves, but for its marks. -/
abbrev cloneEnd (s : FsSt) (w W : World) : World := ((W.alloc (.cells #[.int .i64 0] 44)).setCell ⟨w.heap.size + 1, 4, none⟩ (.pointer (some ⟨W.heap.size, 0, none⟩))).drew.setCell ⟨W.heap.size, 0, none⟩ (.int .i64 s.calls)
theorem clone_size (s : FsSt) (w W : World) : (cloneEnd s w W).heap.size = W.heap.size + 1 := by rw [size_set, drew_size, size_set, size_alloc]
theorem clone_other {s : FsSt} {w W : World} {k : Nat} (h1 : k < W.heap.size) (h2 : k ≠ w.heap.size + 1) : (cloneEnd s w W).heap[k]? = W.heap[k]? := by
  rw [get_other _ _ _ (by omega)]
  show ((W.alloc _).setCell _ _).heap[k]? = _
  rw [get_other _ _ _ h2, get_alloc _ _ h1]
theorem clone_marks {s : FsSt} {w W : World} {D : Nat} (hK : W.heap[D]? = some (.deferred (some []))) (hD : w.heap.size + 3 ≤ D) : Marks (w.heap.size + 3) [D] (cloneEnd s w W) :=
  ⟨by simp, fun D' h => by
    rw [List.mem_singleton] at h
    subst h
    exact ⟨hD, (clone_other (lt_of_block hK) (by omega)).trans hK⟩⟩
theorem clone_end {w W W' : World} {f m c D : Nat} {F : Nat → Prop} {s : FsSt} (hh : FsAt w f m c F s) (hL : CLaw s w f c (rise (akeys s.files)) W) (hK : W.heap[D]? = some (.deferred (some []))) (hD : w.heap.size + 3 ≤ D)
    (h1 : ∀ k, k ∉ [D] → W'.heap[k]? = (cloneEnd s w W).heap[k]?) (h2 : Below (w.heap.size + 3) (cloneEnd s w W) W') : ClonePost s w (.returned (fsPtr (w.heap.size + 1))) W' := by
  have l1 := lt_of_block hL.obj
  have lD := lt_of_block hK
  obtain ⟨vs, hm, hb⟩ := hL.map
  have l2 := hm.lt
  have h1' : ∀ k, k ≠ D → W'.heap[k]? = (cloneEnd s w W).heap[k]? := fun k hk => h1 k (by simpa using hk)
  have t : Turns (fun k => k = w.heap.size + 1 ∨ k = W.heap.size) W (cloneEnd s w W) := ((((Turns.refl _ W).alloc _).setCell (.inl (.inl rfl)) _).drew).setCell (.inl (.inr rfl)) _
  have hg : (cloneEnd s w W).grownBy W' (some D) := ⟨h2.os, h2.tape, h2.output, h2.size, fun k _ hk => h1' k fun e => hk (by rw [e])⟩
  have hbel : Below w.heap.size w (cloneEnd s w W) := ⟨t.os.trans hL.bel.os, t.tape.trans hL.bel.tape, t.output.trans hL.bel.output, by rw [clone_size]; omega, fun k hk => (clone_other (by omega) (by omega)).trans (hL.bel.block k hk)⟩
  refine ⟨w.heap.size + 1, w.heap.size + 2, W.heap.size, rfl, ⟨?_, ?_, ⟨vs, ?_, ?_⟩, ⟨by unfold From; omega, by unfold From; omega, by unfold From; omega⟩, fun e => ?_, ?_⟩, hbel.grown hg (by rw [clone_size]; omega) fun k e => by cases e; omega⟩
  · rw [h1' _ (by omega), get_other _ _ _ (by omega)]
    show ((W.alloc _).setCell _ _).heap[_]? = _
    rw [get_self, get_alloc _ _ l1, hL.obj]; rfl
  · rw [h1' _ (by omega), get_self]
    show (((W.alloc _).setCell _ _).heap[_]?).map _ = _
    rw [get_other _ _ _ (by omega), get_new]; rfl
  · exact hm.of_block ((h1' _ (by omega)).trans (clone_other l2 (by omega)))
  · refine hb.mono fun p _ bs hp => ?_
    have b1 : Bytes (fun k => w.heap.size + 3 ≤ k ∧ k < W.heap.size) W p.2 bs := hp.mono fun k hk h => ⟨h, hk⟩
    have b2 := b1.kept t fun k hk e => by rcases e with e | e <;> omega
    have b3 := b2.own hg fun r e => by
      cases e
      exact ⟨_, (clone_other lD (by omega)).trans hK, rfl⟩
    exact b3.mono fun k _ hk => by unfold From; omega
  · have h := Ml.lt hh.ml
    unfold From at e
    omega
  · exact (hh.ml.below (hbel)).kept (S := fun k => k = D) ⟨h2.os, h2.tape, h2.output, h2.size, fun k _ hk => h1' k hk⟩ (fun e => by have h := Ml.lt hh.ml; omega)
set_option maxHeartbeats 4000000 in
theorem clone_at {w : World} {f m c : Nat} {F : Nat → Prop} {s : FsSt} (h : FsAt w f m c F s) (hw : s.Wf) : Calls Tryz.prog 31 #[fsPtr f] w (ClonePost s w) := by
  have hmm := @run_makeMap Tryz.prog
  have b1 := (Below.refl w.heap.size w).alloc (Nat.le_refl _) (.cells #[fsPtr f] 23)
  have h1 := h.below b1
  obtain ⟨c0, c1, c2, c3, c4, c5, -⟩ := h1.cells
  have hn := none_at h1
  have hP := fun (W : World) (b : Below w.heap.size w W) => paths_at (h.below b) hw
  have hCL : CLaw s w f c [] (((w.alloc (.cells #[fsPtr f] 23)).alloc (fsObj (w.heap.size + 1 + 1) c s.left s.kind s.keep s.down)).alloc (.map #[] 0)) := by
    refine ⟨?_, ?_, ⟨[], ?_, Both.nil⟩, (b1.alloc (by simp) _).alloc (by simp; omega) _⟩
    · rw [get_alloc _ _ (by simp; omega), get_alloc _ _ (by simp), get_new]
    · rw [get_alloc _ _ (by simp)]
      have h := get_new (w.alloc (.cells #[fsPtr f] 23)) (fsObj (w.heap.size + 1 + 1) c s.left s.kind s.keep s.down)
      rwa [size_alloc] at h
    · have h := MapOf.made ((w.alloc (.cells #[fsPtr f] 23)).alloc (fsObj (w.heap.size + 1 + 1) c s.left s.kind s.keep s.down))
      rwa [size_alloc, size_alloc] at h
  have hsz : (((w.alloc (.cells #[fsPtr f] 23)).alloc (fsObj (w.heap.size + 1 + 1) c s.left s.kind s.keep s.down)).alloc (.map #[] 0)).heap.size = w.heap.size + 3 := by simp
  have HS := Lib.hid hsz
  have HCL := Lib.hid hCL
  have HH := Lib.hid h
  have HP := Lib.hid hP
  clear h b1 h1 hCL hsz hP
  refine (callsIn_wide (n := 5)).1 ?_
  refine callsIn_of_wp_marks Tryz.func31 rfl trivial ?_ rfl
  simp only [Tryz.ntmps31, List.size_toArray, List.length_cons, List.length_nil, Nat.reduceAdd, Nat.reduceSub, Array.replicate_succ, Array.replicate_zero, List.push_toArray, List.append_toArray, List.nil_append, List.cons_append]
  gi_wp2_with (first
    | (refine ⟨trivial, ?_⟩; gi_at_call 32; refine (callsIn_wide.2 hn).mono ?_; rintro e w' ⟨rfl, rfl⟩))
  refine ⟨trivial, ?_⟩
  refine (callsIn_wide.2 (HP.out _ HCL.out.bel)).mono ?_
  rintro e w3 ⟨B, v, rfl, hcb, hv, t3⟩
  have hs3 := t3.size
  rw [HS.out] at hs3
  have HV := Lib.hid hv
  have HC3 := Lib.hid (HCL.out.below t3)
  have HB := Lib.hid hcb
  clear hv hcb t3 HCL HS HP c0 c1 c2 c3 c4 c5 hn hmm
  gi_wp2
  have hlen : (rise (akeys s.files)).length ≤ 140737488355328 := by
    have := hw.many
    have h : (rise (akeys s.files)).length = s.files.length := by unfold rise; simp [akeys]
    omega
  have hmix : Tryz.prog.follows .mixedOrders = true := by kernel_rfl
  refine wpIn_rangeFunc_ownG (F := Fence.wide) rfl (by decide) (gf := 77) (lb := #[.pointer (some ⟨B, 0, none⟩)]) rfl trivial (enters_of Tryz.func77 (by kernel_rfl) rfl)
    (values_stops Fence.wide 4 trivial rfl (by decide) B v _ hlen w3 (K := fun k => w.heap.size + 3 ≤ k ∧ k < w3.heap.size) (World.block_lt_of_cell? _ _ HB.out) HB.out (HV.out.mono fun k hk h => ⟨by simpa [From] using h, hk⟩)) keepB_t (keepB_b (fun _ h => h.2)) (Below.refl _ _) (fun _ => rfl)
    (fun pre W => CLaw s w f c pre W ∧ w3.heap.size ≤ W.heap.size) (fun _ _ _ => False) (OwnFrom.and (CLaw.own hs3) (fun _ _ _ _ h hg _ => Nat.le_trans h hg.size)) (fun _ _ _ _ _ hs _ _ => hs) ⟨HC3.out, Nat.le_refl _⟩
    (fun x => { tmps := #[fsPtr f, .pointer (some ⟨w.heap.size, 0, none⟩), .pointer none, .pointer (some ⟨w.heap.size + 1, 0, none⟩), .string x, fsPtr f, .bool false, fsPtr f, .pointer (some ⟨f, 0, none⟩),
      .agg #[.map (some m), .int .i64 s.left, .int .i64 s.kind, .int .i64 s.keep, .pointer (some ⟨c, 0, none⟩), .bool s.down], .map (some (w.heap.size + 1 + 1)), .pointer (some ⟨w.heap.size + 1, 0, none⟩), fsPtr f, .func (.func 77) #[] #[.pointer (some ⟨B, 0, none⟩)], .string x,
      undef, undef, undef, undef, undef, undef, undef, undef, undef, undef, undef, undef, undef, undef, undef, undef, undef, undef, undef, undef, undef], defers := [] }) ?assign ?body ?done ?stop
  case assign =>
    intro l x W K hK
    gi_wp2
    simpa using hK
  case body =>
    rintro l pre x W ⟨hL, hsz⟩ _
    have hfs := (HH.out.below hL.bel).below (Below.refl _ _).drew
    have hLd := hL.below (Below.refl _ _).drew
    obtain ⟨d0, -, -, -, -, -, -⟩ := hfs.cells
    have d1 : W.drew.cell? ⟨w.heap.size, 0, none⟩ = some (fsPtr f) := by rw [cell_of_block hLd.box]; rfl
    have d2 : W.drew.cell? ⟨w.heap.size + 1, 0, none⟩ = some (.map (some (w.heap.size + 2))) := by rw [cell_of_block hLd.obj]; rfl
    obtain ⟨u, hu, hub⟩ := look_at hfs x
    have hcl := clone_any hub (by have := hw.getD x; omega)
    have HL := Lib.hid hL
    have HD := Lib.hid hLd
    have HZ := Lib.hid hsz
    have HS3 := Lib.hid hs3
    clear hL hLd hsz hub hfs hs3 hlen
    gi_wp2
    refine wpIn_region_any hmix (wpAnyIn_inRound rfl ?_ _ _ _ _ ?_)
    · intro i o ho cc
      rcases i with _ | _ | _ | _ | _ | _ | _ | _ | _ | _ | _ | i <;> simp at ho <;> subst ho <;> simp
    · change wpAnyIn _ _ _ _ _ _ _ _ _ (World.drew _)
      refine wpAnyIn_take (i := 0) (v := .pointer (some ⟨w.heap.size + 1, 0, none⟩)) rfl rfl (by kernel_rfl) (by kernel_rfl) (by kernel_rfl) (fun _ _ _ h => h) ⟨Or.inl ⟨by rfl, fun w => by go_simp⟩, fun _ => rfl⟩ ?_
      refine wpAnyIn_take (i := 2) (v := .string x) rfl rfl (by kernel_rfl) (by kernel_rfl) (by kernel_rfl) (fun _ _ _ h => h) ⟨Or.inl ⟨by rfl, fun w => by go_simp⟩, fun _ => rfl⟩ ?_
      refine wpAnyIn_take (i := 7) (v := .string x) rfl rfl (by kernel_rfl) (by kernel_rfl) (by kernel_rfl) (fun _ _ _ h => h) ⟨Or.inl ⟨by rfl, fun w => by go_simp⟩, fun _ => rfl⟩ ?_
      refine wpAnyIn_ready (rs := [1, 3]) (by kernel_rfl) (by simp) (AllReadyIn.cons rfl (fun K hK => ?_) (AllReadyIn.cons rfl (fun K hK => ?_) AllReadyIn.nil))
      · go_simp
        refine hK _ _ ?_
        clear hK K
        refine wpAnyIn_ready (rs := [3]) (by kernel_rfl) (by simp) (AllReadyIn.cons rfl (fun K hK => ?_) AllReadyIn.nil)
        go_simp
        refine hK _ _ ?_
        clear hK K
        refine wpAnyIn_ready (rs := [4]) (by kernel_rfl) (by simp) (AllReadyIn.cons rfl (fun K hK => ?_) AllReadyIn.nil)
        go_simp
        refine hK _ _ ?_
        clear hK K
        refine wpAnyIn_ready (rs := [5]) (by kernel_rfl) (by simp) (AllReadyIn.cons rfl (fun K hK => ?_) AllReadyIn.nil)
        go_simp
        refine hK _ _ ?_
        clear hK K
        refine wpAnyIn_ready (rs := [6]) (by kernel_rfl) (by simp) (AllReadyIn.cons rfl (fun K hK => ?_) AllReadyIn.nil)
        go_simp
        refine hK _ _ ?_
        clear hK K
        refine wpAnyIn_ready (rs := [8]) (by kernel_rfl) (by simp) (AllReadyIn.cons rfl (fun K hK => ?_) AllReadyIn.nil)
        go_simp
        refine hK _ _ ?_
        clear hK K
        refine wpAnyIn_ready (rs := [9]) (by kernel_rfl) (by simp) (AllReadyIn.cons rfl (fun K hK => ?_) AllReadyIn.nil)
        go_simp
        refine ⟨trivial, (callsIn_wide.2 hcl).mono ?_⟩
        rintro e w5 ⟨u5, rfl, hb5, t5⟩
        refine hK _ _ ?_
        clear hK K
        have hL5 := HD.out.below t5
        obtain ⟨w6, hup, hL6, hg6⟩ := hL5.put x (hb5.mono fun k _ h => by have := HS3.out; have := HZ.out; unfold From at *; simp only [drew_size] at *; omega)
        refine wpAnyIn_ready (rs := [10]) (by kernel_rfl) (by simp) (AllReadyIn.cons rfl (fun K hK => ?_) AllReadyIn.nil)
        go_simp
        refine hK _ _ ?_
        clear hK K
        refine wpAnyIn_done (by kernel_rfl) ?_ _
        have q1 := HS3.out
        have q2 := HZ.out
        have q3 : W.heap.size ≤ w5.heap.size := t5.size
        have q4 := hg6.size
        have go : ∀ k, k < W.heap.size → k ≠ w.heap.size + 2 → w6.heap[k]? = W.heap[k]? := fun k h1 h2 => (hg6.block k (by omega) (fun e => h2 (Option.some.inj e))).trans (t5.block k h1)
        exact ⟨⟨by omega, fun k o hB hk _ => (go k (lt_of_block hk) (by omega)).trans hk⟩, fun k hk => go k (by omega) (by omega), hL6, by omega⟩
      · go_simp
        refine hK _ _ ?_
        clear hK K
        refine wpAnyIn_take (i := 4) (v := .pointer (some ⟨f, 0, none⟩)) rfl rfl (by kernel_rfl) (by kernel_rfl) (by kernel_rfl) (fun _ _ _ h => h) ⟨Or.inl ⟨by rfl, fun w => by go_simp⟩, fun _ => rfl⟩ ?_
        refine wpAnyIn_take (i := 5) (v := .pointer (some ⟨f, 0, none⟩)) rfl rfl (by kernel_rfl) (by kernel_rfl) (by kernel_rfl) (fun _ _ _ h => h) ⟨Or.inl ⟨by rfl, fun w => by go_simp⟩, fun _ => rfl⟩ ?_
        refine wpAnyIn_ready (rs := [1, 6]) (by kernel_rfl) (by simp) (AllReadyIn.cons rfl (fun K hK => ?_) (AllReadyIn.cons rfl (fun K hK => ?_) AllReadyIn.nil))
        · go_simp
          refine hK _ _ ?_
          clear hK K
          refine wpAnyIn_ready (rs := [6]) (by kernel_rfl) (by simp) (AllReadyIn.cons rfl (fun K hK => ?_) AllReadyIn.nil)
          go_simp
          refine hK _ _ ?_
          clear hK K
          refine wpAnyIn_ready (rs := [8]) (by kernel_rfl) (by simp) (AllReadyIn.cons rfl (fun K hK => ?_) AllReadyIn.nil)
          go_simp
          refine hK _ _ ?_
          clear hK K
          refine wpAnyIn_ready (rs := [9]) (by kernel_rfl) (by simp) (AllReadyIn.cons rfl (fun K hK => ?_) AllReadyIn.nil)
          go_simp
          refine ⟨trivial, (callsIn_wide.2 hcl).mono ?_⟩
          rintro e w5 ⟨u5, rfl, hb5, t5⟩
          refine hK _ _ ?_
          clear hK K
          have hL5 := HD.out.below t5
          obtain ⟨w6, hup, hL6, hg6⟩ := hL5.put x (hb5.mono fun k _ h => by have := HS3.out; have := HZ.out; unfold From at *; simp only [drew_size] at *; omega)
          refine wpAnyIn_ready (rs := [10]) (by kernel_rfl) (by simp) (AllReadyIn.cons rfl (fun K hK => ?_) AllReadyIn.nil)
          go_simp
          refine hK _ _ ?_
          clear hK K
          refine wpAnyIn_done (by kernel_rfl) ?_ _
          have q1 := HS3.out
          have q2 := HZ.out
          have q3 : W.heap.size ≤ w5.heap.size := t5.size
          have q4 := hg6.size
          have go : ∀ k, k < W.heap.size → k ≠ w.heap.size + 2 → w6.heap[k]? = W.heap[k]? := fun k h1 h2 => (hg6.block k (by omega) (fun e => h2 (Option.some.inj e))).trans (t5.block k h1)
          exact ⟨⟨by omega, fun k o hB hk _ => (go k (lt_of_block hk) (by omega)).trans hk⟩, fun k hk => go k (by omega) (by omega), hL6, by omega⟩
        · go_simp
          refine hK _ _ ?_
          clear hK K
          refine wpAnyIn_ready (rs := [1, 8]) (by kernel_rfl) (by simp) (AllReadyIn.cons rfl (fun K hK => ?_) (AllReadyIn.cons rfl (fun K hK => ?_) AllReadyIn.nil))
          · go_simp
            refine hK _ _ ?_
            clear hK K
            refine wpAnyIn_ready (rs := [8]) (by kernel_rfl) (by simp) (AllReadyIn.cons rfl (fun K hK => ?_) AllReadyIn.nil)
            go_simp
            refine hK _ _ ?_
            clear hK K
            refine wpAnyIn_ready (rs := [9]) (by kernel_rfl) (by simp) (AllReadyIn.cons rfl (fun K hK => ?_) AllReadyIn.nil)
            go_simp
            refine ⟨trivial, (callsIn_wide.2 hcl).mono ?_⟩
            rintro e w5 ⟨u5, rfl, hb5, t5⟩
            refine hK _ _ ?_
            clear hK K
            have hL5 := HD.out.below t5
            obtain ⟨w6, hup, hL6, hg6⟩ := hL5.put x (hb5.mono fun k _ h => by have := HS3.out; have := HZ.out; unfold From at *; simp only [drew_size] at *; omega)
            refine wpAnyIn_ready (rs := [10]) (by kernel_rfl) (by simp) (AllReadyIn.cons rfl (fun K hK => ?_) AllReadyIn.nil)
            go_simp
            refine hK _ _ ?_
            clear hK K
            refine wpAnyIn_done (by kernel_rfl) ?_ _
            have q1 := HS3.out
            have q2 := HZ.out
            have q3 : W.heap.size ≤ w5.heap.size := t5.size
            have q4 := hg6.size
            have go : ∀ k, k < W.heap.size → k ≠ w.heap.size + 2 → w6.heap[k]? = W.heap[k]? := fun k h1 h2 => (hg6.block k (by omega) (fun e => h2 (Option.some.inj e))).trans (t5.block k h1)
            exact ⟨⟨by omega, fun k o hB hk _ => (go k (lt_of_block hk) (by omega)).trans hk⟩, fun k hk => go k (by omega) (by omega), hL6, by omega⟩
          · go_simp
            refine hK _ _ ?_
            clear hK K
            refine wpAnyIn_ready (rs := [1, 9]) (by kernel_rfl) (by simp) (AllReadyIn.cons rfl (fun K hK => ?_) (AllReadyIn.cons rfl (fun K hK => ?_) AllReadyIn.nil))
            · go_simp
              refine hK _ _ ?_
              clear hK K
              refine wpAnyIn_ready (rs := [9]) (by kernel_rfl) (by simp) (AllReadyIn.cons rfl (fun K hK => ?_) AllReadyIn.nil)
              go_simp
              refine ⟨trivial, (callsIn_wide.2 hcl).mono ?_⟩
              rintro e w5 ⟨u5, rfl, hb5, t5⟩
              refine hK _ _ ?_
              clear hK K
              have hL5 := HD.out.below t5
              obtain ⟨w6, hup, hL6, hg6⟩ := hL5.put x (hb5.mono fun k _ h => by have := HS3.out; have := HZ.out; unfold From at *; simp only [drew_size] at *; omega)
              refine wpAnyIn_ready (rs := [10]) (by kernel_rfl) (by simp) (AllReadyIn.cons rfl (fun K hK => ?_) AllReadyIn.nil)
              go_simp
              refine hK _ _ ?_
              clear hK K
              refine wpAnyIn_done (by kernel_rfl) ?_ _
              have q1 := HS3.out
              have q2 := HZ.out
              have q3 : W.heap.size ≤ w5.heap.size := t5.size
              have q4 := hg6.size
              have go : ∀ k, k < W.heap.size → k ≠ w.heap.size + 2 → w6.heap[k]? = W.heap[k]? := fun k h1 h2 => (hg6.block k (by omega) (fun e => h2 (Option.some.inj e))).trans (t5.block k h1)
              exact ⟨⟨by omega, fun k o hB hk _ => (go k (lt_of_block hk) (by omega)).trans hk⟩, fun k hk => go k (by omega) (by omega), hL6, by omega⟩
            · go_simp
              refine ⟨trivial, (callsIn_wide.2 hcl).mono ?_⟩
              rintro e w5 ⟨u5, rfl, hb5, t5⟩
              refine hK _ _ ?_
              clear hK K
              have hL5 := HD.out.below t5
              have d5 : w5.cell? ⟨w.heap.size + 1, 0, none⟩ = some (.map (some (w.heap.size + 2))) := by rw [cell_of_block hL5.obj]; rfl
              refine wpAnyIn_ready (rs := [1]) (by kernel_rfl) (by simp) (AllReadyIn.cons rfl (fun K hK => ?_) AllReadyIn.nil)
              go_simp
              refine hK _ _ ?_
              clear hK K
              obtain ⟨w6, hup, hL6, hg6⟩ := hL5.put x (hb5.mono fun k _ h => by have := HS3.out; have := HZ.out; unfold From at *; simp only [drew_size] at *; omega)
              refine wpAnyIn_ready (rs := [10]) (by kernel_rfl) (by simp) (AllReadyIn.cons rfl (fun K hK => ?_) AllReadyIn.nil)
              go_simp
              refine hK _ _ ?_
              clear hK K
              refine wpAnyIn_done (by kernel_rfl) ?_ _
              have q1 := HS3.out
              have q2 := HZ.out
              have q3 : W.heap.size ≤ w5.heap.size := t5.size
              have q4 := hg6.size
              have go : ∀ k, k < W.heap.size → k ≠ w.heap.size + 2 → w6.heap[k]? = W.heap[k]? := fun k h1 h2 => (hg6.block k (by omega) (fun e => h2 (Option.some.inj e))).trans (t5.block k h1)
              exact ⟨⟨by omega, fun k o hB hk _ => (go k (lt_of_block hk) (by omega)).trans hk⟩, fun k hk => go k (by omega) (by omega), hL6, by omega⟩
  case done =>
    rintro D xs W hD rfl ⟨hL, hsz⟩ hK
    have hc0 := HH.out.below hL.bel
    have ho : (W.alloc (.cells #[.int .i64 0] 44)).heap[w.heap.size + 1]? = some (fsObj (w.heap.size + 2) c s.left s.kind s.keep s.down) := (get_alloc W _ (lt_of_block hL.obj)).trans hL.obj
    have e1 : (W.alloc (.cells #[.int .i64 0] 44)).cell? ⟨w.heap.size + 1, 4, none⟩ = some (.pointer (some ⟨c, 0, none⟩)) := by rw [cell_of_block ho]; rfl
    have f1 : (W.alloc (.cells #[.int .i64 0] 44)).frozen? ⟨w.heap.size + 1, 4, none⟩ = false := free_of_block ho 4
    have HL := Lib.hid hL
    have HK := Lib.hid hK
    have HC := Lib.hid hc0
    have HO := Lib.hid ho
    clear hL hK hc0 ho
    dsimp only
    gi_wp2
    have t5 : Below W.heap.size W ((W.alloc (.cells #[.int .i64 0] 44)).setCell ⟨w.heap.size + 1, 4, none⟩ (.pointer (some ⟨W.heap.size, 0, none⟩))) → True := fun _ => trivial
    clear t5
    obtain ⟨W2, hW2⟩ : ∃ W2, W2 = ((W.alloc (.cells #[.int .i64 0] 44)).setCell ⟨w.heap.size + 1, 4, none⟩ (.pointer (some ⟨W.heap.size, 0, none⟩))) := ⟨_, rfl⟩
    rw [← hW2]
    have hlt := lt_of_block HL.out.obj
    have hltm : w.heap.size + 2 < W.heap.size := by obtain ⟨vs, hm, _⟩ := HL.out.map; exact hm.lt
    have hbl : Below w.heap.size w W := HL.out.bel
    have hflt := HH.out.lt
    have g1 : W2.heap.size = W.heap.size + 1 := by rw [hW2, size_set, size_alloc]
    have gk : ∀ k, k < W.heap.size → k ≠ w.heap.size + 1 → W2.heap[k]? = W.heap[k]? := fun k h1 h2 => by rw [hW2, get_other _ _ _ h2, get_alloc _ _ h1]
    have go : W2.heap[w.heap.size + 1]? = some (fsObj (w.heap.size + 2) W.heap.size s.left s.kind s.keep s.down) := by rw [hW2, get_self, HO.out]; rfl
    have gn : W2.heap[W.heap.size]? = some (.cells #[.int .i64 0] 44 (0, 0)) := by rw [hW2, get_other _ _ _ (by omega), get_new]
    have gc : W2.heap[c]? = some (.cells #[.int .i64 s.calls] 44 (0, 0)) := (gk c (by omega) (by omega)).trans HC.out.cnt
    have gf : W2.heap[f]? = some (fsObj m c s.left s.kind s.keep s.down) := (gk f (by omega) (by omega)).trans HC.out.obj
    have gb : W2.heap[w.heap.size]? = some (.cells #[fsPtr f] 23 (0, 0)) := (gk _ (by omega) (by omega)).trans HL.out.box
    have d0 : W2.drew.cell? ⟨w.heap.size, 0, none⟩ = some (fsPtr f) := by rw [cell_of_block (w := W2.drew) gb]; rfl
    have d1 : W2.drew.cell? ⟨w.heap.size + 1, 4, none⟩ = some (.pointer (some ⟨W.heap.size, 0, none⟩)) := by rw [cell_of_block (w := W2.drew) go]; rfl
    have d2 : W2.drew.cell? ⟨f, 4, none⟩ = some (.pointer (some ⟨c, 0, none⟩)) := by rw [cell_of_block (w := W2.drew) gf]; rfl
    have hld := load_at (w := W2.drew) gc
    have hst := store_at (w := W2.drew) s.calls gn
    have HW2 := Lib.hid hW2
    have HM := Lib.hid hmix
    clear gk go gn gc gf gb hbl hflt g1 hW2 e1 f1 hsz
    rename_i K0 hK0
    refine wpIn_only ?_
    gi_region_with_o (first
      | (refine ⟨trivial, ?_⟩; gi_at_call 33; refine (callsIn_wide.2 hld).mono ?_; rintro e w' ⟨rfl, rfl⟩)
      | (refine ⟨trivial, ?_⟩; gi_at_call 60; refine (callsIn_wide.2 hst).mono ?_; rintro e w' ⟨rfl, rfl⟩))
    all_goals
      change K0 _ _
      refine hK0 _ _ ?_
      gi_wp2
      rw [HW2.out]
      exact leave_marks [D] _ (clone_marks HK.out (by omega)) fun W' h1 h2 => ⟨fsPtr (w.heap.size + 1), by simp [results, Tryz.f31, go_sem], clone_end HH.out HL.out HK.out (by omega) h1 h2⟩
  case stop =>
    rintro D c pre W _ _ h _
    exact h.elim
end Go.Proofs.YthchfkjdbfhnhaaGreatDoor
