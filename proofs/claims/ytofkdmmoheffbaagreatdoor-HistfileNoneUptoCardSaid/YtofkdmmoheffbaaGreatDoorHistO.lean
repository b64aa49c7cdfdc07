/- The lines of any bytes: Parse. -/
import Derived.Test.YtofkdmmoheffbaaGreatDoorHistN
namespace Go.Proofs.YtofkdmmoheffbaaGreatDoor
open Go Go.RowKit Go.Shelf Go.Lany
attribute [local go_sem] Oper.semAt_some
set_option maxRecDepth 100000
def hls (l : List HL) : List Value := l.flatMap fun x => [.string x.1, .int .i64 x.2]
theorem hls_append (a b : List HL) : hls (a ++ b) = hls a ++ hls b := by simp [hls]
theorem hls_length (l : List HL) : (hls l).length = l.length * 2 := by
  induction l with
  | nil => rfl
  | cons x l ih => rw [show hls (x :: l) = [Value.string x.1, .int .i64 x.2] ++ hls l from rfl, List.length_append, ih, List.length_cons]; simp; omega
theorem hls_get {l : List HL} {k : Nat} {x : HL} (h : l[k]? = some x) : (hls l)[k * 2]? = some (.string x.1) ∧ (hls l)[k * 2 + 1]? = some (.int .i64 x.2) := by
  induction l generalizing k with
  | nil => simp at h
  | cons y l ih =>
    rcases k with _ | k
    · simp at h; subst h; exact ⟨rfl, rfl⟩
    · have := ih (k := k) (by simpa using h)
      rw [show (k + 1) * 2 = k * 2 + 2 by omega]
      exact this
def LnRow (base : Nat) (w : World) (v : Value) (l : List HL) : Prop := w.ownsRow base 29 2 v l.length (hls l)
theorem LnRow.form {base : Nat} {w : World} {v : Value} {l : List HL} (h : LnRow base w v l) : ∃ a c, v = .slice a l.length c := by
  rcases h.2 with ⟨rfl, h0⟩ | ⟨g, cap, cur, rfl, hg, hh, r⟩
  · rw [h0]; exact ⟨_, _, rfl⟩
  · exact ⟨_, _, rfl⟩
theorem LnRow.lines {base : Nat} {w : World} {v : Value} {l : List HL} (h : LnRow base w v l) : Lines (fun k => base ≤ k) w v l := by
  rcases h.2 with ⟨rfl, h0⟩ | ⟨g, cap, cur, rfl, hg, hh, h3, h4, h5, h6⟩
  · exact .inl ⟨rfl, List.eq_nil_of_length_eq_zero h0⟩
  · refine .inr ⟨g, 0, none, cap, h3, rfl, .inr ⟨rfl, hg, cur, _, (0, 0), hh, fun i x hx => ?_⟩⟩
    obtain ⟨h1, h2⟩ := hls_get hx
    have hi := (List.getElem?_eq_some_iff.1 hx).1
    rw [← h6, List.getElem?_take, if_pos (by omega)] at h1 h2
    simpa using And.intro h1 h2
theorem LnRow.step {base : Nat} {w w' : World} {v : Value} {l : List HL} (h : LnRow base w v l) (t : ∀ k o, v.ownBlock = some k → w.heap[k]? = some o → w'.heap[k]? = some o) : LnRow base w' v l := by
  refine ⟨h.1, h.2.imp id ?_⟩
  rintro ⟨g, cap, cur, rfl, hg, hh, r⟩
  exact ⟨g, cap, cur, rfl, hg, t g _ rfl hh, r⟩
theorem LnRow.own {base : Nat} {w : World} {v : Value} {l : List HL} (h : LnRow base w v l) : ∀ k, v.ownBlock = some k → base ≤ k ∧ k < w.heap.size ∧ ∃ o, w.heap[k]? = some o ∧ o.isCells = true := by
  intro k hk
  rcases h.2 with ⟨rfl, -⟩ | ⟨g, cap, cur, rfl, hg, hh, r⟩
  · cases hk
  · cases hk
    exact ⟨hg, lt_of_block hh, _, hh, rfl⟩
theorem LnRow.below {base : Nat} {w w' : World} {v : Value} {l : List HL} (h : LnRow base w v l) (t : Below w.heap.size w w') : LnRow base w' v l := h.step fun k o _ hk => (t.block k (lt_of_block hk)).trans hk
/-- What one round may have turned: two boxes, and rows of cells from B on. -/
structure Step (B A T : Nat) (W W' : World) : Prop where
  os : W'.os = W.os
  tape : W'.tape = W.tape
  output : W'.output = W.output
  size : W.heap.size ≤ W'.heap.size
  same : ∀ k, k < W.heap.size → k ≠ A → k ≠ T → W'.heap[k]? = W.heap[k]? ∨ (B ≤ k ∧ ∃ o, W.heap[k]? = some o ∧ o.isCells = true)
theorem Step.of_below {B A T : Nat} {W W' : World} (h : Below W.heap.size W W') : Step B A T W W' := ⟨h.os, h.tape, h.output, h.size, fun k hk _ _ => .inl (h.block k hk)⟩
theorem Step.trans {B A T : Nat} {X Y Z : World} (h : Step B A T X Y) (g : Step B A T Y Z) : Step B A T X Z := by
  refine ⟨g.os.trans h.os, g.tape.trans h.tape, g.output.trans h.output, Nat.le_trans h.size g.size, fun k hk ha ht => ?_⟩
  rcases h.same k hk ha ht with e | e
  · rcases g.same k (Nat.lt_of_lt_of_le hk h.size) ha ht with e' | ⟨e1, o, e2, e3⟩
    · exact .inl (e'.trans e)
    · exact .inr ⟨e1, o, e ▸ e2, e3⟩
  · exact .inr e
theorem Step.set {B A T : Nat} {X Y : World} (h : Step B A T X Y) {k : Nat} (hk : k = A ∨ k = T) (v : Value) : Step B A T X (Y.setCell ⟨k, 0, none⟩ v) := by
  refine ⟨h.os, h.tape, h.output, by rw [size_set]; exact h.size, fun j hj ha ht => ?_⟩
  rw [get_other _ _ _ (by omega)]
  exact h.same j hj ha ht
theorem Step.grown {B A T : Nat} {X Y Z : World} (h : Step B A T X Y) {row : Option Nat} (hg : Y.grownBy Z row) (hr : ∀ k, row = some k → k < X.heap.size → B ≤ k ∧ ∃ o, X.heap[k]? = some o ∧ o.isCells = true) : Step B A T X Z := by
  refine ⟨hg.os.trans h.os, hg.tape.trans h.tape, hg.output.trans h.output, Nat.le_trans h.size hg.size, fun j hj ha ht => ?_⟩
  by_cases e : some j = row
  · exact .inr (hr j e.symm hj)
  · rw [hg.block j (Nat.lt_of_lt_of_le hj h.size) e]
    exact h.same j hj ha ht
theorem Step.keeps {B A T : Nat} {W W' : World} (h : Step B A T W W') (hA : A < B) (hT : T < B) : KeepsFrom B W W' := by
  refine ⟨h.size, fun k o hk ho hc => ?_⟩
  rcases h.same k (lt_of_block ho) (by omega) (by omega) with e | ⟨-, o', e, hc'⟩
  · exact e.trans ho
  · rw [ho] at e
    cases e
    rw [hc] at hc'
    cases hc'
theorem Step.keepB {B A T : Nat} {W W' : World} (h : Step B A T W W') {K : Nat → Prop} (hK : ∀ k, K k → k < B ∧ k ≠ A ∧ k ≠ T) (hB : B ≤ W.heap.size) : KeepB K W W' := fun k hk => by
  obtain ⟨h1, h2, h3⟩ := hK k hk
  rcases h.same k (by omega) h2 h3 with e | ⟨e, -⟩
  · exact e
  · omega
theorem cell0 {w : World} {b : Nat} {v : Value} {e : TypeId} (h : w.heap[b]? = some (.cells #[v] e (0, 0))) : w.cell? ⟨b, 0, none⟩ = some v := by rw [cell_of_block h]; rfl
theorem LnRow.alloc {base : Nat} {w : World} {v : Value} {l : List HL} (h : LnRow base w v l) (o : Obj) : LnRow base (w.alloc o) v l := World.ownsRow.alloc h o
theorem LnRow.lower {base base' : Nat} {w : World} {v : Value} {l : List HL} (h : LnRow base w v l) (hb : base' ≤ base) : LnRow base' w v l :=
  ⟨h.1, h.2.imp id fun ⟨g, cap, cur, e, hg, r⟩ => ⟨g, cap, cur, e, Nat.le_trans hb hg, r⟩⟩
structure PRel (w0 : World) (A T : Nat) (s : List HL × Int) (W : World) : Prop where
  row : ∃ v, W.heap[A]? = some (.cells #[v] 26 (0, 0)) ∧ LnRow w0.heap.size W v s.1
  time : W.heap[T]? = some (.cells #[.int .i64 s.2] 2 (0, 0))
  t : Turns (fun k => k = A ∨ k = T) w0 W
theorem Turns.step {w0 W W' : World} {A T : Nat} (t : Turns (fun k => k = A ∨ k = T) w0 W) (h : Step w0.heap.size A T W W') : Turns (fun k => k = A ∨ k = T) w0 W' := by
  refine ⟨h.os.trans t.os, h.tape.trans t.tape, h.output.trans t.output, Nat.le_trans t.size h.size, fun k hk hs => ?_⟩
  rcases h.same k (Nat.lt_of_lt_of_le hk t.size) (fun e => hs (.inl e)) (fun e => hs (.inr e)) with e | ⟨e, -⟩
  · exact e.trans (t.block k hk hs)
  · omega
theorem PRel.own {w0 : World} {A T : Nat} (hA : A < w0.heap.size) (hT : T < w0.heap.size) {α : Type} (f : List α → List HL × Int) : OwnFrom w0.heap.size (fun pre => PRel w0 A T (f pre)) := fun pre W W' row h hg hr => by
  obtain ⟨v, h1, h2⟩ := h.row
  have hne : ∀ k, k < w0.heap.size → some k ≠ row := fun k hk e => by have := (hr k e.symm).1; omega
  refine ⟨⟨v, (hg.block A (lt_of_block h1) (hne A hA)).trans h1, h2.step fun k o hk ho => ?_⟩, (hg.block T (lt_of_block h.time) (hne T hT)).trans h.time, ⟨hg.os.trans h.t.os, hg.tape.trans h.t.tape, hg.output.trans h.t.output, Nat.le_trans h.t.size hg.size, fun k hk hs => (hg.block k (Nat.lt_of_lt_of_le hk h.t.size) (hne k hk)).trans (h.t.block k hk hs)⟩⟩
  refine (hg.block k (lt_of_block ho) fun e => ?_).trans ho
  obtain ⟨-, -, o', h1', h2'⟩ := h2.own k hk
  obtain ⟨-, o'', h3', h4'⟩ := hr k e.symm
  rw [h1'] at h3'
  cases h3'
  rw [h2'] at h4'
  cases h4'
def stepP (s : List HL × Int) (x : Ln) : List HL × Int :=
  match stampL x.2 with
  | some n => (s.1, n)
  | none => if x.2 = [] then (s.1, 0) else (s.1 ++ [(bs x.2, s.2)], 0)
theorem foldl_lines (L : List UInt8) (p : Nat) (s : List HL × Int) : ((linesAt L p).foldl stepP s).1 = s.1 ++ parseT L s.2 := by
  induction hn : L.length using Nat.strongRecOn generalizing L p s with
  | _ n ih =>
    subst hn
    by_cases h : L = []
    · rw [h, linesAt_nil, parseT_nil]; simp
    · have hr := rest_length h
      rw [linesAt_cons p h, List.foldl_cons, ih _ hr _ _ _ rfl]
      unfold stepP
      cases hs : stampL (first L) with
      | some n => rw [parseT_stamp s.2 h hs]
      | none =>
        by_cases he : first L = []
        · rw [if_pos he, parseT_empty s.2 h he]
        · rw [if_neg he, parseT_line s.2 h hs he, List.append_assoc]; rfl
theorem stepP_len (s : List HL × Int) (x : Ln) : (stepP s x).1.length ≤ s.1.length + 1 := by
  unfold stepP
  split
  · exact Nat.le_succ _
  · split
    · exact Nat.le_succ _
    · simp
theorem foldl_len (l : List Ln) (s : List HL × Int) : (l.foldl stepP s).1.length ≤ s.1.length + l.length := by
  induction l generalizing s with
  | nil => simp
  | cons x l ih =>
    rw [List.foldl_cons, List.length_cons]
    have := ih (stepP s x)
    have := stepP_len s x
    omega
theorem PRel.done {w0 W W' : World} {A T : Nat} {s s' : List HL × Int} (h : PRel w0 A T s W) {K : Nat → Prop} (hA : A < w0.heap.size) (hT : T < w0.heap.size) (hK : ∀ k, K k → k < w0.heap.size ∧ k ≠ A ∧ k ≠ T) (hS : Step w0.heap.size A T W W')
    (hrow : ∃ v, W'.heap[A]? = some (.cells #[v] 26 (0, 0)) ∧ LnRow w0.heap.size W' v s'.1) (htime : W'.heap[T]? = some (.cells #[.int .i64 s'.2] 2 (0, 0))) : KeepsFrom w0.heap.size W W' ∧ KeepB K W W' ∧ PRel w0 A T s' W' :=
  ⟨hS.keeps hA hT, hS.keepB hK h.t.size, hrow, htime, Turns.step h.t hS⟩
def ParsePost (l : List HL) (w : World) (e : Ending) (w' : World) : Prop := ∃ v, e = .returned v ∧ LnRow w.heap.size w' v l ∧ Below w.heap.size w w'
theorem infoHL : (Tryz.prog.info? 29).map (fun i => (i.zero, i.size, i.bytes)) = some (some (.agg #[.string ⟨#[]⟩, .int .i64 0]), 2, 24) := by kernel_rfl
set_option maxHeartbeats 4000000 in
theorem parse_at {w : World} {v : Value} {s : ByteArray} (h : Bytes (fun k => k < w.heap.size) w v s) (hs : s.size ≤ 1099511627776) (hev : EvS w) :
    Calls Tryz.prog 25 #[v] w (ParsePost (parseL s.data.toList) w) := by
  obtain ⟨a, cap, rfl⟩ := h.len
  have HBY := Lib.hid h
  have HEV := Lib.hid hev
  clear h hev
  refine (callsIn_wide (n := 6)).1 ?_
  refine callsIn_of_wp_marks Tryz.func25 rfl trivial ?_ rfl
  simp only [Tryz.ntmps25, List.size_toArray, List.length_cons, List.length_nil, Nat.reduceAdd, Nat.reduceSub, Array.replicate_succ, Array.replicate_zero, List.push_toArray, List.append_toArray, List.nil_append, List.cons_append]
  gi_wp2_with (refine ⟨trivial, ?_⟩; gi_at_call 51; refine (callsIn_wide.2 (lines_at a s.size cap _)).mono ?_; rintro e w1 ⟨rfl, rfl⟩)
  obtain ⟨W0, hW⟩ : ∃ W0, W0 = ((w.alloc (.cells #[.slice none 0 0] 26)).alloc (.cells #[.int .i64 0] 2)).alloc (.cells #[.slice a s.size cap] 37) := ⟨_, rfl⟩
  rw [← hW]
  have hsz : W0.heap.size = w.heap.size + 3 := by rw [hW]; simp
  have hbw : Below w.heap.size w W0 := by rw [hW]; exact (((Below.refl _ _).alloc (Nat.le_refl _) _).alloc (by simp) _).alloc (by simp; omega) _
  have hA : W0.heap[w.heap.size]? = some (.cells #[.slice none 0 0] 26 (0, 0)) := by rw [hW, get_alloc _ _ (by simp; omega), get_alloc _ _ (by simp)]; exact get_new _ _
  have hT : W0.heap[w.heap.size + 1]? = some (.cells #[.int .i64 0] 2 (0, 0)) := by
    have := get_new (w.alloc (.cells #[.slice none 0 0] 26)) (.cells #[.int .i64 0] 2)
    rw [size_alloc] at this
    rw [hW, get_alloc _ _ (by simp), this]
  have hX : W0.cell? ⟨w.heap.size + 2, 0, none⟩ = some (.slice a s.size cap) := by rw [hW]; go_simp
  have hBY : Bytes (fun k => k < w.heap.size ∨ k = w.heap.size + 2) W0 (.slice a s.size cap) s := (HBY.out.below hbw).mono fun k _ h => .inl h
  have hev0 := HEV.out.below hbw
  have HEV0 := Lib.hid hev0
  have HSZ := Lib.hid hsz
  have HBW := Lib.hid hbw
  clear hW hev0 HBY
  have h0 : PRel W0 w.heap.size (w.heap.size + 1) ((vals ([] : List (LnM s.data.toList))).foldl stepP ([], 0)) W0 := ⟨⟨_, hA, World.ownsRow_nil _ _ _ _⟩, hT, Turns.refl _ _⟩
  refine range_lines (by decide) rfl hX hBY (.inr rfl) (fun k hk => by rw [HSZ.out]; omega) (by omega) (fun pre => PRel W0 w.heap.size (w.heap.size + 1) ((vals pre).foldl stepP ([], 0))) (fun _ _ _ => False) (PRel.own (by rw [HSZ.out]; omega) (by rw [HSZ.out]; omega) _) (fun _ _ _ _ _ hs _ _ => hs) h0 (fun x t => t.setIfInBounds 6 (.string (bs x.2))) ?assign ?body ?done ?stop
  case assign =>
    intro l x W K hK
    gi_wp2
    simpa using hK
  case body =>
    intro l pre x W hG hpl
    obtain ⟨x, hxm⟩ := x
    have hmem := linesAt_mem hxm
    have hsl : s.data.toList.length = s.size := by simp
    have hcount := linesAt_length_le s.data.toList 0
    have hacc := foldl_len (vals pre) ([], 0)
    rw [show (vals pre).length = pre.length by simp [vals]] at hacc
    have hfold : (vals (pre ++ [⟨x, hxm⟩])).foldl stepP ([], 0) = stepP ((vals pre).foldl stepP ([], 0)) x := by rw [vals_snoc, List.foldl_append]; rfl
    obtain ⟨st, hst⟩ : ∃ st, st = (vals pre).foldl stepP ([], 0) := ⟨_, rfl⟩
    rw [← hst] at hfold hacc hG
    have hfin : ∀ W', Step W0.heap.size w.heap.size (w.heap.size + 1) W W' → (∃ v, W'.heap[w.heap.size]? = some (.cells #[v] 26 (0, 0)) ∧ LnRow W0.heap.size W' v (stepP st x).1) → W'.heap[w.heap.size + 1]? = some (.cells #[.int .i64 (stepP st x).2] 2 (0, 0)) →
        KeepsFrom W0.heap.size W W' ∧ KeepB (fun k => k < w.heap.size ∨ k = w.heap.size + 2) W W' ∧ PRel W0 w.heap.size (w.heap.size + 1) ((vals (pre ++ [⟨x, hxm⟩])).foldl stepP ([], 0)) W' := by
      intro W' h1 h2 h3
      rw [hfold]
      exact hG.done (by rw [HSZ.out]; omega) (by rw [HSZ.out]; omega) (fun k hk => by rw [HSZ.out]; omega) h1 h2 h3
    have HFIN := Lib.hid hfin
    have hevW : EvS W := by
      obtain ⟨ev, h1, h2⟩ := HEV.out
      have hlt := World.block_lt_of_cell? _ _ h1
      have hb := (HBW.out.trans (hG.t.below HBW.out.size fun k hk e => by omega))
      exact ⟨ev, (hb.cell hlt).trans h1, h2⟩
    obtain ⟨v0, hrA, hrow⟩ := hG.row
    obtain ⟨av, cv, rfl⟩ := hrow.form
    have hts := hG.time
    have hWs := hG.t.size
    have eA : W.cell? ⟨w.heap.size, 0, none⟩ = some (.slice av st.1.length cv) := by rw [cell_of_block hrA]; rfl
    have eT : W.cell? ⟨w.heap.size + 1, 0, none⟩ = some (.int .i64 st.2) := by rw [cell_of_block hts]; rfl
    have hstamp := stamp_at (bs x.2) (by rw [bs_size]; omega) W hevW
    rw [stampB_bs] at hstamp
    have HRA := Lib.hid hrA
    have HROW := Lib.hid hrow
    have HTS := Lib.hid hts
    have hpn : st.1.length ≤ pre.length := by simpa using hacc
    clear hfin hfold hst hG hrA hrow hts hevW hacc hA hT hX hBY h0 hsz hbw
    cases hs : stampL x.2 with
    | some n =>
      rw [hs] at hstamp
      have HSP : Hid (stepP st x = (st.1, (n : Int))) := Lib.hid (by unfold stepP; rw [hs])
      clear hs
      gi_wp2_with (refine ⟨trivial, ?_⟩; gi_at_call 52; refine (CallsIn.inRound l (callsIn_wide.2 hstamp)).mono ?_; rintro e w1 ⟨rfl, hb1⟩; have r1 := (hb1.block _ (lt_of_block HRA.out)).trans HRA.out; have q1 := (hb1.block _ (lt_of_block HTS.out)).trans HTS.out; have a1 := cell0 r1; have t1 := cell0 q1; have fa1 := free_of_block r1 0; have ft1 := free_of_block q1 0; have R1 := Lib.hid r1; have Q1 := Lib.hid q1; have HB1 := Lib.hid hb1; have hz1 := hb1.size; clear hb1 r1 q1)
      refine HFIN.out _ ((Step.of_below HB1.out).set (.inr rfl) _) ?_ ?_
      · rw [HSP.out]
        exact ⟨_, (get_other _ _ _ (by omega)).trans R1.out, (HROW.out.below HB1.out).step fun k o hk ho => (get_other _ _ _ (by have := (HROW.out.own k hk).1; rw [HSZ.out] at this; omega)).trans ho⟩
      · rw [HSP.out, set_block Q1.out]; rfl
    | none =>
      rw [hs] at hstamp
      by_cases he : x.2 = []
      · have HSP : Hid (stepP st x = (st.1, 0)) := Lib.hid (by unfold stepP; rw [hs]; simp only [he, if_true])
        have he' : (bs x.2).toList.isEmpty = true := by rw [ByteArray.toList_eq, bs_list, he]; rfl
        clear hs he
        gi_wp2_with (refine ⟨trivial, ?_⟩; gi_at_call 52; refine (CallsIn.inRound l (callsIn_wide.2 hstamp)).mono ?_; rintro e w1 ⟨rfl, hb1⟩; have r1 := (hb1.block _ (lt_of_block HRA.out)).trans HRA.out; have q1 := (hb1.block _ (lt_of_block HTS.out)).trans HTS.out; have a1 := cell0 r1; have t1 := cell0 q1; have fa1 := free_of_block r1 0; have ft1 := free_of_block q1 0; have R1 := Lib.hid r1; have Q1 := Lib.hid q1; have HB1 := Lib.hid hb1; have hz1 := hb1.size; clear hb1 r1 q1)
        refine HFIN.out _ ((Step.of_below HB1.out).set (.inr rfl) _) ?_ ?_
        · rw [HSP.out]
          exact ⟨_, (get_other _ _ _ (by omega)).trans R1.out, (HROW.out.below HB1.out).step fun k o hk ho => (get_other _ _ _ (by have := (HROW.out.own k hk).1; rw [HSZ.out] at this; omega)).trans ho⟩
        · rw [HSP.out, set_block Q1.out]; rfl
      · have HSP : Hid (stepP st x = (st.1 ++ [(bs x.2, st.2)], 0)) := Lib.hid (by unfold stepP; rw [hs]; simp only [he, if_false])
        have he' : (bs x.2).toList.isEmpty = false := by
          rw [ByteArray.toList_eq, bs_list]
          cases h : x.2 with
          | nil => exact absurd h he
          | cons _ _ => rfl
        clear hs he
        obtain ⟨i0, hi, hz0, hz2, hz3⟩ := info_parts infoHL
        have HI := Lib.hid hi
        have HZ0 := Lib.hid hz0
        have HZ2 := Lib.hid hz2
        have HZ3 := Lib.hid hz3
        clear hi hz0 hz2 hz3
        gi_wp2_with (first
          | (gi_at_builtin; go_must (refine wpListIn_append_own _ rfl _ _ _ rfl W0.heap.size 29 i0 _ 2 24 (by kernel_rfl) HI.out HZ0.out HZ2.out HZ3.out rfl (by decide) (.slice av st.1.length cv) st.1.length (hls st.1) rfl ((HROW.out.below HB1.out).alloc (.cells #[.string (bs x.2), .int .i64 st.2] 29)) ⟨w1.heap.size, 0, none⟩ 1 1 [.string (bs x.2), .int .i64 st.2] rfl rfl ?_ ?_ ?_ ?_ ?_ ?_))
          | (refine ⟨trivial, ?_⟩; gi_at_call 52; refine (CallsIn.inRound l (callsIn_wide.2 hstamp)).mono ?_; rintro e w1 ⟨rfl, hb1⟩; have r1 := (hb1.block _ (lt_of_block HRA.out)).trans HRA.out; have q1 := (hb1.block _ (lt_of_block HTS.out)).trans HTS.out; have a1 := cell0 r1; have t1 := cell0 q1; have fa1 := free_of_block r1 0; have ft1 := free_of_block q1 0; have R1 := Lib.hid r1; have Q1 := Lib.hid q1; have HB1 := Lib.hid hb1; have hz1 := hb1.size; clear hb1 r1 q1))
        · intro j u hu
          have hnew := get_new w1 (.cells #[.string (bs x.2), .int .i64 st.2] 29)
          rw [Addr.add_lit, cell_of_block hnew]
          rcases j with _ | _ | j
          · simpa using hu
          · simpa using hu
          · simp at hu
        · intro u hu
          simp at hu
          rcases hu with rfl | rfl <;> rfl
        · unfold maxLen; omega
        · omega
        · rw [size_alloc]; omega
        · intro v2 w2 hown hg2 _
          have hrow2 : LnRow W0.heap.size w2 v2 (st.1 ++ [(bs x.2, st.2)]) := by
            unfold LnRow
            rw [hls_append, List.length_append]
            exact hown
          obtain ⟨a2, c2, rfl⟩ := hrow2.form
          have hrn : ∀ k, (Value.slice av st.1.length cv).ownBlock = some k → W0.heap.size ≤ k ∧ k < W.heap.size ∧ ∃ o, W.heap[k]? = some o ∧ o.isCells = true := fun k hk => HROW.out.own k hk
          have r2 : w2.heap[w.heap.size]? = some (.cells #[.slice av st.1.length cv] 26 (0, 0)) := by
            rw [hg2.block _ (by have := lt_of_block R1.out; rw [size_alloc]; omega) (fun e => by have := (hrn _ e.symm).1; rw [HSZ.out] at this; omega), get_alloc _ _ (lt_of_block R1.out)]
            exact R1.out
          have q2 : w2.heap[w.heap.size + 1]? = some (.cells #[.int .i64 st.2] 2 (0, 0)) := by
            rw [hg2.block _ (by have := lt_of_block Q1.out; rw [size_alloc]; omega) (fun e => by have := (hrn _ e.symm).1; rw [HSZ.out] at this; omega), get_alloc _ _ (lt_of_block Q1.out)]
            exact Q1.out
          have a2' := cell0 r2
          have t2 := cell0 q2
          have fa2 := free_of_block r2 0
          have ft2 := free_of_block q2 0
          have hs2 : w1.heap.size + 1 ≤ w2.heap.size := by have := hg2.size; rwa [size_alloc] at this
          have hS2 : Step W0.heap.size w.heap.size (w.heap.size + 1) W w2 := by
            have hb : Below W.heap.size W (w1.alloc (.cells #[.string (bs x.2), .int .i64 st.2] 29)) := HB1.out.alloc hz1 _
            exact (Step.of_below hb).grown hg2 fun k hk _ => ⟨(hrn k hk).1, (hrn k hk).2.2⟩
          have HR2 := Lib.hid r2
          have HQ2 := Lib.hid q2
          have HROW2 := Lib.hid hrow2
          have HS2 := Lib.hid hS2
          have HLEN := Lib.hid (show (st.1 ++ [(bs x.2, st.2)]).length = st.1.length + 1 by simp)
          clear hown hg2 r2 q2 hrow2 hS2 hrn a1 t1 fa1 ft1 eA eT
          gi_wp2
          have hne : w.heap.size + 1 ≠ w.heap.size := by omega
          refine HFIN.out _ ((HS2.out.set (.inl rfl) _).set (.inr rfl) _) ?_ ?_
          · rw [HSP.out]
            refine ⟨.slice a2 (st.1.length + 1) c2, ?_, ?_⟩
            · rw [get_other _ _ _ hne.symm, set_block HR2.out]; rfl
            · rw [← HLEN.out]
              refine HROW2.out.step fun k o hk ho => ?_
              have := (HROW2.out.own k hk).1
              rw [HSZ.out] at this
              rw [get_other _ _ _ (by omega), get_other _ _ _ (by omega)]
              exact ho
          · rw [HSP.out, set_block (c := #[.int .i64 st.2]) (e := 2) (fr := (0, 0)) (by rw [get_other _ _ _ hne]; exact HQ2.out)]; rfl
  case done =>
    intro D ys W hD hys hG hK
    rw [hys] at hG
    have hlt := HSZ.out
    have hfl := foldl_lines s.data.toList 0 ([], 0)
    rw [List.nil_append] at hfl
    obtain ⟨v, hrA, hrow⟩ := hG.row
    rw [hfl] at hrow
    obtain ⟨av, cv, rfl⟩ := hrow.form
    have eA := cell0 hrA
    have HG := Lib.hid hG.t
    have HROW := Lib.hid hrow
    have HK := Lib.hid hK
    clear hG hrA hrow hK hA hT hX hBY h0 hsz hlt hfl
    dsimp only [Exit.inBlock, Exit.then]
    gi_wp2
    exact leave_marks (base := W0.heap.size) [D] _ ⟨by simp, fun D' h => by
      rw [List.mem_singleton] at h
      subst h
      exact ⟨hD, HK.out⟩⟩ fun W' h1 h2 => ⟨.slice av (parseT s.data.toList 0).length cv, by simp [results, Tryz.f25, go_sem], _, rfl, (HROW.out.lower (by rw [HSZ.out]; omega)).step fun k o hk ho => (h1 k fun hm => by
        rw [List.mem_singleton] at hm
        subst hm
        obtain ⟨-, -, o', h3, h4⟩ := HROW.out.own _ hk
        rw [HK.out] at h3
        cases h3
        cases h4).trans ho, (HBW.out.trans (HG.out.below HBW.out.size fun k hk e => by omega)).trans (h2.mono (by rw [HSZ.out]; omega))⟩
  case stop => exact fun _ _ _ _ _ _ h _ => h.elim
end Go.Proofs.YtofkdmmoheffbaaGreatDoor
