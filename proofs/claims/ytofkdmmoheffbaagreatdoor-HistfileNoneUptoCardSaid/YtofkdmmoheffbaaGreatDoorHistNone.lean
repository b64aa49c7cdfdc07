/- A history's file in a file system that no call made. -/
import Derived.Test.YtofkdmmoheffbaaGreatDoorHistI
import Derived.Test.YtofkdmmoheffbaaGreatDoorNoneA
import Derived.LoopN
namespace Go.Proofs.YtofkdmmoheffbaaGreatDoor
open Go Go.RowKit Go.Shelf Go.Lany
set_option maxRecDepth 100000
theorem NoneAt.below {w w' : World} {v : Value} (h : NoneAt w v) (t : Below w.heap.size w w') : NoneAt w' v := by
  rcases h with rfl | ⟨f, rfl, h⟩
  · exact .inl rfl
  · exact .inr ⟨f, rfl, (t.cell (p := ⟨f, 0, none⟩) (World.block_lt_of_cell? _ _ h)).trans h⟩
theorem hread_not {w : World} {v : Value} (h : NoneAt w v) (p : ByteArray) : Calls Tryz.prog 12 #[v, .string p] w (RetB (.tuple #[.slice none 0 0, .int .i64 2]) w) := by
  have hr := read_not h p
  clear h
  go_enter Tryz.func12, Tryz.ntmps12
  go_wp2_with (go_at_call 26; go_must (refine hr.mono ?_); rintro e w1 ⟨rfl, hb⟩)
  go_ret2
  exact ⟨rfl, hb⟩
theorem hput_not {w : World} {v : Value} (h : NoneAt w v) (p : ByteArray) (hp : p.size ≤ 1099511627776) (vb : Value) : Calls Tryz.prog 29 #[v, .string p, vb] w (RetB (.int .i64 2) w) := by
  have hw := write_not h (tmpOf p) vb
  have hr := fun (w1 : World) (hb : Below w.heap.size w w1) => remove_not (h.below hb) (tmpOf p)
  clear h
  go_enter Tryz.func29, Tryz.ntmps29
  go_wp2_with (first
    | (go_at_call 38; go_must (refine hw.mono ?_); rintro e w1 ⟨rfl, hb⟩; have hr1 := hr _ hb)
    | (go_at_call 61; go_must (refine hr1.mono ?_); rintro e w2 ⟨rfl, hb2⟩))
  go_ret
  exact ⟨rfl, hb.trans (hb2.mono hb.size)⟩
def badOr (l : List HL) : Int := if checkE l = 0 then 2 else checkE l
theorem hwrite_not {w : World} {v : Value} {F : Nat → Prop} (h : NoneAt w v) (hv : Vars w) (p : ByteArray) (hp : p.size ≤ 1099511627776) (t : Bool) {u : Value} {l : List HL} (hl : Lines F w u l) (hf : Fit l) :
    Calls Tryz.prog 20 #[v, .string p, .bool t, u] w (RetB (.int .i64 (badOr l)) w) := by
  have hfm := format_at t hl hf.len hf.txt hf.wt_ hv.ev hv.pow
  have hpu := fun (w1 : World) (hb : Below w.heap.size w w1) vb => hput_not (h.below hb) p hp vb
  clear h hl hf
  by_cases hc : checkE l = 0
  · rw [show badOr l = 2 by unfold badOr; rw [if_pos hc]]
    have HC := Lib.hid hc
    clear hc
    go_enter Tryz.func20, Tryz.ntmps20
    go_wp2_with (first
      | (go_at_call 24; go_must (refine hfm.mono ?_); rintro e w1 ⟨v1, rfl, hb1, -, -⟩; have hpu1 := hpu _ hb1 v1; rw [HC.out])
      | (go_at_call 29; go_must (refine hpu1.mono ?_); rintro e w2 ⟨rfl, hb2⟩))
    go_ret
    exact ⟨rfl, hb1.trans (hb2.mono hb1.size)⟩
  · rw [show badOr l = checkE l by unfold badOr; rw [if_neg hc]]
    have HC := Lib.hid hc
    have hc' : (checkE l != 0) = true := by simpa using hc
    clear hc
    go_enter Tryz.func20, Tryz.ntmps20
    go_wp2_with (go_at_call 24; go_must (refine hfm.mono ?_); rintro e w1 ⟨v1, rfl, hb1, -, hv1⟩; have HB1 := Lib.hid hb1; clear hb1; have hv := hv1 HC.out; clear hv1; subst hv)
    go_ret
    exact ⟨rfl, HB1.out⟩
theorem happend_not {w : World} {v : Value} {F : Nat → Prop} (h : NoneAt w v) (hv : Vars w) (p : ByteArray) (t : Bool) {u : Value} {l : List HL} (hl : Lines F w u l) (hf : Fit l) :
    Calls Tryz.prog 11 #[v, .string p, .bool t, u] w (RetB (.int .i64 (badOr l)) w) := by
  have hfm := format_at t hl hf.len hf.txt hf.wt_ hv.ev hv.pow
  have hr := fun (w1 : World) (hb : Below w.heap.size w w1) => read_not (h.below hb) p
  clear h hl hf
  by_cases hc : checkE l = 0
  · rw [show badOr l = 2 by unfold badOr; rw [if_pos hc]]
    have HC := Lib.hid hc
    clear hc
    go_enter Tryz.func11, Tryz.ntmps11
    go_wp2_with (first
      | (go_at_call 24; go_must (refine hfm.mono ?_); rintro e w1 ⟨v1, rfl, hb1, -, -⟩; have hr1 := hr _ hb1; rw [HC.out])
      | (go_at_call 26; go_must (refine hr1.mono ?_); rintro e w2 ⟨rfl, hb2⟩))
    go_ret
    exact ⟨rfl, hb1.trans (hb2.mono hb1.size)⟩
  · rw [show badOr l = checkE l by unfold badOr; rw [if_neg hc]]
    have HC := Lib.hid hc
    have hc' : (checkE l != 0) = true := by simpa using hc
    clear hc
    go_enter Tryz.func11, Tryz.ntmps11
    go_wp2_with (go_at_call 24; go_must (refine hfm.mono ?_); rintro e w1 ⟨v1, rfl, hb1, -, hv1⟩; have HB1 := Lib.hid hb1; clear hb1; have hv := hv1 HC.out; clear hv1; subst hv)
    go_ret
    exact ⟨rfl, HB1.out⟩
def truncOr (n : Int) : Int := if n < 0 then 1 else 2
theorem trunc_neg {n : Int} (h : n < 0) : (truncOr n != 1) = false := by rw [show truncOr n = 1 from if_pos h]; rfl
theorem trunc_pos {n : Int} (h : ¬ n < 0) : (truncOr n != 2) = false := by rw [show truncOr n = 2 from if_neg h]; rfl
theorem bad_ok {l : List HL} (h : checkE l = 0) : (checkE l != 0) = false ∧ (checkE l == 0) = true ∧ (badOr l != 2) = false := by
  rw [show badOr l = 2 by unfold badOr; rw [if_pos h], h]; exact ⟨rfl, rfl, rfl⟩
theorem bad_not {l : List HL} (h : ¬ checkE l = 0) : (checkE l != 0) = true ∧ (checkE l == 0) = false ∧ (badOr l != checkE l) = false := by
  rw [show badOr l = checkE l by unfold badOr; rw [if_neg h]]
  exact ⟨by simpa using h, by simpa using h, by simp⟩
theorem htrunc_not {w : World} {v : Value} (h : NoneAt w v) (p : ByteArray) (n : Int) : Calls Tryz.prog 14 #[v, .string p, .int .i64 n] w (RetB (.int .i64 (truncOr n)) w) := by
  have hr := read_not h p
  clear h
  by_cases hn : n < 0
  · rw [show truncOr n = 1 from if_pos hn]
    go_enter Tryz.func14, Tryz.ntmps14
    go_wp2
    go_ret
    exact ⟨rfl, Below.refl _ _⟩
  · rw [show truncOr n = 2 from if_neg hn]
    go_enter Tryz.func14, Tryz.ntmps14
    go_wp2_with (go_at_call 26; go_must (refine hr.mono ?_); rintro e w1 ⟨rfl, hb⟩)
    go_ret
    exact ⟨rfl, hb⟩
/-- An operation on a history's file, in memory. -/
abbrev hopObj (kind n fault keep : Int) (path : ByteArray) (t : Bool) (la : Option Addr) (ln lc : Nat) (vb : Value) : Obj := .cells #[.int .i64 kind, .string path, .bool t, .slice la ln lc, .int .i64 n, .int .i64 fault, .int .i64 keep, vb] 39 (0, 0)
/-- Where the law stands. -/
structure HNone (w : World) (o : Obj) (z : Nat) (W : World) : Prop where
  op : W.heap[w.heap.size]? = some o
  zero : W.heap[z]? = some (.cells #[.map none, .int .i64 0, .int .i64 0, .int .i64 0, .pointer none, .bool false] 52 (0, 0))
  both : W.heap[z + 1]? = some (.cells #[.pointer none, fsPtr z] 23 (0, 0))
  bel : Below w.heap.size w W
  vars : Vars W
theorem HNone.below {w : World} {o : Obj} {z : Nat} {W W' : World} (h : HNone w o z W) (t : Below W.heap.size W W') : HNone w o z W' :=
  ⟨(t.block _ (lt_of_block h.op)).trans h.op, (t.block _ (lt_of_block h.zero)).trans h.zero, (t.block _ (lt_of_block h.both)).trans h.both, h.bel.trans (t.mono h.bel.size), h.vars.below t⟩
theorem HNone.sees {w : World} {kind n fault keep : Int} {path : ByteArray} {t : Bool} {la : Option Addr} {ln lc : Nat} {vb : Value} {z : Nat} {W : World} (h : HNone w (hopObj kind n fault keep path t la ln lc vb) z W) :
    NoneAt W (.pointer none) ∧ NoneAt W (fsPtr z) ∧ W.cell? ⟨w.heap.size, 1, none⟩ = some (.string path) ∧ W.cell? ⟨w.heap.size, 3, none⟩ = some (.slice la ln lc) ∧ W.cell? ⟨w.heap.size, 4, none⟩ = some (.int .i64 n) ∧
      W.cell? ⟨z + 1, 0, none⟩ = some (.pointer none) ∧ W.cell? ⟨z + 1, 1, none⟩ = some (fsPtr z) := by
  refine ⟨.inl rfl, .inr ⟨z, rfl, by rw [cell_of_block h.zero]; rfl⟩, ?_, ?_, ?_, ?_, ?_⟩
  all_goals first | (rw [cell_of_block h.op]; rfl) | (rw [cell_of_block h.both]; rfl)
theorem HNone.lines {F : Nat → Prop} {w : World} {o : Obj} {z : Nat} {W : World} (h : HNone w o z W) {v : Value} {l : List HL} (hl : Lines F w v l) : Lines F W v l := hl.below h.bel
set_option maxHeartbeats 2000000 in
theorem histNone_any {F : Nat → Prop} {w : World} (hv : Vars w) (kind n fault keep : Int) (path : ByteArray) (hp : path.size ≤ 1099511627776) (t : Bool) {la ba : Option Addr} {lc bn bc : Nat} {l : List HL} (hl : Lines F w (.slice la l.length lc) l) (hf : Fit l) :
    Calls Tryz.prog 5 #[.agg #[.int .i64 kind, .string path, .bool t, .slice la l.length lc, .int .i64 n, .int .i64 fault, .int .i64 keep, .slice ba bn bc]] w (BoolAns true w) := by
  have hb0 : Below w.heap.size w (w.alloc (hopObj kind n fault keep path t la l.length lc (.slice ba bn bc))) := (Below.refl _ _).alloc (Nat.le_refl _) _
  have hlv := live_at (hv.below hb0)
  have HL := Lib.hid hl
  have HV := Lib.hid hv
  have HFT := Lib.hid hf
  clear hl hf hv hb0
  go_enter Tryz.func5, Tryz.ntmps5
  go_wp2_with (first
    | (go_at_call 9; go_must (refine hlv.mono ?_); rintro e w1 ⟨rfl, t1⟩; have T1 := Lib.hid t1; simp only [size_alloc] at t1; have o1 := (t1.block w.heap.size (by simp)).trans (get_new _ _); have O1 := Lib.hid o1; have c3 : w1.cell? ⟨w.heap.size, 3, none⟩ = some (.slice la l.length lc) := (by rw [cell_of_block o1]; rfl); have hck := checkR_at ((HL.out.below ((Below.refl _ _).alloc (Nat.le_refl _) _)).below T1.out) HFT.out.len HFT.out.txt; clear t1 o1)
    | (go_at_call 19; go_must (refine hck.mono ?_); rintro e w2 ⟨rfl, rfl⟩))
  have hL : HNone w (hopObj kind n fault keep path t la l.length lc (.slice ba bn bc)) w1.heap.size ((w1.alloc (.cells #[.map none, .int .i64 0, .int .i64 0, .int .i64 0, .pointer none, .bool false] 52)).alloc (.cells #[.pointer none, fsPtr w1.heap.size] 23)) := by
    have b1 := T1.out
    simp only [size_alloc] at b1
    have hs := b1.size
    simp only [size_alloc] at hs
    have b0 : Below w.heap.size w w1 := ((Below.refl _ _).alloc (Nat.le_refl _) _).trans (b1.mono (by omega))
    have bw := (b0.alloc (by omega) (.cells #[.map none, .int .i64 0, .int .i64 0, .int .i64 0, .pointer none, .bool false] 52)).alloc (by rw [size_alloc]; omega) (.cells #[.pointer none, fsPtr w1.heap.size] 23)
    refine ⟨?_, ?_, ?_, bw, HV.out.below bw⟩
    · rw [get_alloc _ _ (by rw [size_alloc]; omega), get_alloc _ _ (by omega)]; exact O1.out
    · rw [get_alloc _ _ (by rw [size_alloc]; omega), get_new]
    · have h := get_new (w1.alloc (.cells #[.map none, .int .i64 0, .int .i64 0, .int .i64 0, .pointer none, .bool false] 52)) (.cells #[.pointer none, fsPtr w1.heap.size] 23)
      rwa [size_alloc] at h
  generalize (w1.alloc (.cells #[.map none, .int .i64 0, .int .i64 0, .int .i64 0, .pointer none, .bool false] 52)).alloc (.cells #[.pointer none, fsPtr w1.heap.size] 23) = W at hL ⊢
  generalize w1.heap.size = z at hL ⊢
  clear T1 O1 c3 hck hlv
  obtain ⟨n0, n1, c1, c3, c4, s0, s1⟩ := hL.sees
  have HN := Lib.hid hL
  clear hL
  refine wp_loop_rounds 3 ?_
  rw [rounds_succ]
  go_upto_region 10 with (go_at_call 12; go_must (refine (hread_not n0 _).mono ?_); rintro e w2 ⟨rfl, t⟩; replace HN := Lib.hid (HN.out.below t); clear t n0 n1 c1 c3 c4 s0 s1; obtain ⟨n0, n1, c1, c3, c4, s0, s1⟩ := HN.out.sees)
  go_cut [8, 9] (fun v8 v9 wx => v8 = .int .i64 (badOr l) ∧ v9 = .int .i64 (badOr l) ∧ HNone w (hopObj kind n fault keep path t la l.length lc (.slice ba bn bc)) z wx)
  case first =>
    obtain ⟨-, -, d1, d3, -, -, -⟩ := HN.out.sees
    replace HN := Lib.hid (HN.out.below (Below.refl _ _).drew)
    clear n0 n1 c1 c3 c4 s0 s1
    obtain ⟨n0, n1, c1, c3, c4, s0, s1⟩ := HN.out.sees
    go_region_held3 (fun w' => w'.cell? ⟨w.heap.size, 1, none⟩ = some (.string path) ∧ w'.cell? ⟨w.heap.size, 3, none⟩ = some (.slice la l.length lc)) (first | exact ⟨c1, c3⟩ | exact ⟨d1, d3⟩) (first
      | (go_at_call 20; go_must (refine (hwrite_not n0 HN.out.vars path hp true (HN.out.lines HL.out) HFT.out).mono ?_); rintro e w2 ⟨rfl, t⟩; replace HN := Lib.hid (HN.out.below t); clear t n0 n1 c1 c3 c4 s0 s1; obtain ⟨n0, n1, c1, c3, c4, s0, s1⟩ := HN.out.sees)
      | (go_at_call 11; go_must (refine (happend_not n0 HN.out.vars path true (HN.out.lines HL.out) HFT.out).mono ?_); rintro e w2 ⟨rfl, t⟩; replace HN := Lib.hid (HN.out.below t); clear t n0 n1 c1 c3 c4 s0 s1; obtain ⟨n0, n1, c1, c3, c4, s0, s1⟩ := HN.out.sees))
    all_goals go_wp2
    all_goals go_meet
    all_goals exact ⟨rfl, rfl, HN.out⟩
  obtain ⟨rfl, rfl, hn⟩ := hcut
  replace HN := Lib.hid hn
  clear hn n0 n1 c1 c3 c4 s0 s1
  obtain ⟨n0, n1, c1, c3, c4, s0, s1⟩ := HN.out.sees
  go_upto_region 11 with (fail)
  go_cut [73] (fun v73 wx => v73 = .bool false ∧ HNone w (hopObj kind n fault keep path t la l.length lc (.slice ba bn bc)) z wx)
  case first =>
    by_cases hc : checkE l = 0
    · obtain ⟨e1, e2, e3⟩ := bad_ok hc
      clear hc n0 n1
      go_wp2
      go_meet
      exact ⟨rfl, HN.out⟩
    · obtain ⟨e1, e2, e3⟩ := bad_not hc
      clear hc n0 n1
      go_wp2
      go_meet
      exact ⟨rfl, HN.out⟩
  obtain ⟨rfl, hn⟩ := hcut
  replace HN := Lib.hid hn
  clear hn n0 n1 c1 c3 c4 s0 s1
  obtain ⟨n0, n1, c1, c3, c4, s0, s1⟩ := HN.out.sees
  go_upto_region 14 with (go_at_call 14; go_must (refine (htrunc_not n0 path n).mono ?_); rintro e w2 ⟨rfl, t⟩; replace HN := Lib.hid (HN.out.below t); clear t n0 n1 c1 c3 c4 s0 s1; obtain ⟨n0, n1, c1, c3, c4, s0, s1⟩ := HN.out.sees)
  go_cut [95] (fun v95 wx => v95 = .bool false ∧ HNone w (hopObj kind n fault keep path t la l.length lc (.slice ba bn bc)) z wx)
  case first =>
    by_cases hc : n < 0
    · have e1 := trunc_neg hc
      clear n0 n1
      go_wp2
      go_meet
      exact ⟨rfl, HN.out⟩
    · have e1 := trunc_pos hc
      clear n0 n1
      go_wp2
      go_meet
      exact ⟨rfl, HN.out⟩
  obtain ⟨rfl, hn⟩ := hcut
  replace HN := Lib.hid hn
  clear hn n0 n1 c1 c3 c4 s0 s1
  obtain ⟨-, -, c1, c3, c4, s0, s1⟩ := HN.out.sees
  go_wp2
  clear c1 c3 c4 s0 s1
  obtain ⟨n0, n1, c1, c3, c4, s0, s1⟩ := HN.out.sees
  rw [rounds_succ]
  go_upto_region 10 with (go_at_call 12; go_must (refine (hread_not n1 _).mono ?_); rintro e w2 ⟨rfl, t⟩; replace HN := Lib.hid (HN.out.below t); clear t n0 n1 c1 c3 c4 s0 s1; obtain ⟨n0, n1, c1, c3, c4, s0, s1⟩ := HN.out.sees)
  go_cut [8, 9] (fun v8 v9 wx => v8 = .int .i64 (badOr l) ∧ v9 = .int .i64 (badOr l) ∧ HNone w (hopObj kind n fault keep path t la l.length lc (.slice ba bn bc)) z wx)
  case first =>
    obtain ⟨-, -, d1, d3, -, -, -⟩ := HN.out.sees
    replace HN := Lib.hid (HN.out.below (Below.refl _ _).drew)
    clear n0 n1 c1 c3 c4 s0 s1
    obtain ⟨n0, n1, c1, c3, c4, s0, s1⟩ := HN.out.sees
    go_region_held3 (fun w' => w'.cell? ⟨w.heap.size, 1, none⟩ = some (.string path) ∧ w'.cell? ⟨w.heap.size, 3, none⟩ = some (.slice la l.length lc)) (first | exact ⟨c1, c3⟩ | exact ⟨d1, d3⟩) (first
      | (go_at_call 20; go_must (refine (hwrite_not n1 HN.out.vars path hp true (HN.out.lines HL.out) HFT.out).mono ?_); rintro e w2 ⟨rfl, t⟩; replace HN := Lib.hid (HN.out.below t); clear t n0 n1 c1 c3 c4 s0 s1; obtain ⟨n0, n1, c1, c3, c4, s0, s1⟩ := HN.out.sees)
      | (go_at_call 11; go_must (refine (happend_not n1 HN.out.vars path true (HN.out.lines HL.out) HFT.out).mono ?_); rintro e w2 ⟨rfl, t⟩; replace HN := Lib.hid (HN.out.below t); clear t n0 n1 c1 c3 c4 s0 s1; obtain ⟨n0, n1, c1, c3, c4, s0, s1⟩ := HN.out.sees))
    all_goals go_wp2
    all_goals go_meet
    all_goals exact ⟨rfl, rfl, HN.out⟩
  obtain ⟨rfl, rfl, hn⟩ := hcut
  replace HN := Lib.hid hn
  clear hn n0 n1 c1 c3 c4 s0 s1
  obtain ⟨n0, n1, c1, c3, c4, s0, s1⟩ := HN.out.sees
  go_upto_region 11 with (fail)
  go_cut [73] (fun v73 wx => v73 = .bool false ∧ HNone w (hopObj kind n fault keep path t la l.length lc (.slice ba bn bc)) z wx)
  case first =>
    by_cases hc : checkE l = 0
    · obtain ⟨e1, e2, e3⟩ := bad_ok hc
      clear hc n0 n1
      go_wp2
      go_meet
      exact ⟨rfl, HN.out⟩
    · obtain ⟨e1, e2, e3⟩ := bad_not hc
      clear hc n0 n1
      go_wp2
      go_meet
      exact ⟨rfl, HN.out⟩
  obtain ⟨rfl, hn⟩ := hcut
  replace HN := Lib.hid hn
  clear hn n0 n1 c1 c3 c4 s0 s1
  obtain ⟨n0, n1, c1, c3, c4, s0, s1⟩ := HN.out.sees
  go_upto_region 14 with (go_at_call 14; go_must (refine (htrunc_not n1 path n).mono ?_); rintro e w2 ⟨rfl, t⟩; replace HN := Lib.hid (HN.out.below t); clear t n0 n1 c1 c3 c4 s0 s1; obtain ⟨n0, n1, c1, c3, c4, s0, s1⟩ := HN.out.sees)
  go_cut [95] (fun v95 wx => v95 = .bool false ∧ HNone w (hopObj kind n fault keep path t la l.length lc (.slice ba bn bc)) z wx)
  case first =>
    by_cases hc : n < 0
    · have e1 := trunc_neg hc
      clear n0 n1
      go_wp2
      go_meet
      exact ⟨rfl, HN.out⟩
    · have e1 := trunc_pos hc
      clear n0 n1
      go_wp2
      go_meet
      exact ⟨rfl, HN.out⟩
  obtain ⟨rfl, hn⟩ := hcut
  replace HN := Lib.hid hn
  clear hn n0 n1 c1 c3 c4 s0 s1
  obtain ⟨-, -, c1, c3, c4, s0, s1⟩ := HN.out.sees
  go_wp2
  rw [rounds_succ]
  go_wp2
  go_ret
  exact ⟨rfl, HN.out.bel⟩
end Go.Proofs.YtofkdmmoheffbaaGreatDoor
