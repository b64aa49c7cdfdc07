/- The document's file system: put. -/
import Derived.Test.YthchfkjdbfhnhaaGreatDoorRefD
import Derived.Deep.DeepCutAuto
namespace Go.Proofs.YthchfkjdbfhnhaaGreatDoor
open Go Go.RowKit Go.Lany
set_option maxRecDepth 100000
theorem step_append_bytes {w : World} {ops : Array Oper} {o : Oper} {a : Act} {K : Act → World → Prop} {Q : Exit → Act → World → Prop} {E : Prop} (hgd : o.guard = none) (s x : Operand)
    (ho : o.op = .call { callee := .builtin .append, args := #[s, x], argTypes := #[30, 30] }) (base : Nat) (v y : Value) (n : Nat) (p q : ByteArray) (G : Nat → Prop) (hs : a.eval s = v) (hx : a.eval x = y)
    (hown : w.ownsRow base 5 1 v n (byteCells p)) (hy : Bytes G w y q) (hl : n + q.size ≤ 140737488355328) (hbase : base ≤ w.heap.size)
    (h : ∀ v' w', w'.ownsRow base 5 1 v' (n + q.size) (byteCells (p ++ q)) → w.grownBy w' v.ownBlock → K (a.put o.dst v') w') : if Region.wanted o (yielded ops a.tmps) = true then Oper.wp Tryz.prog o a w K Q else E := by
  have hw : Region.wanted o (yielded ops a.tmps) = true := by simp [Region.wanted, hgd]
  rw [if_pos hw]
  obtain ⟨v', w', h1, h2, h3⟩ := run_append_bytes (w := w) base o.type hown hy hl hbase
  unfold Oper.wp
  simp [execOp, ho, resolve, invoke, builtin, hs, hx, h1, Result.andThen]
  exact h v' w' h2 h3
section
variable {W : World} {r : Nat} {G : Nat → Prop} {s : FsSt} {v : Value} {K Kp : Int} {vs : List (ByteArray × Value)} {fs : List (ByteArray × ByteArray)}
theorem both_set {α β : Type} {R : α → β → Prop} {a : List (ByteArray × α)} {b : List (ByteArray × β)} (h : Both R a b) {k : Nat} {p : ByteArray} {x : α} {y : β} (hr : R x y) (hk : ∃ z, b[k]? = some (p, z)) : Both R (a.set k (p, x)) (b.set k (p, y)) := by
  induction h generalizing k with
  | nil => exact .nil
  | cons h' hl ih =>
    rcases k with _ | k
    · exact .cons hr hl
    · exact .cons h' (ih (by simpa using hk))
/-- A file's bytes are set in their place: the row is written. -/
theorem RA.setData (h : RA W r G s v K Kp vs fs) {g n cap k : Nat} (hv : v = .slice (some ⟨g, 0, none⟩) n cap) {p d b : ByteArray} (hk : fs[k]? = some (p, d)) {w1 : World} (hg : W.grownBy w1 none) {u : Value} (hu : w1.ownsRow W.heap.size 5 1 u b.size (byteCells b)) (hml : 0 < W.heap.size) :
    RA (w1.setCell ⟨g, k * 2 + 1, none⟩ u) r (Grow G W.heap.size) (s.put p b) v K Kp (vs.set k (p, u)) (fs.set k (p, b)) := by
  have hgG := h.rowG g (by rw [hv]; rfl)
  have hlr := lt_of_block h.obj
  have hlen := h.keys.2
  have hkl : k < fs.length := (List.getElem?_eq_some_iff.1 hk).1
  have hvk : ∃ u0, vs[k]? = some (p, u0) := by
    obtain ⟨a, c, he, hf⟩ := h.form
    obtain ⟨_, u0, _, h1, _⟩ := hf k _ hk
    exact ⟨u0, h1⟩
  obtain ⟨u0, hvk⟩ := hvk
  have hub : ∀ j, u.ownBlock = some j → W.heap.size ≤ j ∧ j < w1.heap.size := fun j hj => hu.lt j hj
  have hrow := h.row
  rcases hrow.2 with ⟨e, _⟩ | ⟨g', cap', cur, e, _, hb, hc, hm, hsz, ht⟩
  · rw [hv] at e; cases e
  · rw [hv] at e
    cases e
    have hgl := lt_of_block hb
    have hb1 : w1.heap[g]? = some (.cells cur 67 (0, 0)) := (hg.block g hgl (by simp)).trans hb
    have hother : ∀ j, j < W.heap.size → j ≠ g → (w1.setCell ⟨g, k * 2 + 1, none⟩ u).heap[j]? = W.heap[j]? := fun j h1 h2 => (get_other _ _ _ h2).trans (hg.block j h1 (by simp))
    refine ⟨(hother r hlr (fun e => hgG.2 e.symm)).trans h.obj, ?_, fun j hj => ⟨.inl (h.rowG j hj).1, (h.rowG j hj).2⟩, ?_, sorts_set h.sorts hk, h.fault, h.left, .inl h.inG, fun e => e.elim h.far (fun e => by omega)⟩
    · rw [List.length_set, cellsF_set hvk]
      refine ⟨by rw [List.length_set, cellsF_length], .inr ⟨g, cap, cur.setIfInBounds (k * 2 + 1) u, hv, Nat.zero_le _, set_block hb1 _ _, hc, hm, by rw [Array.size_setIfInBounds]; exact hsz, ?_⟩⟩
      rw [Array.toList_setIfInBounds, List.take_set, ht]
    · have hA : Both (fun u' b' => (w1.setCell ⟨g, k * 2 + 1, none⟩ u).ownsRow 0 5 1 u' b'.size (byteCells b') ∧ ∀ j, u'.ownBlock = some j → Grow G W.heap.size j ∧ j ≠ r ∧ some j ≠ v.ownBlock) vs fs := h.data.mono fun q hq x hp => by
        refine ⟨⟨hp.1.1, hp.1.2.imp id ?_⟩, fun j hj => ⟨.inl (hp.2 j hj).1, (hp.2 j hj).2⟩⟩
        rintro ⟨g2, cap2, cur2, e2, hB, hb2, rest⟩
        exact ⟨g2, cap2, cur2, e2, hB, (hother g2 (lt_of_block hb2) fun e => (hp.2 g2 (by rw [e2]; rfl)).2.2 (by rw [hv, e]; rfl)).trans hb2, rest⟩
      have hB : (w1.setCell ⟨g, k * 2 + 1, none⟩ u).ownsRow 0 5 1 u b.size (byteCells b) ∧ ∀ j, u.ownBlock = some j → Grow G W.heap.size j ∧ j ≠ r ∧ some j ≠ v.ownBlock := by
        refine ⟨⟨hu.1, hu.2.imp id ?_⟩, fun j hj => ?_⟩
        · rintro ⟨g2, cap2, cur2, e2, hB, hb2, rest⟩
          exact ⟨g2, cap2, cur2, e2, Nat.zero_le _, (get_other _ _ _ (by omega)).trans hb2, rest⟩
        · have := (hub j hj).1
          refine ⟨.inr this, by omega, fun e => ?_⟩
          rw [hv] at e
          have : j = g := Option.some.inj e
          omega
      exact both_set hA hB ⟨d, hk⟩
theorem Grow.twice {G : Nat → Prop} {n m k : Nat} (hnm : n ≤ m) (h : Grow (Grow G n) m k) : Grow G n k := h.elim id fun e => .inr (Nat.le_trans hnm e)
/-- The row has a place for the path. -/
def PutMid (r : Nat) (G : Nat → Prop) (W : World) (s : FsSt) (K Kp : Int) (v : Value) (p : ByteArray) (vi : Value) (wc : World) : Prop :=
  ∃ (g n cap k : Nat) (s2 : FsSt) (vs : List (ByteArray × Value)) (fs : List (ByteArray × ByteArray)) (d : ByteArray), vi = .int .i64 k ∧ RA wc r (Grow G W.heap.size) s2 (.slice (some ⟨g, 0, none⟩) n cap) K Kp vs fs ∧ fs[k]? = some (p, d) ∧ (∀ b, fs[k]? = some (p, d) → Sorts (s.put p b) (fs.set k (p, b))) ∧ (s2.left = s.left ∧ s2.kind = s.kind ∧ s2.keep = s.keep ∧ s2.calls = s.calls ∧ s2.down = s.down) ∧ fs.length ≤ 4097 ∧ Turns (Own1 r) W wc ∧ (W.heap.size ≤ g ∨ v.ownBlock = some g)
def PutPost (r : Nat) (G : Nat → Prop) (W : World) (s : FsSt) (K Kp : Int) (v : Value) (e : Ending) (w' : World) : Prop :=
  e = .returned (.tuple #[]) ∧ (∃ v vs fs, RA w' r (Grow G W.heap.size) s v K Kp vs fs) ∧ Turns (fun k => k = r ∨ some k = v.ownBlock) W w'
theorem RA.state (h : RA W r G s v K Kp vs fs) {t : FsSt} (hs : Sorts t fs) (e1 : t.left = s.left) (e2 : t.kind = s.kind) (e3 : t.keep = s.keep) (e4 : t.calls = s.calls) (e5 : t.down = s.down) : RA W r G t v K Kp vs fs :=
  ⟨by rw [e1, e4, e5]; exact h.obj, h.row, h.rowG, h.data, hs, by rw [e1, e2, e3]; exact h.fault, by rw [e1]; exact h.left, h.inG, h.far⟩
/-- Where a path has its place. -/
def PlaceOf (fs : List (ByteArray × ByteArray)) (p : ByteArray) (k : Nat) : Prop := k ≤ fs.length ∧ (∀ j x, j < k → fs[j]? = some x → Op.bytesLess x.1.toList p.toList = true) ∧ ∀ x, fs[k]? = some x → Op.bytesLess x.1.toList p.toList = false
theorem RA.rowB (h : RA W r G s v K Kp vs fs) {g n cap : Nat} (hv : v = .slice (some ⟨g, 0, none⟩) n cap) : ∃ cur, W.heap[g]? = some (.cells cur 67 (0, 0)) := by
  rcases h.row.2 with ⟨e, e'⟩ | ⟨g', c, cur, e, _, hb, _⟩
  · rw [hv] at e; cases e
  · rw [hv] at e; cases e; exact ⟨cur, hb⟩
theorem RA.nilOr (h : RA W r G s v K Kp vs fs) {a : Option Addr} {n cap : Nat} (hv : v = .slice a n cap) : (a = none ∧ fs = [] ∧ n = 0 ∧ cap = 0) ∨ ∃ g, a = some ⟨g, 0, none⟩ := by
  have hl := h.keys.2
  rcases h.row.2 with ⟨e, e'⟩ | ⟨g, c, cur, e, _, _, hc, _⟩
  · rw [hv] at e; obtain ⟨rfl, rfl, rfl⟩ := Value.slice.inj e; exact .inl ⟨rfl, List.eq_nil_of_length_eq_zero (by omega), rfl, rfl⟩
  · rw [hv] at e; obtain ⟨rfl, _, _⟩ := Value.slice.inj e; exact .inr ⟨g, rfl⟩
theorem alloc_file {w1 : World} (hg : W.grownBy w1 none) {u : Value} {n : Nat} {xs : List Value} (h : w1.ownsRow W.heap.size 67 2 u n xs) (p : ByteArray) :
    (w1.alloc (.cells #[.string p, .slice none 0 0] 67)).ownsRow W.heap.size 67 2 u n xs ∧ Src (w1.alloc (.cells #[.string p, .slice none 0 0] 67)) (.slice (some ⟨w1.heap.size, 0, none⟩) 1 1) 1 [.string p, .slice none 0 0] ∧ W.grownBy (w1.alloc (.cells #[.string p, .slice none 0 0] 67)) none := by
  generalize ho : (Obj.cells #[Value.string p, .slice none 0 0] 67) = o
  have hb : (w1.alloc o).heap[w1.heap.size]? = some o := Array.getElem?_push_size
  have hk : ∀ k, k < w1.heap.size → (w1.alloc o).heap[k]? = w1.heap[k]? := fun k hk => (Array.getElem?_push ..).trans (if_neg (Nat.ne_of_lt hk))
  have hs : w1.heap.size ≤ (w1.alloc o).heap.size := by show _ ≤ (w1.heap.push o).size; rw [Array.size_push]; omega
  refine ⟨⟨h.1, h.2.imp id ?_⟩, ⟨_, 1, rfl, .inr ⟨_, rfl, fun j u hu => ?_⟩⟩, ⟨hg.os, hg.tape, hg.output, Nat.le_trans hg.size hs, fun k h1 h2 => (hk k (Nat.lt_of_lt_of_le h1 hg.size)).trans (hg.block k h1 h2)⟩⟩
  · rintro ⟨g, cap, cur, e, hB, hbk, rest⟩
    exact ⟨g, cap, cur, e, hB, (hk g (lt_of_block hbk)).trans hbk, rest⟩
  · rw [← ho] at hb
    rw [Addr.add_lit, cell_of_block (by rw [← ho]; exact hb)]
    simpa using hu
theorem one_file (p : ByteArray) : ∀ u ∈ [Value.string p, .slice none 0 0], u.oneCell' = true := fun u hu => by
  simp only [List.mem_cons, List.not_mem_nil, or_false] at hu
  rcases hu with rfl | rfl <;> rfl
/-- The row with the path's place in it. -/
theorem put_mid (h : RA W r G s v K Kp vs fs) (hl : fs.length ≤ 4096) (hml : 0 < W.heap.size) {p : ByteArray} {k : Nat} (hp : PlaceOf fs p k) (hn : aget s.files p = none) {w2 : World} {v2 : Value}
    (h1 : w2.ownsRow W.heap.size 67 2 v2 (0 + k + 1 + (fs.length - k)) ([] ++ cellsF ((vs.drop 0).take k) ++ [.string p, .slice none 0 0] ++ cellsF ((vs.drop k).take (fs.length - k)))) (hg : W.grownBy w2 none) : PutMid r G W s K Kp v p (.int .i64 k) (w2.setCell ⟨r, 0, none⟩ v2) := by
  obtain ⟨hk, hlo, hhi⟩ := hp
  have hlen := h.keys.2
  have e1 : (vs.drop 0).take k = vs.take k := by simp
  have e2 : (vs.drop k).take (fs.length - k) = vs.drop k := List.take_of_length_le (by simp; omega)
  have hvl : (vs.take k ++ (p, Value.slice none 0 0) :: vs.drop k).length = 0 + k + 1 + (fs.length - k) := by simp; omega
  have hfl : (fs.take k ++ (p, ByteArray.empty) :: fs.drop k).length = 0 + k + 1 + (fs.length - k) := by simp; omega
  have hcells : [] ++ cellsF (vs.take k) ++ [Value.string p, .slice none 0 0] ++ cellsF (vs.drop k) = cellsF (vs.take k ++ (p, Value.slice none 0 0) :: vs.drop k) := by rw [cellsF_append]; simp [cellsF]
  rw [e1, e2, hcells, ← hvl] at h1
  have hs := sorts_insert (b := ByteArray.empty) h.sorts hk hn hlo hhi
  obtain ⟨q1, q2⟩ := h.rerow hg h1 ((h.data.take k).append (.cons ⟨⟨rfl, .inl ⟨rfl, rfl⟩⟩, fun k e => by cases e⟩ (h.data.drop k))) hs rfl rfl rfl rfl rfl hml
  have hget : (fs.take k ++ (p, ByteArray.empty) :: fs.drop k)[k]? = some (p, ByteArray.empty) := by rw [List.getElem?_append_right (by simp; omega)]; simp [Nat.min_eq_left hk]
  rcases h1.2 with ⟨e, e'⟩ | ⟨g, c, cur, e, hB, _⟩
  · rw [hvl] at e'; omega
  · subst e
    refine ⟨g, _, c, k, s.put p ByteArray.empty, _, _, ByteArray.empty, rfl, q1, hget, fun b hb => ?_, ⟨rfl, rfl, rfl, rfl, rfl⟩, by rw [hfl]; omega, q2, .inl hB⟩
    have hz := sorts_set (b := b) hs hget
    refine ⟨fun q => ?_, hz.up⟩
    rw [hz.has q]
    show aget (aput (aput s.files p _) p b) q = aget (aput s.files p b) q
    rw [aget_aput, aget_aput, aget_aput]
    split <;> rfl
set_option maxHeartbeats 4000000 in
theorem putR_at (h : RA W r G s v K Kp vs fs) (hl : fs.length ≤ 4096) (hml : 0 < W.heap.size) (p b : ByteArray) (vb : Value) {F : Nat → Prop} (hb : Bytes F W vb b) (hF : ¬ F r) (hbs : b.size ≤ 140737488355328) :
    Calls Tryz.prog 56 #[.pointer (some ⟨r, 0, none⟩), .string p, vb] W (PutPost r G W (s.put p b) K Kp v) := by
  have hf := findR_at h hl p
  obtain ⟨ab, cb, rfl⟩ := hb.len
  have HH := Lib.hid h
  have HB := Lib.hid hb
  obtain ⟨c0, -, -, -, -, -, -⟩ := h.cells
  obtain ⟨a, cap, rfl, hfo⟩ := h.form
  have HFO := Lib.hid hfo
  clear h hb hfo
  go_enter Tryz.func56, Tryz.ntmps56
  obtain ⟨vi, hvi⟩ : ∃ vi, vi = intOfI (findI fs p) := ⟨_, rfl⟩
  rw [← hvi] at hf
  have HVI := Lib.hid hvi
  clear hvi
  go_upto_if 13 with (go_at_call 51; refine hf.mono ?_; rintro e w' ⟨rfl, rfl⟩)
  go_cut [6] (fun vi wc => PutMid r G W s K Kp (.slice a fs.length cap) p vi wc)
  case first =>
    cases hfi : findI fs p with
    | none =>
      have evi : vi = -1 := by rw [HVI.out, hfi]; rfl
      have HAN : Hid (aget s.files p = none) := Lib.hid (by rw [← HH.out.sorts.has p]; exact findI_none.1 hfi)
      clear HVI hfi
      subst evi
      go_upto_block 0 with fail
      go_cut [7] (fun v wc => ∃ k : Nat, v = .int .i64 k ∧ PlaceOf fs p k ∧ W = wc)
      case first =>
        go_wp2
        go_loop [7] (fun i => ∃ k : Nat, k ≤ fs.length ∧ i = .int .i64 k ∧ ∀ j x, j < k → fs[j]? = some x → Op.bytesLess x.1.toList p.toList = true) (fun i => fs.length - (intOf i).toNat)
        case atStart => exact ⟨0, Nat.zero_le _, rfl, fun j _ hj => by omega⟩
        case round =>
          obtain ⟨k, hk, rfl, hno⟩ := hrel
          have HN := Lib.hid hno
          clear hno
          by_cases hlt : k < fs.length
          · obtain ⟨x, hx⟩ : ∃ x, fs[k]? = some x := ⟨_, List.getElem?_eq_getElem hlt⟩
            obtain ⟨g, u, rfl, -, h1, -, -, -⟩ := HFO.out k x hx
            have HX := Lib.hid hx
            clear hx
            cases e : Op.bytesLess x.1.toList p.toList with
            | true =>
              have HE := Lib.hid e
              go_wp2
              go_round
              case rel =>
                refine ⟨k + 1, by omega, by go_num, fun j y hj hy => ?_⟩
                rcases Nat.lt_succ_iff_lt_or_eq.1 hj with h' | h'
                · exact HN.out j y h' hy
                · subst h'
                  rw [HX.out] at hy
                  cases hy
                  exact HE.out
              case measure => simp [intOf]; omega
            | false =>
              have HE := Lib.hid e
              go_wp2
              go_meet
              exact ⟨k, rfl, ⟨hk, HN.out, fun y hy => by rw [HX.out] at hy; cases hy; exact HE.out⟩, rfl⟩
          · obtain rfl : k = fs.length := by omega
            go_wp2
            go_meet
            exact ⟨_, rfl, ⟨Nat.le_refl _, HN.out, fun y hy => by simp at hy⟩, rfl⟩
      case rest =>
        obtain ⟨k, rfl, hpl, rfl⟩ := hcut
        have HPL := Lib.hid hpl
        have hkl := hpl.1
        have FIN : Hid (∀ (w2 : World) (v2 : Value), w2.ownsRow W.heap.size 67 2 v2 (0 + k + 1 + (fs.length - k)) ([] ++ cellsF ((vs.drop 0).take k) ++ [.string p, .slice none 0 0] ++ cellsF ((vs.drop k).take (fs.length - k))) → W.grownBy w2 none → PutMid r G W s K Kp (.slice a fs.length cap) p (.int .i64 k) (w2.setCell ⟨r, 0, none⟩ v2)) := Lib.hid fun w2 v2 h1 h2 => put_mid HH.out hl hml HPL.out HAN.out h1 h2
        have hlr := lt_of_block HH.out.obj
        clear hpl hf
        rcases HH.out.nilOr rfl with ⟨ea, e2, e3, e4⟩ | ⟨g, ea⟩
        · subst ea
          subst e2
          obtain rfl : k = 0 := by simpa using hkl
          have ev : vs = [] := List.eq_nil_of_length_eq_zero (by simpa using HH.out.keys.2)
          subst ev
          subst e4
          simp only [List.length_nil] at c0
          have HS1 : Hid (Src W (.slice none 0 0) 0 []) := Lib.hid (Src.none _)
          have FIN := Lib.hid (fun (w2 : World) (v2 : Value) (h1 : w2.ownsRow W.heap.size 67 2 v2 (0 + 0 + 1 + 0) ([] ++ [] ++ [.string p, .slice none 0 0] ++ [])) h2 => FIN.out w2 v2 h1 h2)
          · go_wp2_with (first
              | (at_builtin; refine wpList_append_files rfl _ _ rfl W.heap.size v2 _ (0 + 0 + 1) (0) ([] ++ [] ++ [.string p, .slice none 0 0]) ([]) rfl rfl HW2.out (Src.none _) rfl (fun _ h => by cases h) (by omega) HSZ2.out ?_; intro v3 w3 hw3 hg3; have hgW := grow_two HG2.out hg3 (fun k hk => (HW2.out.lt k hk).1); obtain ⟨a3, c3, rfl⟩ := rowF_slice hw3; have hb3 := (hgW.block r hlr (by simp)).trans HH.out.obj; have e3 : w3.cell? ⟨r, 0, none⟩ = _ := cell_of_block hb3 0; have f3 := free_of_block hb3 0; simp only [List.getElem?_toArray, List.getElem?_cons_zero] at e3; have HW3 := Lib.hid hw3; have HGW := Lib.hid hgW; clear hw3 hg3 hgW hb3 c2)
              | (at_builtin; refine wpList_append_files rfl _ _ rfl W.heap.size v1 _ (0 + 0) 1 ([] ++ []) [.string p, .slice none 0 0] rfl rfl (alloc_file HG1.out HW1.out p).1 (alloc_file HG1.out HW1.out p).2.1 rfl (one_file p) (by omega) (alloc_file HG1.out HW1.out p).2.2.size ?_; intro v2 w2 hw2 hg2; have hg2' := grow_two (alloc_file HG1.out HW1.out p).2.2 hg2 (fun k hk => (HW1.out.lt k hk).1); have hb2 := (hg2'.block r hlr (by simp)).trans HH.out.obj; have c2 : w2.cell? ⟨r, 0, none⟩ = some (.slice none 0 0) := (by rw [cell_of_block hb2]; rfl); have HG2 := Lib.hid hg2'; have HW2 := Lib.hid hw2; have HSZ2 := Lib.hid hg2'.size; clear hw2 hg2 hg2' hb2 c1)
              | (at_builtin; refine wpList_append_files rfl _ _ rfl W.heap.size _ _ 0 0 [] ([]) rfl rfl (World.ownsRow_nil _ _ _ _) HS1.out rfl (fun _ h => by cases h) (by omega) (Nat.le_refl _) ?_; intro v1 w1 hw1 hg1; have hg1' : W.grownBy w1 none := hg1; have hb1 := (hg1'.block r hlr (by simp)).trans HH.out.obj; have c1 : w1.cell? ⟨r, 0, none⟩ = some (.slice none 0 0) := (by rw [cell_of_block hb1]; rfl); have HG1 := Lib.hid hg1'; have HW1 := Lib.hid hw1; clear hw1 hg1 hg1' c0 hb1))
            go_meet
            exact FIN.out _ _ (by have h := HW3.out; simp only [Nat.zero_add, Nat.add_zero] at h ⊢; exact h) HGW.out

        · subst ea
          have hcap := HH.out.cap rfl
          have hlen := HH.out.keys.2
          have hs1 := HH.out.src rfl 0 k cap (by omega)
          have HS1 : Hid (Src W (.slice (some ⟨g, 0, none⟩) k cap) k (cellsF ((vs.drop 0).take k))) := Lib.hid (by simpa using hs1)
          have HS2 := Lib.hid (HH.out.src rfl k (fs.length - k) (cap - k) (by omega))
          have H1C := Lib.hid (one_cells HH.out)
          have HL1 : Hid ((cellsF ((vs.drop 0).take k)).length = k * 2) := Lib.hid (by rw [cellsF_length]; simp; omega)
          have HL2 : Hid ((cellsF ((vs.drop k).take (fs.length - k))).length = (fs.length - k) * 2) := Lib.hid (by rw [cellsF_length]; simp; omega)
          clear hs1 hlen
          by_cases hce : cap = k
          · subst hce
            obtain rfl : cap = fs.length := by omega
            have FIN := Lib.hid (fun (w2 : World) (v2 : Value) (h1 : w2.ownsRow W.heap.size 67 2 v2 (0 + fs.length + 1 + 0) ([] ++ cellsF ((vs.drop 0).take fs.length) ++ [.string p, .slice none 0 0] ++ [])) h2 => FIN.out w2 v2 (by rw [Nat.sub_self, List.take_zero]; exact h1) h2)
            clear HS2 HL2
            go_wp2_with (first
              | (at_builtin; refine wpList_append_files rfl _ _ rfl W.heap.size v2 _ (0 + fs.length + 1) (0) ([] ++ (cellsF ((vs.drop 0).take fs.length)) ++ [.string p, .slice none 0 0]) ([]) rfl rfl HW2.out (Src.any _ _ _) rfl (fun _ h => by cases h) (by omega) HSZ2.out ?_; intro v3 w3 hw3 hg3; have hgW := grow_two HG2.out hg3 (fun k hk => (HW2.out.lt k hk).1); obtain ⟨a3, c3, rfl⟩ := rowF_slice hw3; have hb3 := (hgW.block r hlr (by simp)).trans HH.out.obj; have e3 : w3.cell? ⟨r, 0, none⟩ = _ := cell_of_block hb3 0; have f3 := free_of_block hb3 0; simp only [List.getElem?_toArray, List.getElem?_cons_zero] at e3; have HW3 := Lib.hid hw3; have HGW := Lib.hid hgW; clear hw3 hg3 hgW hb3 c2)
              | (at_builtin; refine wpList_append_files rfl _ _ rfl W.heap.size v1 _ (0 + fs.length) 1 ([] ++ (cellsF ((vs.drop 0).take fs.length))) [.string p, .slice none 0 0] rfl rfl (alloc_file HG1.out HW1.out p).1 (alloc_file HG1.out HW1.out p).2.1 rfl (one_file p) (by omega) (alloc_file HG1.out HW1.out p).2.2.size ?_; intro v2 w2 hw2 hg2; have hg2' := grow_two (alloc_file HG1.out HW1.out p).2.2 hg2 (fun k hk => (HW1.out.lt k hk).1); have hb2 := (hg2'.block r hlr (by simp)).trans HH.out.obj; have c2 : w2.cell? ⟨r, 0, none⟩ = some (.slice (some ⟨g, 0, none⟩) fs.length fs.length) := (by rw [cell_of_block hb2]; rfl); have HG2 := Lib.hid hg2'; have HW2 := Lib.hid hw2; have HSZ2 := Lib.hid hg2'.size; clear hw2 hg2 hg2' hb2 c1)
              | (at_builtin; refine wpList_append_files rfl _ _ rfl W.heap.size _ _ 0 fs.length [] ((cellsF ((vs.drop 0).take fs.length))) rfl rfl (World.ownsRow_nil _ _ _ _) HS1.out HL1.out (one_take H1C.out 0 _) (by omega) (Nat.le_refl _) ?_; intro v1 w1 hw1 hg1; have hg1' : W.grownBy w1 none := hg1; have hb1 := (hg1'.block r hlr (by simp)).trans HH.out.obj; have c1 : w1.cell? ⟨r, 0, none⟩ = some (.slice (some ⟨g, 0, none⟩) fs.length fs.length) := (by rw [cell_of_block hb1]; rfl); have HG1 := Lib.hid hg1'; have HW1 := Lib.hid hw1; clear hw1 hg1 hg1' c0 hb1))
            go_meet
            exact FIN.out _ _ (by have h := HW3.out; simp only [Nat.zero_add, Nat.add_zero] at h ⊢; exact h) HGW.out

          · go_wp2_with (first
              | (at_builtin; refine wpList_append_files rfl _ _ rfl W.heap.size v2 _ (0 + k + 1) (fs.length - k) ([] ++ (cellsF ((vs.drop 0).take k)) ++ [.string p, .slice none 0 0]) (cellsF ((vs.drop k).take (fs.length - k))) rfl rfl HW2.out (HS2.out.grown HG2.out (fun _ _ _ e => by cases e)) HL2.out (one_take H1C.out k _) (by omega) HSZ2.out ?_; intro v3 w3 hw3 hg3; have hgW := grow_two HG2.out hg3 (fun k hk => (HW2.out.lt k hk).1); obtain ⟨a3, c3, rfl⟩ := rowF_slice hw3; have hb3 := (hgW.block r hlr (by simp)).trans HH.out.obj; have e3 : w3.cell? ⟨r, 0, none⟩ = _ := cell_of_block hb3 0; have f3 := free_of_block hb3 0; simp only [List.getElem?_toArray, List.getElem?_cons_zero] at e3; have HW3 := Lib.hid hw3; have HGW := Lib.hid hgW; clear hw3 hg3 hgW hb3 c2)
              | (at_builtin; refine wpList_append_files rfl _ _ rfl W.heap.size v1 _ (0 + k) 1 ([] ++ (cellsF ((vs.drop 0).take k))) [.string p, .slice none 0 0] rfl rfl (alloc_file HG1.out HW1.out p).1 (alloc_file HG1.out HW1.out p).2.1 rfl (one_file p) (by omega) (alloc_file HG1.out HW1.out p).2.2.size ?_; intro v2 w2 hw2 hg2; have hg2' := grow_two (alloc_file HG1.out HW1.out p).2.2 hg2 (fun k hk => (HW1.out.lt k hk).1); have hb2 := (hg2'.block r hlr (by simp)).trans HH.out.obj; have c2 : w2.cell? ⟨r, 0, none⟩ = some (.slice (some ⟨g, 0, none⟩) fs.length cap) := (by rw [cell_of_block hb2]; rfl); have HG2 := Lib.hid hg2'; have HW2 := Lib.hid hw2; have HSZ2 := Lib.hid hg2'.size; clear hw2 hg2 hg2' hb2 c1)
              | (at_builtin; refine wpList_append_files rfl _ _ rfl W.heap.size _ _ 0 k [] ((cellsF ((vs.drop 0).take k))) rfl rfl (World.ownsRow_nil _ _ _ _) HS1.out HL1.out (one_take H1C.out 0 _) (by omega) (Nat.le_refl _) ?_; intro v1 w1 hw1 hg1; have hg1' : W.grownBy w1 none := hg1; have hb1 := (hg1'.block r hlr (by simp)).trans HH.out.obj; have c1 : w1.cell? ⟨r, 0, none⟩ = some (.slice (some ⟨g, 0, none⟩) fs.length cap) := (by rw [cell_of_block hb1]; rfl); have HG1 := Lib.hid hg1'; have HW1 := Lib.hid hw1; clear hw1 hg1 hg1' c0 hb1))
            go_meet
            exact FIN.out _ _ (by have h := HW3.out; simp only [Nat.zero_add, Nat.add_zero] at h ⊢; exact h) HGW.out

    | some k =>
      have evi : vi = (k : Int) := by rw [HVI.out, hfi]; rfl
      have HK := Lib.hid hfi
      clear hfi HVI
      subst evi
      have hk0 : ¬ ((k : Int) < 0) := by omega
      go_wp2
      go_meet
      obtain ⟨d, hd, ha⟩ := findI_some HK.out
      obtain ⟨g, u, rfl, -, -, -, -, -⟩ := HFO.out _ _ hd
      exact ⟨g, _, cap, k, s, vs, fs, d, rfl, HH.out.mono (fun j _ hj => .inl hj) (fun e => e.elim HH.out.far (fun e => by omega)), hd, fun b _ => sorts_set HH.out.sorts hd, ⟨rfl, rfl, rfl, rfl, rfl⟩, by omega, Turns.of_below (Below.refl _ _), .inr rfl⟩
  case rest =>
    obtain ⟨g, n, cap2, k, s2, vs2, fs2, d, e, h2, hk2, hs2, es2, hl2, t2, hg2⟩ := hcut
    subst e
    have hb2 : Bytes F wc (.slice ab b.size cb) b := Bytes.kept HB.out t2 fun k hk e => hF (e ▸ hk)
    obtain ⟨q0, -, -, -, -, -, -⟩ := h2.cells
    obtain ⟨a', cap', e', hfo'⟩ := h2.form
    cases e'
    obtain ⟨g', u, e', hvs, x0, x1, xf, hu⟩ := hfo' k _ hk2
    cases e'
    have hkl : k < fs2.length := (List.getElem?_eq_some_iff.1 hk2).1
    have hrg : r ≠ g := fun e => (h2.rowG g rfl).2 e.symm
    have HC := Lib.hid (And.intro h2 (And.intro hk2 (And.intro hs2 (And.intro es2 (And.intro t2 (And.intro hg2 hvs))))))
    have HB2 := Lib.hid hb2
    clear hfo' h2 hk2 hs2 es2 t2 hg2 hvs hb2 hu x0 hf
    go_upto_region 9 with fail
    go_region_held3 (fun w' => w'.cell? ⟨r, 0, none⟩ = some (.slice (some ⟨g, 0, none⟩) fs2.length cap2)) (first | assumption | exact y9 _ | go_keep)
      (first | (refine step_append_bytes (by rfl) _ _ (by rfl) wc.heap.size (.slice none 0 0) (.slice ab b.size cb) 0 ByteArray.empty b F (by rfl) (by rfl) (World.ownsRow_nil _ _ _ _) HB2.out (by omega) (Nat.le_refl _) ?_; intro v5 w5 h5 g5; obtain ⟨a5, c5, rfl⟩ := rowF_slice h5; have g5' : wc.grownBy w5 none := ⟨g5.os, g5.tape, g5.output, g5.size, fun k hk hn => g5.block k hk hn⟩; have y9 : ∀ x, (w5.setCell ⟨g, k * 2 + 1, none⟩ x).cell? ⟨r, 0, none⟩ = some (.slice (some ⟨g, 0, none⟩) fs2.length cap2) := (fun x => by rw [cell_of_block ((get_other _ _ _ hrg).trans ((g5'.block r (lt_of_block HC.out.1.obj) (by simp)).trans HC.out.1.obj))]; rfl); have y0 := g5'.cell q0 (by simp); have y1 := g5'.cell x1 (by simp); obtain ⟨cu, hcu⟩ := HC.out.1.rowB rfl; have yf := free_of_block ((g5'.block g (lt_of_block hcu) (by simp)).trans hcu) (k * 2 + 1); clear hcu; have H5 := Lib.hid (And.intro h5 g5'); clear g5 g5' h5))
    go_end0
    obtain ⟨h2, hk2, hs2, es2, t2, hg2, hvs⟩ := HC.out
    obtain ⟨h5, g5⟩ := H5.out
    have h5' : w5.ownsRow wc.heap.size 5 1 (.slice a5 b.size c5) b.size (byteCells b) := by
      have : ByteArray.empty ++ b = b := by simp
      rw [this] at h5
      simpa using h5
    have q := h2.setData rfl hk2 g5 h5' (Nat.lt_of_lt_of_le hml t2.size)
    refine ⟨rfl, ⟨_, _, _, (q.state (hs2 b hk2) es2.1.symm es2.2.1.symm es2.2.2.1.symm es2.2.2.2.1.symm es2.2.2.2.2.symm).mono (fun j _ hj => Grow.twice t2.size hj) fun e => e.elim HH.out.far (fun e => by omega)⟩, ?_⟩
    refine ⟨g5.os.trans t2.os, g5.tape.trans t2.tape, g5.output.trans t2.output, Nat.le_trans t2.size (by simpa using g5.size), fun j hj hn => ?_⟩
    have hjg : j ≠ g := fun e => hg2.elim (fun e' => by omega) fun e' => hn (.inr (by rw [e, e']))
    exact (get_other _ _ _ hjg).trans ((g5.block j (Nat.lt_of_lt_of_le hj t2.size) (by simp)).trans (t2.block j hj fun e => hn (.inl e)))
end
end Go.Proofs.YthchfkjdbfhnhaaGreatDoor
