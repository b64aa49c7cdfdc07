/- Lines' bytes: Format. -/
import Derived.Test.YtofkdmmoheffbaaGreatDoorHistC
import Derived.Test.YtofkdmmoheffbaaGreatDoorByA
import Derived.Lib.AppendStr
import Derived.Lib.ItoaLen
import Derived.Lib.LaidTab
import Derived.Deep.DeepCutAuto
namespace Go.Proofs.YtofkdmmoheffbaaGreatDoor
open Go Go.RowKit Go.Shelf Go.Lany
set_option maxRecDepth 100000
def u8s (L : List UInt8) : List Value := L.map fun b => Value.int .u8 (b.toNat : Int)
theorem u8s_append (a b : List UInt8) : u8s (a ++ b) = u8s a ++ u8s b := by simp [u8s]
theorem u8s_str (s : ByteArray) : Lib.strCells s = u8s s.data.toList := rfl
theorem u8s_bytes (s : ByteArray) : byteCells s = u8s s.data.toList := rfl
def fmtOne (t : Bool) (x : HL) : List UInt8 := (if (t && decide (0 < x.2)) = true then 35 :: (Lib.itoa x.2 ++ [10]) else []) ++ (x.1.data.toList ++ [10])
def formatL (t : Bool) (l : List HL) : List UInt8 := l.flatMap (fmtOne t)
theorem formatL_snoc (t : Bool) (l : List HL) (x : HL) : formatL t (l ++ [x]) = formatL t l ++ fmtOne t x := by simp [formatL]
def wt (l : List HL) : Nat := (l.map fun x => x.1.size + 24).sum
theorem wt_cons (x : HL) (l : List HL) : wt (x :: l) = x.1.size + 24 + wt l := rfl
theorem wt_append (l r : List HL) : wt (l ++ r) = wt l + wt r := by simp [wt]
theorem fmtOne_len {t : Bool} {x : HL} (h : 0 ≤ x.2 ∧ x.2 ≤ 999999999999) : (fmtOne t x).length ≤ x.1.size + 24 := by
  have := Lib.itoa_length_le x.2 (by omega) (by omega)
  have e : x.1.data.toList.length = x.1.size := by simp
  unfold fmtOne
  split <;> simp <;> omega
theorem badLine_time {x : HL} (h : badLine x = 0) : 0 ≤ x.2 ∧ x.2 ≤ 999999999999 := by
  unfold badLine at h
  split at h
  · cases h
  · split at h
    · cases h
    · omega
theorem formatL_len {t : Bool} {l : List HL} (h : ∀ x ∈ l, badLine x = 0) : (formatL t l).length ≤ wt l := by
  induction l with
  | nil => simp [formatL, wt]
  | cons x l ih =>
    have h1 := fmtOne_len (t := t) (badLine_time (h x (List.mem_cons_self ..)))
    have h2 := ih fun y hy => h y (List.mem_cons_of_mem _ hy)
    rw [wt_cons, show formatL t (x :: l) = fmtOne t x ++ formatL t l from rfl, List.length_append]
    omega
theorem take_succ_of {l : List HL} {k : Nat} {x : HL} (h : l[k]? = some x) : l.take (k + 1) = l.take k ++ [x] := by rw [List.take_add_one, h]; rfl
def OwnU8 (base : Nat) (w : World) (v : Value) (L : List UInt8) : Prop := w.ownsRow base 5 1 v L.length (u8s L)
def Pow (w : World) : Prop := Lib.TabIs Tryz.prog w "internal/strconv.uint64pow10" .u64 Lib.pow10Tab
theorem Pow.below {w w' : World} (h : Pow w) (t : Below w.heap.size w w') : Pow w' := by
  unfold Pow Lib.TabIs World.var? at *
  rw [show Tryz.prog.globalNamed "internal/strconv.uint64pow10" = some 0 by kernel_rfl] at *
  simp only [Option.bind_some] at *
  cases hb : w.heap[0]? with
  | none => rw [hb] at h; cases h
  | some o => rw [t.block _ (lt_of_block hb), hb]; rw [hb] at h; exact h
theorem wpList_append_str {w : World} {ops : Array Oper} {rest : List Oper} {o : Oper} {a : Act} {Q : Exit → Act → World → Prop} (hgd : o.guard = none) (sl x : Operand)
    (ho : o.op = .call { callee := .builtin .append, args := #[sl, x], argTypes := #[37, 9] }) (base : Nat) (v : Value) (L : List UInt8) (str : ByteArray) (hs : a.eval sl = v) (hx : a.eval x = .string str)
    (hown : OwnU8 base w v L) (hl : L.length + str.size ≤ 140737488355328) (hbase : base ≤ w.heap.size)
    (h : ∀ v' w', OwnU8 base w' v' (L ++ str.data.toList) → w.grownBy w' v.ownBlock → wpList Tryz.prog ops Q rest (a.put o.dst v') w') : wpList Tryz.prog ops Q (o :: rest) a w := by
  obtain ⟨i0, hi, hz0, hz1, hz2⟩ := info_parts info8
  refine Lib.wpList_append_own_string w hgd sl x _ _ ho base 5 i0 (by kernel_rfl) (by kernel_rfl) hi hz0 hz1 hz2 v L.length (u8s L) hs hown str hx (by unfold maxLen; omega) hl hbase ?_
  intro v' w' h1 h2 _
  refine h v' w' ?_ h2
  unfold OwnU8
  rw [List.length_append, u8s_append, ← u8s_str, show str.data.toList.length = str.size by simp]
  exact h1
theorem OwnU8.alloc {base : Nat} {w : World} {v : Value} {L : List UInt8} (h : OwnU8 base w v L) (o : Obj) : OwnU8 base (w.alloc o) v L := World.ownsRow.alloc h o
theorem OwnU8.below {base : Nat} {w w' : World} {v : Value} {L : List UInt8} (h : OwnU8 base w v L) (t : Below w.heap.size w w') : OwnU8 base w' v L := by
  refine ⟨h.1, h.2.imp id ?_⟩
  rintro ⟨g, cap, cur, e, hg, hh, r⟩
  exact ⟨g, cap, cur, e, hg, (t.block g (lt_of_block hh)).trans hh, r⟩
theorem OwnU8.own {base : Nat} {w : World} {v : Value} {L : List UInt8} (h : OwnU8 base w v L) : ∀ k, v.ownBlock = some k → base ≤ k ∧ k < w.heap.size := by
  intro k hk
  rcases h.2 with ⟨rfl, -⟩ | ⟨g, cap, cur, rfl, hg, hh, r⟩
  · cases hk
  · cases hk
    exact ⟨hg, lt_of_block hh⟩
theorem OwnU8.form {base : Nat} {w : World} {v : Value} {L : List UInt8} (h : OwnU8 base w v L) : ∃ a c, v = .slice a L.length c := by
  rcases h.2 with ⟨rfl, h0⟩ | ⟨g, cap, cur, rfl, hg, hh, r⟩
  · rw [h0]; exact ⟨_, _, rfl⟩
  · exact ⟨_, _, rfl⟩
theorem below_alloc_size {w w' : World} {o : Obj} (h : Below (w.alloc o).heap.size (w.alloc o) w') : w.heap.size + 1 ≤ w'.heap.size := by
  have := h.size
  rwa [size_alloc] at this
theorem app_len (L : List UInt8) (s : ByteArray) : (L ++ s.data.toList).length ≤ L.length + s.size := by simp
def FmtPost (t : Bool) (l : List HL) (w : World) (e : Ending) (w' : World) : Prop :=
  ∃ v, e = .returned (.tuple #[v, .int .i64 (checkE l)]) ∧ Below w.heap.size w w' ∧ (checkE l = 0 → OwnU8 w.heap.size w' v (formatL t l)) ∧ (checkE l ≠ 0 → v = .slice none 0 0)
theorem fmt_world {w w' : World} (h : ∃ k os, w' = Sort.grow (w.drewN k) os) : Below w.heap.size w w' := by
  obtain ⟨k, os, rfl⟩ := h
  exact ⟨rfl, rfl, rfl, by simp [Sort.grow], fun i hi => by
    show ((w.drewN k).heap ++ os)[i]? = _
    rw [Array.getElem?_append_left (by show i < w.heap.size; omega)]
    rfl⟩
theorem itoa_at (n : Int) (h : -9223372036854775808 ≤ n ∧ n ≤ 9223372036854775807) (w : World) (hp : Pow w) : Calls Tryz.prog 50 #[.int .i64 n, .int .i64 10] w fun e w' => e = .returned (.string ⟨(Lib.itoa n).toArray⟩) ∧ Below w.heap.size w w' :=
  (Tryz.strconv_FormatInt_10 n h.1 h.2 w hp).mono fun _ _ ⟨h1, h2⟩ => ⟨h1, fmt_world h2⟩
set_option maxHeartbeats 4000000 in
theorem format_at {F : Nat → Prop} {w : World} {v : Value} {l : List HL} (t : Bool) (h : Lines F w v l) (hl : l.length ≤ 1048576) (hs : ∀ x ∈ l, x.1.size ≤ 1048576) (hw : wt l ≤ 1099511627776) (hev : EvS w) (hpow : Pow w) :
    Calls Tryz.prog 24 #[.bool t, v] w (FmtPost t l w) := by
  have hck := check_at h hl hs hev
  obtain ⟨a, cap, rfl, hcap, hf⟩ := h.form
  have HF := Lib.hid hf
  have HSZ := Lib.hid hs
  have HP := Lib.hid hpow
  clear h hf hev hs hpow
  by_cases h0 : checkE l = 0
  · have HOK := Lib.hid (checkE_zero h0)
    have HLN := Lib.hid (fun k => formatL_len (t := t) (l := l.take k) fun x hx => checkE_zero h0 x (List.mem_of_mem_take hx))
    rw [h0] at hck
    have H0 := Lib.hid h0
    clear h0
    go_enter Tryz.func24, Tryz.ntmps24
    go_wp2_with (go_at_call 49; refine hck.mono ?_; rintro e w1 ⟨rfl, hb1⟩)
    have HB1 := Lib.hid hb1
    clear hb1 hck
    go_loopw [7, 17] (fun vb i wr => ∃ k : Nat, k ≤ l.length ∧ i = .int .i64 k ∧ Below w.heap.size w wr ∧ OwnU8 w.heap.size wr vb (formatL t (l.take k))) (fun _ i _ => l.length - (intOf i).toNat)
    case atStart => exact ⟨0, Nat.zero_le _, rfl, HB1.out, World.ownsRow_nil _ _ _ _⟩
    case round =>
      obtain ⟨k, hk, rfl, hb, hown⟩ := hrel
      have HB := Lib.hid hb
      have HOWN := Lib.hid hown
      clear hown
      by_cases hlt : k < l.length
      · obtain ⟨x, hx⟩ : ∃ x, l[k]? = some x := ⟨_, List.getElem?_eq_getElem hlt⟩
        obtain ⟨b, off, rfl, -, h1, h2⟩ := HF.out k x hx
        have c1 : wr.cell? ⟨b, off + k * 2, none⟩ = some (.string x.1) := by rw [hb.cell (World.block_lt_of_cell? _ _ h1), h1]
        have c2 : wr.cell? ⟨b, off + k * 2 + 1, none⟩ = some (.int .i64 x.2) := by rw [hb.cell (World.block_lt_of_cell? _ _ h2), h2]
        have hxs := HSZ.out x (List.mem_of_getElem? hx)
        have htm := badLine_time (HOK.out x (List.mem_of_getElem? hx))
        have ht0 := htm.1
        have ht1 := htm.2
        have hln := HLN.out k
        have hln1 := HLN.out (k + 1)
        have hw1 : wt (l.take k) ≤ wt l := by
          have := wt_append (l.take k) (l.drop k)
          rw [List.take_append_drop] at this
          omega
        have hw2 : wt (l.take (k + 1)) ≤ wt l := by
          have := wt_append (l.take (k + 1)) (l.drop (k + 1))
          rw [List.take_append_drop] at this
          omega
        have HTS := Lib.hid (formatL_snoc t (l.take k) x)
        rw [← take_succ_of hx] at HTS
        have HX := Lib.hid hx
        have hpw := (HP.out.below hb).below ((Below.refl _ _).alloc (Nat.le_refl _) (.cells #[.string x.1, .int .i64 x.2] 29))
        have n1 : (wr.alloc (.cells #[.string x.1, .int .i64 x.2] 29)).cell? ⟨wr.heap.size, 0, none⟩ = some (.string x.1) := by go_simp
        have HN1 := Lib.hid n1
        have HPW := Lib.hid hpw
        clear hx h1 h2 hb htm n1 hpw
        obtain ⟨L, hL⟩ : ∃ L, L = formatL t (l.take k) := ⟨_, rfl⟩
        rw [← hL] at HOWN hln
        have HL := Lib.hid hL
        obtain ⟨av, cv, rfl⟩ := HOWN.out.form
        clear hL
        have hix := Lib.itoa_length_le x.2 (by omega) (by omega)
        have hbz := HB.out.size
        have hit := itoa_at x.2 ⟨by omega, by omega⟩ _ HPW.out
        have HOW2 := Lib.hid (HOWN.out.alloc (.cells #[.string x.1, .int .i64 x.2] 29))
        have hz1 : (x.1 ++ ⟨#[10]⟩ : ByteArray).size ≤ x.1.size + 1 := by simp; exact Nat.le_refl _
        have hz2 : ((⟨#[35]⟩ : ByteArray) ++ ⟨(Lib.itoa x.2).toArray⟩ ++ ⟨#[10]⟩ : ByteArray).size ≤ 23 := by
          simp
          show 1 + (Lib.itoa x.2).toArray.size + 1 ≤ 23
          simp
          omega
        by_cases ht : t = true ∧ 0 < x.2
        · obtain ⟨rfl, ht⟩ := ht
          have HSTEP : Hid (formatL true (l.take (k + 1)) = (L ++ ((⟨#[35]⟩ : ByteArray) ++ ⟨(Lib.itoa x.2).toArray⟩ ++ ⟨#[10]⟩ : ByteArray).data.toList) ++ (x.1 ++ ⟨#[10]⟩ : ByteArray).data.toList) := Lib.hid (by
            rw [HTS.out, ← HL.out]
            unfold fmtOne
            rw [if_pos (by simp [ht])]
            simp)
          obtain ⟨L2, hL2⟩ : ∃ L2, L2 = L ++ ((⟨#[35]⟩ : ByteArray) ++ ⟨(Lib.itoa x.2).toArray⟩ ++ ⟨#[10]⟩ : ByteArray).data.toList := ⟨_, rfl⟩
          have hl2 : L2.length ≤ L.length + 23 := by rw [hL2]; exact Nat.le_trans (app_len _ _) (by omega)
          have HSTEP2 : Hid (formatL true (l.take (k + 1)) = L2 ++ (x.1 ++ ⟨#[10]⟩ : ByteArray).data.toList) := Lib.hid (by rw [HSTEP.out, hL2])
          have HL2 := Lib.hid hL2
          clear hL2 HSTEP
          have hn0 : ∀ k, (Value.slice av L.length cv).ownBlock = some k → k < wr.heap.size := fun k hk => (HOWN.out.own k hk).2
          have HN0 := Lib.hid hn0
          clear hn0
          go_wp2_with (first
            | (at_builtin; refine wpList_append_str rfl (.tmp 34) (.tmp 37) rfl w.heap.size (.slice a3 L2.length c3) L2 (x.1 ++ ⟨#[10]⟩) rfl rfl HO4.out (by omega) (by omega) ?_; intro v5 w5 ho5 hg5)
            | (at_builtin; refine wpList_append_str rfl (.tmp 27) (.tmp 32) rfl w.heap.size (.slice av L.length cv) L ((⟨#[35]⟩ : ByteArray) ++ ⟨(Lib.itoa x.2).toArray⟩ ++ ⟨#[10]⟩) rfl rfl HOW3.out (by omega) (by omega) ?_; go_must (intro v4 w4 ho4 hg4; rw [← HL2.out] at ho4; obtain ⟨a3, c3, rfl⟩ := ho4.form; have HO4 := Lib.hid ho4; have hs4 := hg4.size; have m4 : w4.cell? ⟨wr.heap.size, 0, none⟩ = some (.string x.1) := (World.cell?_of_block (hg4.block wr.heap.size (by omega) fun e => absurd (HN0.out _ e.symm) (Nat.lt_irrefl _))).trans m3; have HG4 := Lib.hid hg4; clear ho4 hg4))
            | (go_at_call 50; go_must (refine hit.mono ?_; rintro e w3 ⟨rfl, hb3⟩; have HOW3 := Lib.hid (HOW2.out.below hb3); have m3 := (hb3.cell (World.block_lt_of_cell? _ _ HN1.out)).trans HN1.out; have hs3 := below_alloc_size hb3; have HB3 := Lib.hid hb3; clear hb3)))
          refine ⟨⟨k + 1, by omega, by go_num, ?_, ?_⟩, by simp [intOf]; omega⟩
          · have hb3 : Below w.heap.size w w3 := (HB.out.alloc (by omega) _).trans (HB3.out.mono (by simp; omega))
            have hb4 : Below w.heap.size w w4 := hb3.grown HG4.out (by omega) fun k hk => (HOWN.out.own k hk).1
            exact hb4.grown hg5 (by omega) fun k hk => (HO4.out.own k hk).1
          · rw [HSTEP2.out]; exact ho5
        · have HSTEP : Hid (formatL t (l.take (k + 1)) = L ++ (x.1 ++ ⟨#[10]⟩ : ByteArray).data.toList) := Lib.hid (by
            rw [HTS.out, ← HL.out]
            unfold fmtOne
            rw [if_neg (by simpa using ht)]
            simp)
          have ht' : t = false ∨ (t = true ∧ ¬ 0 < x.2) := by cases t <;> simp_all
          clear ht
          rcases ht' with rfl | ⟨rfl, ht⟩
          all_goals
            go_wp2_with (at_builtin; go_must (refine wpList_append_str rfl (.tmp 34) (.tmp 37) rfl w.heap.size (.slice av L.length cv) L (x.1 ++ ⟨#[10]⟩) rfl rfl HOW2.out (by omega) (by simp; omega) ?_); intro v2 w2 ho2 hg2)
            refine ⟨⟨k + 1, by omega, by go_num, ?_, ?_⟩, by simp [intOf]; omega⟩
            · exact (HB.out.alloc (by omega) _).grown hg2 (by simp; omega) fun k hk => (HOW2.out.own k hk).1
            · rw [HSTEP.out]; exact ho2
      · obtain rfl : k = l.length := by omega
        have H1 := HOWN.out
        rw [List.take_length] at H1
        go_wp2
        go_ret2
        rw [← H0.out]
        exact ⟨u7, rfl, hb, fun _ => H1, fun h => absurd H0.out h⟩
  · go_enter Tryz.func24, Tryz.ntmps24
    have hne : (checkE l != 0) = true := bne_iff_ne.2 h0
    go_wp2_with (go_at_call 49; refine hck.mono ?_; rintro e w1 ⟨rfl, hb1⟩)
    go_ret2
    exact ⟨_, rfl, hb1, fun h => absurd h h0, fun _ => rfl⟩
end Go.Proofs.YtofkdmmoheffbaaGreatDoor
