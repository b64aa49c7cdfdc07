/- Lines' bytes: the document's Format. -/
import Derived.Test.YtofkdmmoheffbaaGreatDoorHistT
import Derived.Deep.RegionHeld3
import Derived.Deep.RegionLaw
namespace Go.Proofs.YtofkdmmoheffbaaGreatDoor
open Go Go.RowKit Go.Shelf Go.Lany
set_option maxRecDepth 100000
theorem run_append_u8 {w : World} {base : Nat} {ty : TypeId} {v x : Value} {L : List UInt8} {q : ByteArray} {G : Nat → Prop} (hown : OwnU8 base w v L) (hx : Bytes G w x q) (hl : L.length + q.size ≤ 140737488355328) (hbase : base ≤ w.heap.size) :
    ∃ v' w', (Builtin.append_ #[37, 37] ty #[v, x]).run Tryz.prog w = .ok v' w' ∧ OwnU8 base w' v' (L ++ q.data.toList) ∧ w.grownBy w' v.ownBlock := by
  have h0 : w.ownsRow base 5 1 v L.length (byteCells (bs L)) := hown
  obtain ⟨v', w', h1, h2, h3⟩ := run_append_bytes (w := w) base ty h0 hx hl hbase
  refine ⟨v', w', h1, ?_, h3⟩
  unfold OwnU8
  rw [List.length_append, show q.data.toList.length = q.size by simp]
  rw [bc_append] at h2
  rw [u8s_append]
  exact h2
theorem run_append_s8 {w : World} {base : Nat} {ty : TypeId} {v : Value} {L : List UInt8} {q : ByteArray} (hown : OwnU8 base w v L) (hl : L.length + q.size ≤ 140737488355328) (hbase : base ≤ w.heap.size) :
    ∃ v' w', (Builtin.append_ #[37, 9] ty #[v, .string q]).run Tryz.prog w = .ok v' w' ∧ OwnU8 base w' v' (L ++ q.data.toList) ∧ w.grownBy w' v.ownBlock := by
  obtain ⟨i0, hi, hz0, hz1, hz2⟩ := info_parts info8
  obtain ⟨v', w', h1, h2, h3, -⟩ := Lib.run_append_own_string (P := Tryz.prog) w base 37 9 ty 5 i0 (by kernel_rfl) (by kernel_rfl) hi hz0 hz1 hz2 v L.length (u8s L) hown q (by unfold maxLen; omega) hl hbase
  refine ⟨v', w', h1, ?_, h3⟩
  unfold OwnU8
  rw [List.length_append, u8s_append, ← u8s_str, show q.data.toList.length = q.size by simp]
  exact h2
theorem step_append_u8 {w : World} {ops : Array Oper} {o : Oper} {a : Act} {K : Act → World → Prop} {Q : Exit → Act → World → Prop} {E : Prop} (hgd : o.guard = none) (s x : Operand)
    (ho : o.op = .call { callee := .builtin .append, args := #[s, x], argTypes := #[37, 37] }) (base : Nat) (v y : Value) (L : List UInt8) (q : ByteArray) (G : Nat → Prop) (hs : a.eval s = v) (hx : a.eval x = y)
    (hown : OwnU8 base w v L) (hy : Bytes G w y q) (hl : L.length + q.size ≤ 140737488355328) (hbase : base ≤ w.heap.size)
    (h : ∀ v' w', OwnU8 base w' v' (L ++ q.data.toList) → w.grownBy w' v.ownBlock → K (a.put o.dst v') w') : if Region.wanted o (yielded ops a.tmps) = true then Oper.wp Tryz.prog o a w K Q else E := by
  have hw : Region.wanted o (yielded ops a.tmps) = true := by simp [Region.wanted, hgd]
  rw [if_pos hw]
  obtain ⟨v', w', h1, h2, h3⟩ := run_append_u8 (ty := o.type) hown hy hl hbase
  unfold Oper.wp
  simp [execOp, ho, resolve, invoke, builtin, hs, hx, h1, Result.andThen]
  exact h v' w' h2 h3
theorem step_append_s8 {w : World} {ops : Array Oper} {o : Oper} {a : Act} {K : Act → World → Prop} {Q : Exit → Act → World → Prop} {E : Prop} (hgd : o.guard = none) (s x : Operand)
    (ho : o.op = .call { callee := .builtin .append, args := #[s, x], argTypes := #[37, 9] }) (base : Nat) (v : Value) (L : List UInt8) (q : ByteArray) (hs : a.eval s = v) (hx : a.eval x = .string q)
    (hown : OwnU8 base w v L) (hl : L.length + q.size ≤ 140737488355328) (hbase : base ≤ w.heap.size)
    (h : ∀ v' w', OwnU8 base w' v' (L ++ q.data.toList) → w.grownBy w' v.ownBlock → K (a.put o.dst v') w') : if Region.wanted o (yielded ops a.tmps) = true then Oper.wp Tryz.prog o a w K Q else E := by
  have hw : Region.wanted o (yielded ops a.tmps) = true := by simp [Region.wanted, hgd]
  rw [if_pos hw]
  obtain ⟨v', w', h1, h2, h3⟩ := run_append_s8 (ty := o.type) hown hl hbase
  unfold Oper.wp
  simp [execOp, ho, resolve, invoke, builtin, hs, hx, h1, Result.andThen]
  exact h v' w' h2 h3
theorem wpList_append_u8 {w : World} {ops : Array Oper} {rest : List Oper} {o : Oper} {a : Act} {Q : Exit → Act → World → Prop} (hgd : o.guard = none) (s x : Operand)
    (ho : o.op = .call { callee := .builtin .append, args := #[s, x], argTypes := #[37, 37] }) (base : Nat) (v y : Value) (L : List UInt8) (q : ByteArray) (G : Nat → Prop) (hs : a.eval s = v) (hx : a.eval x = y)
    (hown : OwnU8 base w v L) (hy : Bytes G w y q) (hl : L.length + q.size ≤ 140737488355328) (hbase : base ≤ w.heap.size)
    (h : ∀ v' w', OwnU8 base w' v' (L ++ q.data.toList) → w.grownBy w' v.ownBlock → wpList Tryz.prog ops Q rest (a.put o.dst v') w') : wpList Tryz.prog ops Q (o :: rest) a w := by
  obtain ⟨v', w', h1, h2, h3⟩ := run_append_u8 (ty := o.type) hown hy hl hbase
  exact Lib.wpList_append_run w hgd s x _ _ ho v y hs hx v' w' h1 (h v' w' h2 h3)
theorem B1 {w X : World} {o : Obj} (h : Below w.heap.size w X) : Below w.heap.size w (X.alloc o) := h.alloc h.size o
theorem Bd {B : Nat} {w X : World} (h : Below B w X) : Below B w X.drew := h.drew
theorem OwnU8.drew {base : Nat} {w : World} {v : Value} {L : List UInt8} (h : OwnU8 base w v L) : OwnU8 base w.drew v L := h
theorem up_alloc {w : World} {k : Nat} {o o' : Obj} (h : w.heap[k]? = some o) : (w.alloc o').heap[k]? = some o := (get_alloc w o' (lt_of_block h)).trans h
theorem get_new1 (w : World) (o o' : Obj) : ((w.alloc o).alloc o').heap[w.heap.size + 1]? = some o' := by
  have := get_new (w.alloc o) o'
  rwa [size_alloc] at this
theorem _root_.Go.World.grownBy.keep {w w' : World} {row : Option Nat} (hg : w.grownBy w' row) {k : Nat} {o : Obj} (h : w.heap[k]? = some o) (hr : some k ≠ row) : w'.heap[k]? = some o := (hg.block k (lt_of_block h) hr).trans h
theorem below_keep {w w' : World} (hb : Below w.heap.size w w') {k : Nat} {o : Obj} (h : w.heap[k]? = some o) : w'.heap[k]? = some o := (hb.block k (lt_of_block h)).trans h
theorem own_ne_lit {base : Nat} {w : World} {v : Value} {L : List UInt8} (h : OwnU8 base w v L) {g : Nat} {c : UInt8} (hg : w.heap[g]? = some (.cells #[.int .u8 (c.toNat : Int)] 5 (0, 0))) (h1 : L ≠ []) (h2 : L ≠ [c]) : v.ownBlock ≠ some g := by
  intro e
  rcases h.2 with ⟨rfl, -⟩ | ⟨g', cap, cur, rfl, hB, hh, h3, h4, h5, h6⟩
  · cases e
  · cases e
    rw [hg] at hh
    cases hh
    have hl : 0 < L.length := List.length_pos_iff.2 h1
    simp at h5
    obtain ⟨x, hx⟩ : ∃ x, L = [x] := by
      rcases L with _ | ⟨x, _ | ⟨y, L⟩⟩
      · exact absurd rfl h1
      · exact ⟨x, rfl⟩
      · simp at h3; omega
    subst hx
    simp [u8s] at h6
    exact h2 (by rw [UInt8.toNat_inj.1 (by omega : c.toNat = x.toNat)])
theorem fmtOne_plain {t : Bool} {x : HL} (h : (t && decide (0 < x.2)) = false) : fmtOne t x = x.1.data.toList ++ [10] := by unfold fmtOne; rw [h]; rfl
def LitB (w : World) (v : Value) (c : UInt8) : Prop := ∃ g, v = .slice (some ⟨g, 0, none⟩) 1 1 ∧ w.heap[g]? = some (.cells #[.int .u8 (c.toNat : Int)] 5 (0, 0))
theorem LitB.bytes {w : World} {v : Value} {c : UInt8} (h : LitB w v c) : Bytes (fun _ => True) w v (bs [c]) := by
  obtain ⟨g, rfl, hg⟩ := h
  refine .inr ⟨g, 0, none, 1, Nat.le_refl _, rfl, .inr ⟨rfl, trivial, _, _, _, hg, fun i hi => ?_⟩⟩
  have hi' : i < 1 := hi
  obtain rfl : i = 0 := by omega
  rfl
set_option maxHeartbeats 4000000 in
theorem formatR_at {F : Nat → Prop} {w : World} {v : Value} {l : List HL} (t : Bool) (h : Lines F w v l) (hl : l.length ≤ 1048576) (hs : ∀ x ∈ l, x.1.size ≤ 1048576) (hw : wt l ≤ 1099511627776) (hpow : Pow w) :
    Calls Tryz.prog 64 #[.bool t, v] w (FmtPost t l w) := by
  have hck := checkR_at h hl hs
  obtain ⟨a, cap, rfl, hcap, hf⟩ := h.form
  have HF := Lib.hid hf
  have HSZ := Lib.hid hs
  have HP := Lib.hid hpow
  clear h hf hs hpow
  by_cases h0 : checkE l = 0
  · have HOK := Lib.hid (checkE_zero h0)
    have HLN := Lib.hid (fun k => formatL_len (t := t) (l := l.take k) fun x hx => checkE_zero h0 x (List.mem_of_mem_take hx))
    rw [h0] at hck
    have H0 := Lib.hid h0
    clear h0
    go_enter Tryz.func64, Tryz.ntmps64
    go_wp2_with (go_at_call 19; refine hck.mono ?_; rintro e w1 ⟨rfl, rfl⟩)
    clear hck
    go_loopw [7, 8] (fun vb i wr => ∃ k : Nat, k ≤ l.length ∧ i = .int .i64 k ∧ Below w.heap.size w wr ∧ OwnU8 w.heap.size wr vb (formatL t (l.take k))) (fun _ i _ => l.length - (intOf i).toNat)
    case atStart => exact ⟨0, Nat.zero_le _, rfl, Below.refl _ _, World.ownsRow_nil _ _ _ _⟩
    case round =>
      obtain ⟨k, hk, rfl, hb, hown⟩ := hrel
      have HB := Lib.hid hb
      have HOWN := Lib.hid hown
      clear hown
      by_cases hlt : k < l.length
      · obtain ⟨x, hx⟩ : ∃ x, l[k]? = some x := ⟨_, List.getElem?_eq_getElem hlt⟩
        obtain ⟨b, off, rfl, -, h1, h2⟩ := HF.out k x hx
        have c1 : wr.cell? ⟨b, off + k * 2, none⟩ = some (.string x.1) := by rw [hb.cell (World.block_lt_of_cell? _ _ h1), h1]
        have c2 : wr.cell? ⟨b, off + k * 2 + 1, none⟩ = some (.int .i64 x.2) := by rw [hb.cell (World.block_lt_of_cell? _ _ h2), h2]
        have C1 := Lib.hid h1
        have C2 := Lib.hid h2
        have hxs := HSZ.out x (List.mem_of_getElem? hx)
        have htm := badLine_time (HOK.out x (List.mem_of_getElem? hx))
        have ht0 := htm.1
        have ht1 := htm.2
        have hln := HLN.out k
        have hw1 : wt (l.take k) ≤ wt l := by
          have := wt_append (l.take k) (l.drop k)
          rw [List.take_append_drop] at this
          omega
        have HTS := Lib.hid (formatL_snoc t (l.take k) x)
        rw [← take_succ_of hx] at HTS
        clear hx h1 h2 hb htm
        obtain ⟨L, hL⟩ : ∃ L, L = formatL t (l.take k) := ⟨_, rfl⟩
        rw [← hL] at HOWN hln
        have HL := Lib.hid hL
        obtain ⟨av, cv, rfl⟩ := HOWN.out.form
        clear hL
        have hix := Lib.itoa_length_le x.2 (by omega) (by omega)
        have hbz := HB.out.size
        by_cases ht : t = true ∧ 0 < x.2
        · obtain ⟨rfl, ht⟩ := ht
          have k0 : 0 ≤ (k : Int) := by omega
          have k1 : (k : Int) < (l.length : Int) := by omega
          go_upto_region 9 with fail
          go_cut [7] (fun v7 wx => OwnU8 w.heap.size wx v7 (L ++ [35] ++ Lib.itoa x.2 ++ [10]) ∧ Below w.heap.size w wx)
          case first =>
            obtain ⟨L1, hL1⟩ : ∃ L1, L1 = L ++ (bs [35]).data.toList := ⟨_, rfl⟩
            obtain ⟨L2, hL2⟩ : ∃ L2, L2 = L1 ++ (bs (Lib.itoa x.2)).data.toList := ⟨_, rfl⟩
            obtain ⟨L3, hL3⟩ : ∃ L3, L3 = L2 ++ (bs [10]).data.toList := ⟨_, rfl⟩
            have l1 : L1.length ≤ L.length + 1 := by rw [hL1]; simp [bs_list]
            have l2 : L2.length ≤ L1.length + 21 := by rw [hL2, List.length_append, bs_list]; omega
            have HN1 : Hid (L1 ≠ []) := Lib.hid (by rw [hL1]; simp [bs_list])
            have HN2 : Hid (L1 ≠ [10]) := Lib.hid (by
              rw [hL1, bs_list]
              intro e
              have := congrArg List.getLast? e
              simp at this)
            have HFIN : Hid (L3 = L ++ [35] ++ Lib.itoa x.2 ++ [10]) := Lib.hid (by rw [hL3, hL2, hL1]; simp [bs_list])
            have HL1 := Lib.hid hL1
            have HL2 := Lib.hid hL2
            have HL3 := Lib.hid hL3
            have HRN : Hid (∀ k, (Value.slice av L.length cv).ownBlock = some k → w.heap.size ≤ k ∧ k < wr.heap.size) := Lib.hid HOWN.out.own
            clear hL1 hL2 hL3
            go_region_held3 (fun w' => w'.cell? ⟨b, off + k * 2 + 1, none⟩ = some (.int .i64 x.2)) (first | assumption | go_keep)
              (first
                | (refine step_append_u8 ?g (.tmp 29) (.tmp 30) ?ho w.heap.size (.slice av L.length cv) (.slice (some ⟨wr.heap.size, 0, none⟩) 1 1) L (bs [35]) (fun _ => True) ?hs ?hx ?ow ?li ?sz ?ba ?_; (case ho => with_reducible rfl); (case g => rfl); (case hs => rfl); (case hx => rfl); (case ow => exact (HOWN.out.alloc _).drew); (case li => exact (LitB.bytes ⟨_, rfl, get_new wr _⟩)); (case sz => rw [bs_size]; show _ + 1 ≤ _; omega); (case ba => exact (Bd (B1 HB.out)).size); intro v4 w4 h4 g4; rw [← HL1.out] at h4; have n4 := HRN.out; have q4 := Below.grown (Bd (B1 HB.out)) g4 (Bd (B1 HB.out)).size (fun k hk => (n4 k hk).1); obtain ⟨a4, c4, rfl⟩ := h4.form; have c2 := (q4.cell (World.block_lt_of_cell? _ _ C2.out)).trans C2.out; have O4 := Lib.hid h4; have Q4 := Lib.hid q4; clear h4 g4 q4 n4)
                | (refine step_append_u8 ?g (.tmp 29) (.tmp 30) ?ho w.heap.size (.slice av L.length cv) (.slice (some ⟨wr.heap.size + 1, 0, none⟩) 1 1) L (bs [35]) (fun _ => True) ?hs ?hx ?ow ?li ?sz ?ba ?_; (case ho => with_reducible rfl); (case g => rfl); (case hs => rfl); (case hx => rfl); (case ow => exact ((HOWN.out.alloc _).alloc _).drew); (case li => exact (LitB.bytes ⟨_, rfl, get_new1 wr _ _⟩)); (case sz => rw [bs_size]; show _ + 1 ≤ _; omega); (case ba => exact (Bd (B1 (B1 HB.out))).size); intro v4 w4 h4 g4; rw [← HL1.out] at h4; have n4 := HRN.out; have q4 := Below.grown (Bd (B1 (B1 HB.out))) g4 (Bd (B1 (B1 HB.out))).size (fun k hk => (n4 k hk).1); obtain ⟨a4, c4, rfl⟩ := h4.form; have c2 := (q4.cell (World.block_lt_of_cell? _ _ C2.out)).trans C2.out; have O4 := Lib.hid h4; have Q4 := Lib.hid q4; have KB := Lib.hid (g4.keep (up_alloc (get_new wr (.cells #[.int .u8 10] 5))) (fun e => absurd (n4 _ e.symm).2 (by omega))); clear h4 g4 q4 n4)
                | (refine step_append_u8 ?g (.tmp 29) (.tmp 30) ?ho w.heap.size (.slice av L.length cv) (.slice (some ⟨wr.heap.size, 0, none⟩) 1 1) L (bs [35]) (fun _ => True) ?hs ?hx ?ow ?li ?sz ?ba ?_; (case ho => with_reducible rfl); (case g => rfl); (case hs => rfl); (case hx => rfl); (case ow => exact ((HOWN.out.alloc _).alloc _).drew); (case li => exact (LitB.bytes ⟨_, rfl, up_alloc (get_new wr _)⟩)); (case sz => rw [bs_size]; show _ + 1 ≤ _; omega); (case ba => exact (Bd (B1 (B1 HB.out))).size); intro v4 w4 h4 g4; rw [← HL1.out] at h4; have n4 := HRN.out; have q4 := Below.grown (Bd (B1 (B1 HB.out))) g4 (Bd (B1 (B1 HB.out))).size (fun k hk => (n4 k hk).1); obtain ⟨a4, c4, rfl⟩ := h4.form; have c2 := (q4.cell (World.block_lt_of_cell? _ _ C2.out)).trans C2.out; have O4 := Lib.hid h4; have Q4 := Lib.hid q4; have KB := Lib.hid (g4.keep (get_new1 wr _ (.cells #[.int .u8 10] 5)) (fun e => absurd (n4 _ e.symm).2 (by omega))); clear h4 g4 q4 n4)
                | (go_at_call 50; refine (itoa_at x.2 ⟨by omega, by omega⟩ _ (HP.out.below (Q4.out))).mono ?_; rintro e w5 ⟨rfl, b5⟩; have q5 := (Q4.out).trans (b5.mono (Q4.out).size); have c2 := (q5.cell (World.block_lt_of_cell? _ _ C2.out)).trans C2.out; have O5 := Lib.hid (OwnU8.below (O4.out) b5); have Q5 := Lib.hid q5; have KC := Lib.hid (below_keep b5 (KB.out)); have HB5 := Lib.hid b5; clear b5 q5)
                | (go_at_call 50; refine (itoa_at x.2 ⟨by omega, by omega⟩ _ (HP.out.below (Q4.out))).mono ?_; rintro e w5 ⟨rfl, b5⟩; have q5 := (Q4.out).trans (b5.mono (Q4.out).size); have c2 := (q5.cell (World.block_lt_of_cell? _ _ C2.out)).trans C2.out; have O5 := Lib.hid (OwnU8.below (O4.out) b5); have Q5 := Lib.hid q5; have HB5 := Lib.hid b5; clear b5 q5)
                | (go_at_call 50; refine (itoa_at x.2 ⟨by omega, by omega⟩ _ (HP.out.below (B1 Q4.out))).mono ?_; rintro e w5 ⟨rfl, b5⟩; have q5 := (B1 Q4.out).trans (b5.mono (B1 Q4.out).size); have c2 := (q5.cell (World.block_lt_of_cell? _ _ C2.out)).trans C2.out; have O5 := Lib.hid (OwnU8.below (O4.out.alloc _) b5); have Q5 := Lib.hid q5; have KC := Lib.hid (below_keep b5 (get_new w4 (.cells #[.int .u8 10] 5))); have HB5 := Lib.hid b5; clear b5 q5)
                | (refine step_append_s8 ?g (.tmp 31) (.tmp 37) ?ho w.heap.size (.slice a4 L1.length c4) L1 (bs (Lib.itoa x.2)) ?hs ?hx ?ow ?sz ?ba ?_; (case ho => with_reducible rfl); (case g => rfl); (case hs => rfl); (case hx => rfl); (case ow => exact O5.out); (case sz => rw [bs_size]; omega); (case ba => exact (Q5.out).size); intro v6 w6 h6 g6; rw [← HL2.out] at h6; have q6 := Below.grown (Q5.out) g6 (Q5.out).size (fun k hk => (O5.out.own k hk).1); have c2 := (q6.cell (World.block_lt_of_cell? _ _ C2.out)).trans C2.out; obtain ⟨a6, c6, rfl⟩ := h6.form; have O6 := Lib.hid h6; have Q6 := Lib.hid q6; have KD := Lib.hid (g6.keep (KC.out) (fun e => own_ne_lit O5.out (KC.out) HN1.out HN2.out e.symm)); clear h6 g6 q6)
                | (refine step_append_s8 ?g (.tmp 31) (.tmp 37) ?ho w.heap.size (.slice a4 L1.length c4) L1 (bs (Lib.itoa x.2)) ?hs ?hx ?ow ?sz ?ba ?_; (case ho => with_reducible rfl); (case g => rfl); (case hs => rfl); (case hx => rfl); (case ow => exact O5.out); (case sz => rw [bs_size]; omega); (case ba => exact (Q5.out).size); intro v6 w6 h6 g6; rw [← HL2.out] at h6; have q6 := Below.grown (Q5.out) g6 (Q5.out).size (fun k hk => (O5.out.own k hk).1); have c2 := (q6.cell (World.block_lt_of_cell? _ _ C2.out)).trans C2.out; obtain ⟨a6, c6, rfl⟩ := h6.form; have O6 := Lib.hid h6; have Q6 := Lib.hid q6; clear h6 g6 q6)
                | (refine step_append_s8 ?g (.tmp 31) (.tmp 37) ?ho w.heap.size (.slice a4 L1.length c4) L1 (bs (Lib.itoa x.2)) ?hs ?hx ?ow ?sz ?ba ?_; (case ho => with_reducible rfl); (case g => rfl); (case hs => rfl); (case hx => rfl); (case ow => exact O5.out.alloc _); (case sz => rw [bs_size]; omega); (case ba => exact (B1 Q5.out).size); intro v6 w6 h6 g6; rw [← HL2.out] at h6; have q6 := Below.grown (B1 Q5.out) g6 (B1 Q5.out).size (fun k hk => (O5.out.own k hk).1); have c2 := (q6.cell (World.block_lt_of_cell? _ _ C2.out)).trans C2.out; obtain ⟨a6, c6, rfl⟩ := h6.form; have O6 := Lib.hid h6; have Q6 := Lib.hid q6; have KD := Lib.hid (g6.keep (get_new w5 (.cells #[.int .u8 10] 5)) (fun e => by have := (O5.out.own _ e.symm).2; omega)); clear h6 g6 q6)
                | (refine step_append_u8 ?g (.tmp 38) (.tmp 39) ?ho w.heap.size (.slice a6 L2.length c6) (.slice (some ⟨wr.heap.size, 0, none⟩) 1 1) L2 (bs [10]) (fun _ => True) ?hs ?hx ?ow ?li ?sz ?ba ?_; (case ho => with_reducible rfl); (case g => rfl); (case hs => rfl); (case hx => rfl); (case ow => exact O6.out); (case li => exact (LitB.bytes ⟨_, rfl, KD.out⟩)); (case sz => rw [bs_size]; show _ + 1 ≤ _; omega); (case ba => exact (Q6.out).size); intro v7 w7 h7 g7; rw [← HL3.out] at h7; have q7 := Below.grown (Q6.out) g7 (Q6.out).size (fun k hk => (O6.out.own k hk).1); have c2 := (q7.cell (World.block_lt_of_cell? _ _ C2.out)).trans C2.out; obtain ⟨a7, c7, rfl⟩ := h7.form; have O7 := Lib.hid h7; have Q7 := Lib.hid q7; clear h7 g7 q7)
                | (refine step_append_u8 ?g (.tmp 38) (.tmp 39) ?ho w.heap.size (.slice a6 L2.length c6) (.slice (some ⟨wr.heap.size + 1, 0, none⟩) 1 1) L2 (bs [10]) (fun _ => True) ?hs ?hx ?ow ?li ?sz ?ba ?_; (case ho => with_reducible rfl); (case g => rfl); (case hs => rfl); (case hx => rfl); (case ow => exact O6.out); (case li => exact (LitB.bytes ⟨_, rfl, KD.out⟩)); (case sz => rw [bs_size]; show _ + 1 ≤ _; omega); (case ba => exact (Q6.out).size); intro v7 w7 h7 g7; rw [← HL3.out] at h7; have q7 := Below.grown (Q6.out) g7 (Q6.out).size (fun k hk => (O6.out.own k hk).1); have c2 := (q7.cell (World.block_lt_of_cell? _ _ C2.out)).trans C2.out; obtain ⟨a7, c7, rfl⟩ := h7.form; have O7 := Lib.hid h7; have Q7 := Lib.hid q7; clear h7 g7 q7)
                | (refine step_append_u8 ?g (.tmp 38) (.tmp 39) ?ho w.heap.size (.slice a6 L2.length c6) (.slice (some ⟨w4.heap.size, 0, none⟩) 1 1) L2 (bs [10]) (fun _ => True) ?hs ?hx ?ow ?li ?sz ?ba ?_; (case ho => with_reducible rfl); (case g => rfl); (case hs => rfl); (case hx => rfl); (case ow => exact O6.out); (case li => exact (LitB.bytes ⟨_, rfl, KD.out⟩)); (case sz => rw [bs_size]; show _ + 1 ≤ _; omega); (case ba => exact (Q6.out).size); intro v7 w7 h7 g7; rw [← HL3.out] at h7; have q7 := Below.grown (Q6.out) g7 (Q6.out).size (fun k hk => (O6.out.own k hk).1); have c2 := (q7.cell (World.block_lt_of_cell? _ _ C2.out)).trans C2.out; obtain ⟨a7, c7, rfl⟩ := h7.form; have O7 := Lib.hid h7; have Q7 := Lib.hid q7; clear h7 g7 q7)
                | (refine step_append_u8 ?g (.tmp 38) (.tmp 39) ?ho w.heap.size (.slice a6 L2.length c6) (.slice (some ⟨w5.heap.size, 0, none⟩) 1 1) L2 (bs [10]) (fun _ => True) ?hs ?hx ?ow ?li ?sz ?ba ?_; (case ho => with_reducible rfl); (case g => rfl); (case hs => rfl); (case hx => rfl); (case ow => exact O6.out); (case li => exact (LitB.bytes ⟨_, rfl, KD.out⟩)); (case sz => rw [bs_size]; show _ + 1 ≤ _; omega); (case ba => exact (Q6.out).size); intro v7 w7 h7 g7; rw [← HL3.out] at h7; have q7 := Below.grown (Q6.out) g7 (Q6.out).size (fun k hk => (O6.out.own k hk).1); have c2 := (q7.cell (World.block_lt_of_cell? _ _ C2.out)).trans C2.out; obtain ⟨a7, c7, rfl⟩ := h7.form; have O7 := Lib.hid h7; have Q7 := Lib.hid q7; clear h7 g7 q7)
                | (refine step_append_u8 ?g (.tmp 38) (.tmp 39) ?ho w.heap.size (.slice a6 L2.length c6) (.slice (some ⟨w6.heap.size, 0, none⟩) 1 1) L2 (bs [10]) (fun _ => True) ?hs ?hx ?ow ?li ?sz ?ba ?_; (case ho => with_reducible rfl); (case g => rfl); (case hs => rfl); (case hx => rfl); (case ow => exact O6.out.alloc _); (case li => exact (LitB.bytes ⟨_, rfl, get_new w6 _⟩)); (case sz => rw [bs_size]; show _ + 1 ≤ _; omega); (case ba => exact (B1 Q6.out).size); intro v7 w7 h7 g7; rw [← HL3.out] at h7; have q7 := Below.grown (B1 Q6.out) g7 (B1 Q6.out).size (fun k hk => (O6.out.own k hk).1); have c2 := (q7.cell (World.block_lt_of_cell? _ _ C2.out)).trans C2.out; obtain ⟨a7, c7, rfl⟩ := h7.form; have O7 := Lib.hid h7; have Q7 := Lib.hid q7; clear h7 g7 q7))
            all_goals
              go_wp2
              go_meet
              refine ⟨?_, Q7.out⟩
              rw [← HFIN.out]
              exact O7.out
          case rest =>
            obtain ⟨h7, b7⟩ := hcut
            have c1 := (b7.cell (World.block_lt_of_cell? _ _ C1.out)).trans C1.out
            obtain ⟨L4, hL4⟩ : ∃ L4, L4 = L ++ [35] ++ Lib.itoa x.2 ++ [10] := ⟨_, rfl⟩
            have l4 : L4.length ≤ L.length + 23 := by rw [hL4]; simp; omega
            rw [← hL4] at h7
            have HL4 := Lib.hid hL4
            have HT : Hid ((true && decide (0 < x.2)) = true) := Lib.hid (by simp [ht])
            have H7 := Lib.hid h7
            have B7 := Lib.hid b7
            clear h7 b7 hL4 c2
            obtain ⟨i0, hi, hz0, hz1, hz2⟩ := info_parts info8
            have hxz : (x.1).data.toList.length = x.1.size := by simp
            obtain ⟨L5, hL5⟩ : ∃ L5, L5 = L4 ++ x.1.data.toList := ⟨_, rfl⟩
            have l5 : L5.length ≤ L4.length + x.1.size := by rw [hL5, List.length_append, hxz]; exact Nat.le_refl _
            have HL5 := Lib.hid hL5
            obtain ⟨a7, c7, rfl⟩ := H7.out.form
            have hws := B7.out.size
            clear hi hz0 hz1 hz2 hxz hL5 ht
            have k0 : 0 ≤ (k : Int) := by omega
            have k1 : (k : Int) < (l.length : Int) := by omega
            go_wp2_with (first
              | (at_builtin; refine wpList_append_u8 rfl (.tmp 47) (.tmp 48) rfl w.heap.size (.slice a8 L5.length c8) (.slice (some ⟨w8.heap.size, 0, none⟩) 1 1) L5 (bs [10]) (fun _ => True) rfl rfl (O8.out.alloc _) (LitB.bytes ⟨_, rfl, get_new w8 _⟩) (by rw [bs_size]; show _ + 1 ≤ _; omega) (B1 Q8.out).size ?_; intro v9 w9 h9 g9)
              | (at_builtin; refine wpList_append_str rfl (.tmp 41) (.tmp 46) rfl w.heap.size (.slice a7 L4.length c7) L4 x.1 rfl rfl H7.out (by omega) B7.out.size ?_; go_must (intro v8 w8 h8 g8; rw [← HL5.out] at h8; have q8 := Below.grown B7.out g8 B7.out.size (fun k hk => (H7.out.own k hk).1); obtain ⟨a8, c8, rfl⟩ := h8.form; have O8 := Lib.hid h8; have Q8 := Lib.hid q8; have hz8 := q8.size; clear h8 g8 q8)))
            refine ⟨⟨k + 1, by omega, by go_num, ?_, ?_⟩, by simp [intOf]; omega⟩
            · exact Below.grown (B1 Q8.out) g9 (B1 Q8.out).size fun k hk => (O8.out.own k hk).1
            · have e : formatL true (l.take (k + 1)) = L5 ++ (bs [10]).data.toList := by
                rw [HTS.out, ← HL.out, HL5.out, HL4.out]; unfold fmtOne; rw [if_pos HT.out]; simp [bs_list]
              rw [e]; exact h9
        · have ht' : t = false ∨ (t = true ∧ ¬ 0 < x.2) := by cases t <;> simp_all
          have HT : Hid ((t && decide (0 < x.2)) = false) := Lib.hid (by cases t <;> simp_all)
          clear ht
          rcases ht' with rfl | ⟨rfl, ht⟩
          all_goals
            have ht0 : True := trivial
            obtain ⟨i0, hi, hz0, hz1, hz2⟩ := info_parts info8
            have hxz : (x.1).data.toList.length = x.1.size := by simp
            obtain ⟨L5, hL5⟩ : ∃ L5, L5 = L ++ x.1.data.toList := ⟨_, rfl⟩
            have l5 : L5.length ≤ L.length + x.1.size := by rw [hL5, List.length_append, hxz]; exact Nat.le_refl _
            have HL5 := Lib.hid hL5
            have hws := HB.out.size
            clear hi hz0 hz1 hz2 hxz hL5
            have k0 : 0 ≤ (k : Int) := by omega
            have k1 : (k : Int) < (l.length : Int) := by omega
            go_wp2_with (first
              | (at_builtin; refine wpList_append_u8 rfl (.tmp 47) (.tmp 48) rfl w.heap.size (.slice a8 L5.length c8) (.slice (some ⟨w8.heap.size, 0, none⟩) 1 1) L5 (bs [10]) (fun _ => True) rfl rfl (O8.out.alloc _) (LitB.bytes ⟨_, rfl, get_new w8 _⟩) (by rw [bs_size]; show _ + 1 ≤ _; omega) (B1 Q8.out).size ?_; intro v9 w9 h9 g9)
              | (at_builtin; refine wpList_append_str rfl (.tmp 41) (.tmp 46) rfl w.heap.size (.slice av L.length cv) L x.1 rfl rfl HOWN.out (by omega) HB.out.size ?_; go_must (intro v8 w8 h8 g8; rw [← HL5.out] at h8; have q8 := Below.grown HB.out g8 HB.out.size (fun k hk => (HOWN.out.own k hk).1); obtain ⟨a8, c8, rfl⟩ := h8.form; have O8 := Lib.hid h8; have Q8 := Lib.hid q8; have hz8 := q8.size; clear h8 g8 q8)))
            refine ⟨⟨k + 1, by omega, by go_num, ?_, ?_⟩, by simp [intOf]; omega⟩
            · exact Below.grown (B1 Q8.out) g9 (B1 Q8.out).size fun k hk => (O8.out.own k hk).1
            · rw [HTS.out, ← HL.out, fmtOne_plain HT.out, ← List.append_assoc, ← HL5.out]
              exact h9
      · obtain rfl : k = l.length := by omega
        have H1 := HOWN.out
        rw [List.take_length] at H1
        go_wp2
        go_ret2
        rw [← H0.out]
        exact ⟨_, rfl, hb, fun _ => H1, fun h => absurd H0.out h⟩
  · go_enter Tryz.func64, Tryz.ntmps64
    have hne : (checkE l != 0) = true := bne_iff_ne.2 h0
    go_wp2_with (go_at_call 19; refine hck.mono ?_; rintro e w1 ⟨rfl, rfl⟩)
    go_ret2
    exact ⟨_, rfl, Below.refl _ _, fun h => absurd h h0, fun _ => rfl⟩
end Go.Proofs.YtofkdmmoheffbaaGreatDoor
