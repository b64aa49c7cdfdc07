/- Slices of bytes: append onto a slice of the call's own; slices.Clone, slices.Grow, slices.Concat at []byte. -/
import Derived.Test.YthchfkjdbfhnhaaDoorFsB
import Derived.Deep.AppendSrc
import Derived.Lib.SliceRun
import Derived.Laws.AppendOwnNone
import Derived.Lib.AppendZeros
import Derived.Deep.LoopGhost
namespace Go.Proofs.YthchfkjdbfhnhaaDoor
open Go Go.RowKit Go.Lany
set_option maxRecDepth 100000
theorem info8 : (Tryd.prog.info? 5).map (fun i => (i.zero, i.size, i.bytes)) = some (some (.int .u8 0), 1, 1) := by kernel_rfl
theorem bc_get {bs : ByteArray} {i : Nat} (h : i < bs.size) : (byteCells bs)[i]? = some (.int .u8 (bs[i].toNat : Int)) := by
  have h' : i < bs.data.size := h
  simp only [byteCells, List.getElem?_map, Array.getElem?_toList, Array.getElem?_eq_getElem h', Option.map_some]
  rfl
theorem bc_append (a b : ByteArray) : byteCells (a ++ b) = byteCells a ++ byteCells b := by simp [byteCells]
theorem bc_one {bs : ByteArray} : ∀ u ∈ byteCells bs, u.oneCell' = true := by
  intro u hu
  obtain ⟨x, _, rfl⟩ := List.mem_map.1 hu
  rfl
/-- What a call's own row of bytes reads as. -/
theorem bytes_of_row {w : World} {base : Nat} {v : Value} {n : Nat} {bs : ByteArray} (h : w.ownsRow base 5 1 v n (byteCells bs)) : Bytes (fun k => base ≤ k) w v bs := by
  obtain ⟨h1, h2⟩ := h
  rw [byteCells_length, Nat.mul_one] at h1
  subst h1
  rcases h2 with ⟨e, e'⟩ | ⟨g, cap, cur, e, hg, hh, h3, h4, h5, h6⟩
  · exact .inl ⟨e, e'⟩
  · refine .inr ⟨g, 0, none, cap, h3, e, .inr ⟨rfl, hg, cur, _, (0, 0), hh, fun i hi => ?_⟩⟩
    have := bc_get hi
    rw [← h6, List.getElem?_take, if_pos (by omega)] at this
    simpa using this
/-- 'append(dst, x...)', dst of the call's own. -/
theorem run_append_bytes {w : World} (base : Nat) (ty : TypeId) {v x : Value} {n : Nat} {a b : ByteArray} {G : Nat → Prop} (hown : w.ownsRow base 5 1 v n (byteCells a)) (hx : Bytes G w x b) (hs : n + b.size ≤ 140737488355328) (hbase : base ≤ w.heap.size) :
    ∃ v' w', (Builtin.append_ #[41, 41] ty #[v, x]).run Tryd.prog w = .ok v' w' ∧ w'.ownsRow base 5 1 v' (n + b.size) (byteCells (a ++ b)) ∧ w.grownBy w' v.ownBlock := by
  obtain ⟨i0, hi, hz0, hz1, hz2⟩ := info_parts info8
  rcases hx with ⟨rfl, h0⟩ | ⟨bl, off, sp, cap, hcap, rfl, hc⟩
  · have hr := run_append_owned_none (P := Tryd.prog) (w := w) base 41 ty 5 i0 1 (by kernel_rfl) hi v n (byteCells a) hown
    refine ⟨v, w, hr, ?_, ⟨rfl, rfl, rfl, Nat.le_refl _, fun _ _ _ => rfl⟩⟩
    have hb : byteCells b = [] := List.eq_nil_of_length_eq_zero (by rw [byteCells_length]; exact h0)
    rw [bc_append, hb, h0]; simpa using hown
  · obtain ⟨v', w', h1, h2, h3, _⟩ := run_append_own (P := Tryd.prog) w base 41 ty 5 i0 (.int .u8 0) 1 1 (by kernel_rfl) hi hz0 hz1 hz2 rfl (by decide) v n (byteCells a) hown ⟨bl, off, sp⟩ b.size cap (byteCells b) (by rw [byteCells_length, Nat.mul_one])
      (fun j u hu => by
        have hj : j < b.size := by have := (List.getElem?_eq_some_iff.1 hu).1; rwa [byteCells_length] at this
        rw [bc_get hj] at hu
        cases hu
        have := Bytes.cells (F := G) (w := w) (cap := cap) (.inr ⟨bl, off, sp, cap, hcap, rfl, hc⟩)
        rw [← this.2 j hj]) bc_one (by unfold maxLen; omega) (by omega) hbase
    exact ⟨v', w', h1, by rw [bc_append]; exact h2, h3⟩
theorem wpList_append_bytes {w : World} {ops : Array Oper} {rest : List Oper} {o : Oper} {a : Act} {Q : Exit → Act → World → Prop} (hgd : o.guard = none) (s x : Operand)
    (ho : o.op = .call { callee := .builtin .append, args := #[s, x], argTypes := #[41, 41] }) (base : Nat) (v y : Value) (n : Nat) (p q : ByteArray) (G : Nat → Prop) (hs : a.eval s = v) (hx : a.eval x = y)
    (hown : w.ownsRow base 5 1 v n (byteCells p)) (hy : Bytes G w y q) (hl : n + q.size ≤ 140737488355328) (hbase : base ≤ w.heap.size)
    (h : ∀ v' w', w'.ownsRow base 5 1 v' (n + q.size) (byteCells (p ++ q)) → w.grownBy w' v.ownBlock → wpList Tryd.prog ops Q rest (a.put o.dst v') w') : wpList Tryd.prog ops Q (o :: rest) a w := by
  obtain ⟨v', w', h1, h2, h3⟩ := run_append_bytes (w := w) base o.type hown hy hl hbase
  exact Lib.wpList_append_run w hgd s x _ _ ho v y hs hx v' w' h1 (h v' w' h2 h3)
/-- A call's answer is a slice of new memory that reads as bs. -/
def SlicePost (bs : ByteArray) (w : World) (e : Ending) (w' : World) : Prop := ∃ v, e = .returned v ∧ Bytes (fun k => w.heap.size ≤ k) w' v bs ∧ Below w.heap.size w w'
theorem bytes_nil (F : Nat → Prop) (w : World) : Bytes F w (.slice none 0 0) ByteArray.empty := .inl ⟨rfl, rfl⟩
/-- .. and it is the caller's own. -/
def RowPost (bs : ByteArray) (w : World) (e : Ending) (w' : World) : Prop := ∃ v, e = .returned v ∧ w'.ownsRow w.heap.size 5 1 v bs.size (byteCells bs) ∧ Below w.heap.size w w'
theorem row_base {w : World} {b b' : Nat} {v : Value} {n : Nat} {xs : List Value} (h : w.ownsRow b 5 1 v n xs) (hb : b' ≤ b) : w.ownsRow b' 5 1 v n xs :=
  ⟨h.1, h.2.imp id fun ⟨g, cap, cur, e, hg, r⟩ => ⟨g, cap, cur, e, Nat.le_trans hb hg, r⟩⟩
set_option maxHeartbeats 1000000 in
theorem clone_row {w : World} {v : Value} {bs : ByteArray} {G : Nat → Prop} (h : Bytes G w v bs) (hs : bs.size ≤ 140737488355328) : Calls Tryd.prog 45 #[v] w (RowPost bs w) := by
  rcases h with ⟨rfl, h0⟩ | ⟨b, off, sp, cap, hcap, rfl, hc⟩
  · have hq := Lib.run_eql_slice_nil (P := Tryd.prog) w 41 5 none 0 0 0 0 (by kernel_rfl)
    go_enter Tryd.func45, Tryd.ntmps45
    go_wp2
    go_ret
    exact ⟨_, rfl, ⟨by rw [byteCells_length, Nat.mul_one], .inl ⟨rfl, h0⟩⟩, Below.refl _ _⟩
  · have h : Bytes G w (.slice (some ⟨b, off, sp⟩) bs.size cap) bs := .inr ⟨b, off, sp, cap, hcap, rfl, hc⟩
    have hq := Lib.run_eql_slice_nil (P := Tryd.prog) w 41 5 (some ⟨b, off, sp⟩) bs.size cap 0 0 (by kernel_rfl)
    clear hc
    have hown : (w.alloc (.cells #[] 5)).ownsRow w.heap.size 5 1 (.slice (some ⟨w.heap.size, 0, none⟩) 0 0) 0 (byteCells ByteArray.empty) := World.ownsRow_made w #[] 0 (Nat.le_refl _) (by decide) rfl
    have hsrc : Bytes G (w.alloc (.cells #[] 5)) (.slice (some ⟨b, off, sp⟩) bs.size cap) bs := h.below ((Below.refl _ _).alloc (Nat.le_refl _) _)
    have HO := Lib.hid hown
    have HS := Lib.hid hsrc
    clear h hown hsrc
    go_enter Tryd.func45, Tryd.ntmps45
    go_wp2_with (at_builtin; refine wpList_append_bytes rfl _ _ rfl w.heap.size _ _ 0 ByteArray.empty bs G rfl rfl HO.out HS.out (by omega) (by simp) ?_; intro v' w' hown' hg')
    go_ret
    have hb : Below w.heap.size w w' := (((Below.refl _ _).alloc (Nat.le_refl _) _)).grown hg' (by simp) (fun k hk => by cases hk; exact Nat.le_refl _)
    refine ⟨v', rfl, ?_, hb⟩
    rwa [ByteArray.empty_append, Nat.zero_add] at hown'
theorem clone_any {w : World} {v : Value} {bs : ByteArray} {G : Nat → Prop} (h : Bytes G w v bs) (hs : bs.size ≤ 140737488355328) : Calls Tryd.prog 45 #[v] w (SlicePost bs w) :=
  (clone_row h hs).mono fun _ _ ⟨v, he, hr, hb⟩ => ⟨v, he, bytes_of_row hr, hb⟩
def GrowPost (w : World) (e : Ending) (w' : World) : Prop := ∃ v, e = .returned v ∧ w'.ownsRow w.heap.size 5 1 v 0 (byteCells ByteArray.empty) ∧ Below w.heap.size w w'
set_option maxHeartbeats 1000000 in
theorem grow_nil (w : World) (n : Nat) (hn : n ≤ 140737488355328) : Calls Tryd.prog 72 #[.slice none 0 0, .int .i64 n] w (GrowPost w) := by
  by_cases h0 : n = 0
  · subst h0
    go_enter Tryd.func72, Tryd.ntmps72
    go_wp2
    go_ret
    exact ⟨_, rfl, World.ownsRow_nil _ _ _ _, Below.refl _ _⟩
  · obtain ⟨i0, hi, hz0, hz1, hz2⟩ := info_parts info8
    have hr := Lib.run_append_nil_zeros (P := Tryd.prog) w 41 3 41 5 i0 (.int .u8 0) .i64 .i64 (by kernel_rfl) (by kernel_rfl) hi hz0 n (by omega) (by omega) (by omega) (by rw [hz2]; omega)
    have h1 : ¬ (n : Int) < 0 := by omega
    have h2 : 0 < (n : Int) := by omega
    have hge := grownCap_ge w n 0 5
    have hle := grownCap_le_maxLen w n 0 5 (by unfold maxLen; omega)
    have HR := Lib.hid hr
    clear hr h0
    go_enter Tryd.func72, Tryd.ntmps72
    go_wp2_with (at_builtin; refine Lib.wpList_append_run w rfl _ _ _ _ rfl _ _ rfl rfl _ _ HR.out ?_)
    go_ret
    refine ⟨_, rfl, ⟨rfl, .inr ⟨w.heap.size, grownCap w n 0 5, _, rfl, Nat.le_refl _, get_new w _, Nat.zero_le _, hle, ?_, by simp; rfl⟩⟩, ((Below.refl _ _).alloc (Nat.le_refl _) _).drew⟩
    simp only [Array.size_append, size_zeroCells]
    simp
    omega
/- slices.Concat -/
def cat : List ByteArray → ByteArray
  | [] => ByteArray.empty
  | b :: l => b ++ cat l
theorem cat_snoc (l : List ByteArray) (b : ByteArray) : cat (l ++ [b]) = cat l ++ b := by
  induction l with
  | nil => simp [cat]
  | cons x l ih => simp [cat, ih, ByteArray.append_assoc]
theorem cat_size (l : List ByteArray) : (cat l).size = (l.map (·.size)).sum := by
  induction l with
  | nil => rfl
  | cons x l ih => simp [cat, ih]
theorem take_next {α : Type} {l : List α} {k : Nat} {x : α} (h : l[k]? = some x) : l.take (k + 1) = l.take k ++ [x] := by
  rw [List.take_add_one, h]; rfl
theorem cat_take_le (l : List ByteArray) (k : Nat) : (cat (l.take k)).size ≤ (cat l).size := by
  have : cat l = cat (l.take k) ++ cat (l.drop k) := by
    induction l generalizing k with
    | nil => simp [cat]
    | cons x l ih => cases k with
      | zero => simp [cat]
      | succ k => simp only [List.take_succ_cons, List.drop_succ_cons, cat]; rw [ByteArray.append_assoc, ← ih k]
  rw [this]; simp
set_option maxHeartbeats 2000000 in
theorem concat_any {w : World} {G : Nat → Prop} (l : List ByteArray) (n b off cap : Nat) (hn : n = l.length) (hmax : n ≤ 1000000) (hl : (cat l).size ≤ 140737488355328)
    (hc : ∀ i x, l[i]? = some x → ∃ v, w.cell? ⟨b, off + i, none⟩ = some v ∧ Bytes G w v x) :
    Calls Tryd.prog 58 #[.slice (some ⟨b, off, none⟩) n cap] w (SlicePost (cat l) w) := by
  have HN := Lib.hid hn
  have HC := Lib.hid hc
  have HL := Lib.hid hl
  clear hn hc hl
  go_enter Tryd.func58, Tryd.ntmps58
  go_wp2
  go_loop [3, 5, 11] (fun z _ i => ∃ k : Nat, k ≤ n ∧ i = .int .i64 k ∧ z = .int .i64 ((cat (l.take k)).size : Nat)) (fun _ _ i => n - (intOf i).toNat)
  case atStart => exact ⟨0, Nat.zero_le _, rfl, rfl⟩
  case round =>
    obtain ⟨k, hk, rfl, rfl⟩ := hrel
    by_cases hlt : k < n
    · obtain ⟨x, hx⟩ : ∃ x, l[k]? = some x := ⟨_, List.getElem?_eq_getElem (by rw [← HN.out]; exact hlt)⟩
      obtain ⟨v, hcell, hv⟩ := HC.out k x hx
      obtain ⟨a, c, rfl⟩ := hv.len
      have ht := cat_take_le l (k + 1)
      rw [take_next hx, cat_snoc] at ht
      have hsz : (cat (l.take k)).size + x.size ≤ 140737488355328 := by have := HL.out; simp at ht; omega
      have HX : Hid (cat (l.take (k + 1)) = cat (l.take k) ++ x) := Lib.hid (by rw [take_next hx, cat_snoc])
      clear hx hv ht
      obtain ⟨z, hz⟩ : ∃ z, z = (cat (l.take k)).size := ⟨_, rfl⟩
      obtain ⟨y, hy⟩ : ∃ y, y = x.size := ⟨_, rfl⟩
      rw [← hz, ← hy] at hsz
      rw [← hy] at hcell
      rw [← hz]
      have HZ := Lib.hid hz
      have HY := Lib.hid hy
      clear hz hy
      have h0 : ¬ ((z : Int) + (y : Int) < 0) := by omega
      go_wp2
      go_round
      case rel => exact ⟨k + 1, by omega, by go_num, by rw [HX.out, HZ.out, HY.out]; simp⟩
      case measure => simp [intOf]; omega
    · obtain rfl : k = n := by omega
      have hall : cat (l.take k) = cat l := by rw [HN.out, List.take_length]
      rw [hall]
      clear hall hlt
      obtain ⟨z, hz⟩ : ∃ z, z = (cat l).size := ⟨_, rfl⟩
      have hz1 : z ≤ 140737488355328 := by rw [hz]; exact HL.out
      rw [← hz]
      have HZ := Lib.hid hz
      clear hz
      go_wp2_with (go_at_call 72; refine (grow_nil w z hz1).mono ?_; rintro e w1 ⟨v0, rfl, hown, hb1⟩)
      go_loopw [6, 8, 27] (fun v _ i wr => ∃ j : Nat, j ≤ k ∧ i = .int .i64 j ∧ wr.ownsRow w.heap.size 5 1 v (cat (l.take j)).size (byteCells (cat (l.take j))) ∧ Below w.heap.size w wr) (fun _ _ i _ => k - (intOf i).toNat)
      case atStart => exact ⟨0, Nat.zero_le _, rfl, hown, hb1⟩
      case round =>
        obtain ⟨j, hj, rfl, ho, hbl⟩ := hrel
        by_cases hlt : j < k
        · obtain ⟨x, hx⟩ : ∃ x, l[j]? = some x := ⟨_, List.getElem?_eq_getElem (by rw [← HN.out]; exact hlt)⟩
          obtain ⟨v, hc0, hv0⟩ := HC.out j x hx
          have hcell : wr.cell? ⟨b, off + j, none⟩ = some v := by rw [hbl.cell (World.block_lt_of_cell? _ _ hc0), hc0]
          have hv := hv0.below hbl
          have ht := cat_take_le l (j + 1)
          have HX : Hid (cat (l.take (j + 1)) = cat (l.take j) ++ x) := Lib.hid (by rw [take_next hx, cat_snoc])
          rw [HX.out] at ht
          have hsz : (cat (l.take j)).size + x.size ≤ 140737488355328 := by have := HL.out; simp at ht; omega
          have HS := Lib.hid hsz
          have HV := Lib.hid hv
          have HO := Lib.hid ho
          have hb2 := hbl.size
          clear hx hc0 hv0 ht hsz hv ho hown
          go_wp2_with (at_builtin; refine wpList_append_bytes rfl _ _ rfl w.heap.size _ _ _ _ x _ rfl rfl HO.out HV.out HS.out hb2 ?_; intro v' w' hown' hg')
          have hlo := HO.out.lt
          go_roundw
          case rel =>
            refine ⟨j + 1, by omega, by go_num, ?_, hbl.grown hg' hbl.size (fun k hk => (hlo k hk).1)⟩
            rw [HX.out]
            simpa using hown'
          case measure => simp [intOf]; omega
        · obtain rfl : j = k := by omega
          go_wp2
          go_ret
          refine ⟨_, rfl, ?_, hbl⟩
          have := bytes_of_row ho
          rwa [HN.out, List.take_length] at this
end Go.Proofs.YthchfkjdbfhnhaaDoor
