/- The document's file system: insert, names, List. -/
import Derived.Test.YthchfkjdbfhnhaaGreatDoorRefH
namespace Go.Proofs.YthchfkjdbfhnhaaGreatDoor
open Go Go.RowKit Go.Lany
set_option maxRecDepth 100000
theorem infoS : (Tryz.prog.info? 9).map (fun i => (i.zero, i.size, i.bytes)) = some (some (.string ⟨#[]⟩), 1, 16) := by kernel_rfl
theorem run_append_strs {w : World} (base : Nat) (ty : TypeId) {v x : Value} {n m : Nat} {xs ys : List Value} (hown : w.ownsRow base 9 1 v n xs) (hx : Src w x m ys) (hl : ys.length = m * 1) (h1 : ∀ u ∈ ys, u.oneCell' = true) (hs : n + m ≤ 1000000) (hbase : base ≤ w.heap.size) :
    ∃ v' w', (Builtin.append_ #[53, 53] ty #[v, x]).run Tryz.prog w = .ok v' w' ∧ w'.ownsRow base 9 1 v' (n + m) (xs ++ ys) ∧ w.grownBy w' v.ownBlock := by
  obtain ⟨i0, hi, hz0, hz1, hz2⟩ := info_parts infoS
  obtain ⟨ad, c, rfl, hx⟩ := hx
  rcases hx with ⟨rfl, rfl, rfl⟩ | ⟨a, rfl, hc⟩
  · have hr := run_append_owned_none (P := Tryz.prog) (w := w) base 53 ty 9 i0 1 (by kernel_rfl) hi v n xs hown
    refine ⟨v, w, hr, ?_, ⟨rfl, rfl, rfl, Nat.le_refl _, fun _ _ _ => rfl⟩⟩
    rw [List.eq_nil_of_length_eq_zero (by simpa using hl : ys.length = 0)]
    simpa using hown
  · obtain ⟨v', w', k1, k2, k3, _⟩ := run_append_own (P := Tryz.prog) w base 53 ty 9 i0 _ 1 16 (by kernel_rfl) hi hz0 hz1 hz2 rfl (by decide) v n xs hown a m c ys hl hc h1 (by unfold maxLen; omega) (by omega) hbase
    exact ⟨v', w', k1, k2, k3⟩
theorem wpList_append_strs {w : World} {ops : Array Oper} {rest : List Oper} {o : Oper} {a : Act} {Q : Exit → Act → World → Prop} (hgd : o.guard = none) (s x : Operand)
    (ho : o.op = .call { callee := .builtin .append, args := #[s, x], argTypes := #[53, 53] }) (base : Nat) (v y : Value) (n m : Nat) (xs ys : List Value) (hs : a.eval s = v) (hx : a.eval x = y)
    (hown : w.ownsRow base 9 1 v n xs) (hy : Src w y m ys) (hlen : ys.length = m * 1) (h1 : ∀ u ∈ ys, u.oneCell' = true) (hl : n + m ≤ 1000000) (hbase : base ≤ w.heap.size)
    (h : ∀ v' w', w'.ownsRow base 9 1 v' (n + m) (xs ++ ys) → w.grownBy w' v.ownBlock → wpList Tryz.prog ops Q rest (a.put o.dst v') w') : wpList Tryz.prog ops Q (o :: rest) a w := by
  obtain ⟨v', w', k1, k2, k3⟩ := run_append_strs (w := w) base o.type hown hy hlen h1 hl hbase
  exact Lib.wpList_append_run w hgd s x _ _ ho v y hs hx v' w' k1 (h v' w' k2 k3)
def strs (l : List ByteArray) : List Value := l.map Value.string
theorem strs_len (l : List ByteArray) : (strs l).length = l.length * 1 := by simp [strs]
theorem strs_one (l : List ByteArray) : ∀ u ∈ strs l, u.oneCell' = true := fun u hu => by
  obtain ⟨x, _, rfl⟩ := List.mem_map.1 hu
  rfl
/-- Where a name has its place. -/
def PlaceIn (l : List ByteArray) (x : ByteArray) (k : Nat) : Prop := k ≤ l.length ∧ (∀ (j : Nat) y, j < k → l[j]? = some y → Op.bytesLess y.toList x.toList = true) ∧ ∀ y, l[k]? = some y → Op.bytesLess y.toList x.toList = false
theorem rising_insert {l : List ByteArray} {x : ByteArray} {k : Nat} (hr : Rising l) (hp : PlaceIn l x k) (hn : ¬ l[k]? = some x) : Rising (l.take k ++ x :: l.drop k) ∧ ∀ y, y ∈ l.take k ++ x :: l.drop k ↔ y = x ∨ y ∈ l := by
  obtain ⟨hk, hlo, hhi⟩ := hp
  have hm : ∀ y, y ∈ l.take k ++ x :: l.drop k ↔ y = x ∨ y ∈ l := fun y => by
    conv => rhs; rw [← List.take_append_drop k l]
    simp only [List.mem_append, List.mem_cons]
    constructor
    · rintro (h | h | h) <;> simp [h]
    · rintro (h | h | h) <;> simp [h]
  refine ⟨?_, hm⟩
  have hkeys : ∀ l : List ByteArray, akeys (l.map fun p => (p, ByteArray.empty)) = l := fun l => by
    unfold akeys
    rw [List.map_map]
    exact (List.map_congr_left fun _ _ => rfl).trans (List.map_id _)
  have hnx : x ∉ l := by
    intro hx
    obtain ⟨j, hj⟩ := List.getElem?_of_mem hx
    rcases Nat.lt_trichotomy j k with h | h | h
    · have := hlo j x h hj
      rw [less_irrefl] at this; cases this
    · rw [h] at hj; exact hn hj
    · have hjl : j < l.length := (List.getElem?_eq_some_iff.1 hj).1
      have hkl : k < l.length := by omega
      have h1 := List.pairwise_iff_getElem.1 hr k j hkl hjl h
      rw [(List.getElem?_eq_some_iff.1 hj).2] at h1
      have h2 := hhi l[k] (List.getElem?_eq_getElem hkl)
      rw [h1] at h2; cases h2
  have hS : Sorts (⟨l.map fun p => (p, ByteArray.empty), 0, 0, 0, 0, false⟩ : FsSt) (l.map fun p => (p, ByteArray.empty)) := ⟨fun _ => rfl, by rw [hkeys]; exact hr⟩
  have := (sorts_insert (p := x) (b := ByteArray.empty) (k := k) hS (by simpa using hk) (aget_none.2 (by rw [hkeys]; exact hnx)) (fun j y hj hy => ?_) (fun y hy => ?_)).up
  · rw [akeys_append] at this
    have e1 : akeys ((l.map fun p => (p, ByteArray.empty)).take k) = l.take k := by rw [← List.map_take, hkeys]
    have e2 : akeys ((x, ByteArray.empty) :: (l.map fun p => (p, ByteArray.empty)).drop k) = x :: l.drop k := by
      show x :: akeys ((l.map fun p => (p, ByteArray.empty)).drop k) = _
      rw [← List.map_drop, hkeys]
    rw [e1, e2] at this
    exact this
  · rw [List.getElem?_map] at hy
    obtain ⟨z, hz, rfl⟩ := Option.map_eq_some_iff.1 hy
    exact hlo j z hj hz
  · rw [List.getElem?_map] at hy
    obtain ⟨z, hz, rfl⟩ := Option.map_eq_some_iff.1 hy
    exact hhi z hz
def InsPost (B : Nat) (W : World) (l : List ByteArray) (x : ByteArray) (e : Ending) (w' : World) : Prop :=
  ∃ l' v, e = .returned v ∧ w'.ownsRow B 9 1 v l'.length (strs l') ∧ Rising l' ∧ (∀ y, y ∈ l' ↔ y = x ∨ y ∈ l) ∧ l'.length ≤ l.length + 1 ∧ Below W.heap.size W w'
theorem strs_src {w : World} {B g n cap : Nat} {l : List ByteArray} (h : w.ownsRow B 9 1 (.slice (some ⟨g, 0, none⟩) n cap) l.length (strs l)) (k m c : Nat) (hm : k + m ≤ l.length) : Src w (.slice (some ⟨g, k, none⟩) m c) m (strs ((l.drop k).take m)) := by
  refine ⟨_, c, rfl, .inr ⟨_, rfl, fun j u hu => ?_⟩⟩
  have hcs := h.cells (g := g) rfl (k + j) u (by
    unfold strs at *
    rw [← hu, List.getElem?_map, List.getElem?_map, List.getElem?_take]
    split
    · rw [List.getElem?_drop]
    · rename_i hj
      rw [List.getElem?_map, List.getElem?_take, if_neg hj] at hu; cases hu)
  rw [Addr.add_lit] at hcs ⊢
  rw [← hcs]
  simp
theorem alloc_str {W w1 : World} (hg : W.grownBy w1 none) {u : Value} {n : Nat} {xs : List Value} (h : w1.ownsRow W.heap.size 9 1 u n xs) (p : ByteArray) :
    (w1.alloc (.cells #[.string p] 9)).ownsRow W.heap.size 9 1 u n xs ∧ Src (w1.alloc (.cells #[.string p] 9)) (.slice (some ⟨w1.heap.size, 0, none⟩) 1 1) 1 [.string p] ∧ W.grownBy (w1.alloc (.cells #[.string p] 9)) none := by
  generalize ho : (Obj.cells #[Value.string p] 9) = o
  have hb : (w1.alloc o).heap[w1.heap.size]? = some o := Array.getElem?_push_size
  have hk : ∀ k, k < w1.heap.size → (w1.alloc o).heap[k]? = w1.heap[k]? := fun k hk => (Array.getElem?_push ..).trans (if_neg (Nat.ne_of_lt hk))
  have hs : w1.heap.size ≤ (w1.alloc o).heap.size := by show _ ≤ (w1.heap.push o).size; rw [Array.size_push]; omega
  refine ⟨⟨h.1, h.2.imp id ?_⟩, ⟨_, 1, rfl, .inr ⟨_, rfl, fun j u hu => ?_⟩⟩, ⟨hg.os, hg.tape, hg.output, Nat.le_trans hg.size hs, fun k h1 h2 => (hk k (Nat.lt_of_lt_of_le h1 hg.size)).trans (hg.block k h1 h2)⟩⟩
  · rintro ⟨g, cap, cur, e, hB, hbk, rest⟩
    exact ⟨g, cap, cur, e, hB, (hk g (lt_of_block hbk)).trans hbk, rest⟩
  · rw [← ho] at hb
    rw [Addr.add_lit, cell_of_block (by rw [← ho]; exact hb)]
    simpa using hu
theorem rowS_slice {w : World} {B : Nat} {u : Value} {l : List ByteArray} (h : w.ownsRow B 9 1 u l.length (strs l)) : (u = .slice none 0 0 ∧ l = []) ∨ ∃ g c, u = .slice (some ⟨g, 0, none⟩) l.length c ∧ l.length ≤ c := by
  rcases h.2 with ⟨e, e'⟩ | ⟨g, cap, cur, e, _, _, hc, _⟩
  · exact .inl ⟨e, List.eq_nil_of_length_eq_zero e'⟩
  · exact .inr ⟨g, cap, e, hc⟩
theorem below_of_grown {w w' : World} (h : w.grownBy w' none) : Below w.heap.size w w' := ⟨h.os, h.tape, h.output, h.size, fun k hk => h.block k hk (by simp)⟩
/-- The row with the name at its place. -/
theorem ins_post {W : World} {B : Nat} (hB : B ≤ W.heap.size) {l : List ByteArray} (hr : Rising l) {x : ByteArray} {k : Nat} (hp : PlaceIn l x k) (hn : ¬ l[k]? = some x) {w2 : World} {v2 : Value}
    (h1 : w2.ownsRow W.heap.size 9 1 v2 (0 + k + 1 + (l.length - k)) ([] ++ strs ((l.drop 0).take k) ++ [.string x] ++ strs ((l.drop k).take (l.length - k)))) (hg : W.grownBy w2 none) : InsPost B W l x (.returned v2) w2 := by
  obtain ⟨hi1, hi2⟩ := rising_insert hr hp hn
  have hk := hp.1
  have e1 : (l.drop 0).take k = l.take k := by simp
  have e2 : (l.drop k).take (l.length - k) = l.drop k := List.take_of_length_le (by simp)
  have hlen : (l.take k ++ x :: l.drop k).length = 0 + k + 1 + (l.length - k) := by simp; omega
  have hc : [] ++ strs (l.take k) ++ [Value.string x] ++ strs (l.drop k) = strs (l.take k ++ x :: l.drop k) := by simp [strs]
  rw [e1, e2, hc, ← hlen] at h1
  refine ⟨_, v2, rfl, ⟨h1.1, h1.2.imp id ?_⟩, hi1, hi2, by rw [hlen]; omega, below_of_grown hg⟩
  rintro ⟨g, cap, cur, e, hB2, rest⟩
  exact ⟨g, cap, cur, e, Nat.le_trans hB hB2, rest⟩
set_option maxHeartbeats 4000000 in
theorem insertR_at {W : World} {B : Nat} (hB : B ≤ W.heap.size) {l : List ByteArray} (hr : Rising l) (hl : l.length ≤ 4096) {v : Value} (h : W.ownsRow B 9 1 v l.length (strs l)) (x : ByteArray) :
    Calls Tryz.prog 74 #[v, .string x] W (InsPost B W l x) := by
  have hcell : ∀ (g n c : Nat), v = .slice (some ⟨g, 0, none⟩) n c → ∀ k y, l[k]? = some y → W.cell? ⟨g, k, none⟩ = some (.string y) := fun g n c e k y hy => by
    have := h.cells (g := g) (by rw [e]; rfl) k (.string y) (by unfold strs; rw [List.getElem?_map, hy]; rfl)
    rw [Addr.add_lit] at this
    simpa using this
  have HC := Lib.hid hcell
  have HH := Lib.hid h
  obtain ⟨a, c, rfl⟩ : ∃ a c, v = .slice a l.length c := by
    rcases rowS_slice h with ⟨e, e'⟩ | ⟨g, c, e, _⟩
    · exact ⟨none, 0, by rw [e, e']; rfl⟩
    · exact ⟨_, c, e⟩
  have hsp := rowS_slice h
  have HSP := Lib.hid hsp
  clear h hcell hsp
  go_enter Tryz.func74, Tryz.ntmps74
  go_upto_block 0 with fail
  go_cut [5] (fun v wc => ∃ k : Nat, v = .int .i64 k ∧ PlaceIn l x k ∧ W = wc)
  case first =>
    go_wp2
    go_loop [5] (fun i => ∃ k : Nat, k ≤ l.length ∧ i = .int .i64 k ∧ ∀ (j : Nat) y, j < k → l[j]? = some y → Op.bytesLess y.toList x.toList = true) (fun i => l.length - (intOf i).toNat)
    case atStart => exact ⟨0, Nat.zero_le _, rfl, fun j _ hj => by omega⟩
    case round =>
      obtain ⟨k, hk, rfl, hno⟩ := hrel
      have HN := Lib.hid hno
      clear hno
      by_cases hlt : k < l.length
      · obtain ⟨y, hy⟩ : ∃ y, l[k]? = some y := ⟨_, List.getElem?_eq_getElem hlt⟩
        obtain ⟨g, c', ev, hlc⟩ : ∃ g c', a = some ⟨g, 0, none⟩ ∧ c' = c := by
          rcases HSP.out with ⟨e, e'⟩ | ⟨g, c', e, _⟩
          · rw [e'] at hlt; simp at hlt
          · exact ⟨g, c, (Value.slice.inj e).1, rfl⟩
        subst ev
        have h1 := HC.out g _ _ rfl k y hy
        have HX := Lib.hid hy
        clear hy
        cases e : Op.bytesLess y.toList x.toList with
        | true =>
          have HE := Lib.hid e
          go_wp2
          go_round
          case rel =>
            refine ⟨k + 1, by omega, by go_num, fun j z hj hz => ?_⟩
            rcases Nat.lt_succ_iff_lt_or_eq.1 hj with h' | h'
            · exact HN.out j z h' hz
            · subst h'
              rw [HX.out] at hz
              cases hz
              exact HE.out
          case measure => simp [intOf]; omega
        | false =>
          have HE := Lib.hid e
          go_wp2
          go_meet
          exact ⟨k, rfl, ⟨hk, HN.out, fun z hz => by rw [HX.out] at hz; cases hz; exact HE.out⟩, rfl⟩
      · obtain rfl : k = l.length := by omega
        go_wp2
        go_meet
        exact ⟨_, rfl, ⟨Nat.le_refl _, HN.out, fun y hy => by simp at hy⟩, rfl⟩
  case rest =>
    obtain ⟨k, rfl, hpl, rfl⟩ := hcut
    have HPL := Lib.hid hpl
    have hkl := hpl.1
    clear hpl
    have FIN : Hid (¬ l[k]? = some x → ∀ (w2 : World) (v2 : Value), w2.ownsRow W.heap.size 9 1 v2 (0 + k + 1 + (l.length - k)) ([] ++ strs ((l.drop 0).take k) ++ [.string x] ++ strs ((l.drop k).take (l.length - k))) → W.grownBy w2 none → InsPost B W l x (.returned v2) w2) := Lib.hid fun hn w2 v2 h1 h2 => ins_post hB hr HPL.out hn h1 h2
    rcases HSP.out with ⟨e, e2⟩ | ⟨g, c', e, hcap⟩
    · obtain ⟨rfl, e1, rfl⟩ := Value.slice.inj e
      subst e2
      obtain rfl : k = 0 := by simpa using hkl
      have HS1 : Hid (Src W (.slice none 0 0) 0 []) := Lib.hid (Src.none _)
      have FIN := Lib.hid (fun (w2 : World) (v2 : Value) (h1 : w2.ownsRow W.heap.size 9 1 v2 (0 + 0 + 1 + 0) ([] ++ [] ++ [.string x] ++ [])) h2 => FIN.out (by simp) w2 v2 h1 h2)
      clear e e1
      go_wp2_with (first
        | (at_builtin; refine wpList_append_strs rfl _ _ rfl W.heap.size v2 _ (0 + 0 + 1) (0) ([] ++ [] ++ [.string x]) ([]) rfl rfl HW2.out (Src.none _) rfl (fun _ h => by cases h) (by omega) HG2.out.size ?_; intro v3 w3 hw3 hg3; have HG3 := Lib.hid (grow_two HG2.out hg3 (fun k hk => (HW2.out.lt k hk).1)); have HW3 := Lib.hid hw3; clear hw3 hg3)
        | (at_builtin; refine wpList_append_strs rfl _ _ rfl W.heap.size v1 _ (0 + 0) 1 ([] ++ []) [.string x] rfl rfl (alloc_str HG1.out HW1.out x).1 (alloc_str HG1.out HW1.out x).2.1 rfl (strs_one [x]) (by omega) (alloc_str HG1.out HW1.out x).2.2.size ?_; intro v2 w2 hw2 hg2; have HG2 := Lib.hid (grow_two (alloc_str HG1.out HW1.out x).2.2 hg2 (fun k hk => (HW1.out.lt k hk).1)); have HW2 := Lib.hid hw2; clear hw2 hg2)
        | (at_builtin; refine wpList_append_strs rfl _ _ rfl W.heap.size _ _ 0 0 [] ([]) rfl rfl (World.ownsRow_nil _ _ _ _) HS1.out rfl (fun _ h => by cases h) (by omega) (Nat.le_refl _) ?_; intro v1 w1 hw1 hg1; have hg1' : W.grownBy w1 none := hg1; have HG1 := Lib.hid hg1'; have HW1 := Lib.hid hw1; clear hw1 hg1 hg1'))
      go_ret
      exact FIN.out _ _ (by have h := HW3.out; simp only [Nat.zero_add, Nat.add_zero] at h ⊢; exact h) HG3.out
    · obtain ⟨rfl, -, rfl⟩ := Value.slice.inj e
      clear e
      by_cases hlt : k < l.length
      · obtain ⟨y, hy⟩ : ∃ y, l[k]? = some y := ⟨_, List.getElem?_eq_getElem hlt⟩
        have h1 := HC.out g _ _ rfl k y hy
        cases ee : (y.toList == x.toList) with
        | true =>
          have HY : Hid (l[k]? = some x) := Lib.hid (by rw [hy, show y = x from bytes_eq (by rw [← toList_data, ← toList_data]; exact eq_of_beq ee)])
          clear hy
          go_wp2
          go_ret
          refine ⟨l, _, rfl, HH.out, hr, fun z => ⟨.inr, fun hz => hz.elim (fun e => by rw [e]; exact List.mem_of_getElem? HY.out) id⟩, Nat.le_succ _, Below.refl _ _⟩
        | false =>
          have hne : ¬ l[k]? = some x := by
            rw [hy]
            intro e
            cases e
            simp at ee
          have FIN := Lib.hid (FIN.out hne)
          have hs1 := strs_src HH.out 0 k c (by omega)
          have HS1 : Hid (Src W (.slice (some ⟨g, 0, none⟩) k c) k (strs ((l.drop 0).take k))) := Lib.hid hs1
          have HS2 := Lib.hid (strs_src HH.out k (l.length - k) (c - k) (by omega))
          have HL1 : Hid ((strs ((l.drop 0).take k)).length = k * 1) := Lib.hid (by rw [strs_len]; simp; omega)
          have HL2 : Hid ((strs ((l.drop k).take (l.length - k))).length = (l.length - k) * 1) := Lib.hid (by rw [strs_len]; simp)
          have hck : ¬ c = k := by omega
          clear hs1 hy hne
          go_wp2_with (first
            | (at_builtin; refine wpList_append_strs rfl _ _ rfl W.heap.size v2 _ (0 + k + 1) (l.length - k) ([] ++ strs ((l.drop 0).take k) ++ [.string x]) (strs ((l.drop k).take (l.length - k))) rfl rfl HW2.out (HS2.out.grown HG2.out (fun _ _ _ e => by cases e)) HL2.out (strs_one _) (by omega) HG2.out.size ?_; intro v3 w3 hw3 hg3; have HG3 := Lib.hid (grow_two HG2.out hg3 (fun k hk => (HW2.out.lt k hk).1)); have HW3 := Lib.hid hw3; clear hw3 hg3)
            | (at_builtin; refine wpList_append_strs rfl _ _ rfl W.heap.size v1 _ (0 + k) 1 ([] ++ strs ((l.drop 0).take k)) [.string x] rfl rfl (alloc_str HG1.out HW1.out x).1 (alloc_str HG1.out HW1.out x).2.1 rfl (strs_one [x]) (by omega) (alloc_str HG1.out HW1.out x).2.2.size ?_; intro v2 w2 hw2 hg2; have HG2 := Lib.hid (grow_two (alloc_str HG1.out HW1.out x).2.2 hg2 (fun k hk => (HW1.out.lt k hk).1)); have HW2 := Lib.hid hw2; clear hw2 hg2)
            | (at_builtin; refine wpList_append_strs rfl _ _ rfl W.heap.size _ _ 0 k [] (strs ((l.drop 0).take k)) rfl rfl (World.ownsRow_nil _ _ _ _) HS1.out HL1.out (strs_one _) (by omega) (Nat.le_refl _) ?_; intro v1 w1 hw1 hg1; have hg1' : W.grownBy w1 none := hg1; have HG1 := Lib.hid hg1'; have HW1 := Lib.hid hw1; clear hw1 hg1 hg1'))
          go_ret
          exact FIN.out _ _ (by have h := HW3.out; simp only [Nat.zero_add, Nat.add_zero] at h ⊢; exact h) HG3.out
      · obtain rfl : k = l.length := by omega
        have FIN := Lib.hid (FIN.out (by simp))
        have hs1 := strs_src HH.out 0 l.length c (by omega)
        have HS1 : Hid (Src W (.slice (some ⟨g, 0, none⟩) l.length c) l.length (strs ((l.drop 0).take l.length))) := Lib.hid hs1
        have HL1 : Hid ((strs ((l.drop 0).take l.length)).length = l.length * 1) := Lib.hid (by rw [strs_len]; simp)
        have FIN := Lib.hid (fun (w2 : World) (v2 : Value) (h1 : w2.ownsRow W.heap.size 9 1 v2 (0 + l.length + 1 + 0) ([] ++ strs ((l.drop 0).take l.length) ++ [.string x] ++ [])) h2 => FIN.out w2 v2 (by rw [Nat.sub_self, List.take_zero]; exact h1) h2)
        clear hs1
        by_cases hck : c = l.length
        · subst hck
          go_wp2_with (first
            | (at_builtin; refine wpList_append_strs rfl _ _ rfl W.heap.size v2 _ (0 + l.length + 1) (0) ([] ++ strs ((l.drop 0).take l.length) ++ [.string x]) ([]) rfl rfl HW2.out (Src.any _ _ _) rfl (fun _ h => by cases h) (by omega) HG2.out.size ?_; intro v3 w3 hw3 hg3; have HG3 := Lib.hid (grow_two HG2.out hg3 (fun k hk => (HW2.out.lt k hk).1)); have HW3 := Lib.hid hw3; clear hw3 hg3)
            | (at_builtin; refine wpList_append_strs rfl _ _ rfl W.heap.size v1 _ (0 + l.length) 1 ([] ++ strs ((l.drop 0).take l.length)) [.string x] rfl rfl (alloc_str HG1.out HW1.out x).1 (alloc_str HG1.out HW1.out x).2.1 rfl (strs_one [x]) (by omega) (alloc_str HG1.out HW1.out x).2.2.size ?_; intro v2 w2 hw2 hg2; have HG2 := Lib.hid (grow_two (alloc_str HG1.out HW1.out x).2.2 hg2 (fun k hk => (HW1.out.lt k hk).1)); have HW2 := Lib.hid hw2; clear hw2 hg2)
            | (at_builtin; refine wpList_append_strs rfl _ _ rfl W.heap.size _ _ 0 l.length [] (strs ((l.drop 0).take l.length)) rfl rfl (World.ownsRow_nil _ _ _ _) HS1.out HL1.out (strs_one _) (by omega) (Nat.le_refl _) ?_; intro v1 w1 hw1 hg1; have hg1' : W.grownBy w1 none := hg1; have HG1 := Lib.hid hg1'; have HW1 := Lib.hid hw1; clear hw1 hg1 hg1'))
          go_ret
          exact FIN.out _ _ (by have h := HW3.out; simp only [Nat.zero_add, Nat.add_zero] at h ⊢; exact h) HG3.out
        · go_wp2_with (first
            | (at_builtin; refine wpList_append_strs rfl _ _ rfl W.heap.size v2 _ (0 + l.length + 1) (0) ([] ++ strs ((l.drop 0).take l.length) ++ [.string x]) ([]) rfl rfl HW2.out (Src.any _ _ _) rfl (fun _ h => by cases h) (by omega) HG2.out.size ?_; intro v3 w3 hw3 hg3; have HG3 := Lib.hid (grow_two HG2.out hg3 (fun k hk => (HW2.out.lt k hk).1)); have HW3 := Lib.hid hw3; clear hw3 hg3)
            | (at_builtin; refine wpList_append_strs rfl _ _ rfl W.heap.size v1 _ (0 + l.length) 1 ([] ++ strs ((l.drop 0).take l.length)) [.string x] rfl rfl (alloc_str HG1.out HW1.out x).1 (alloc_str HG1.out HW1.out x).2.1 rfl (strs_one [x]) (by omega) (alloc_str HG1.out HW1.out x).2.2.size ?_; intro v2 w2 hw2 hg2; have HG2 := Lib.hid (grow_two (alloc_str HG1.out HW1.out x).2.2 hg2 (fun k hk => (HW1.out.lt k hk).1)); have HW2 := Lib.hid hw2; clear hw2 hg2)
            | (at_builtin; refine wpList_append_strs rfl _ _ rfl W.heap.size _ _ 0 l.length [] (strs ((l.drop 0).take l.length)) rfl rfl (World.ownsRow_nil _ _ _ _) HS1.out HL1.out (strs_one _) (by omega) (Nat.le_refl _) ?_; intro v1 w1 hw1 hg1; have hg1' : W.grownBy w1 none := hg1; have HG1 := Lib.hid hg1'; have HW1 := Lib.hid hw1; clear hw1 hg1 hg1'))
          go_ret
          exact FIN.out _ _ (by have h := HW3.out; simp only [Nat.zero_add, Nat.add_zero] at h ⊢; exact h) HG3.out
end Go.Proofs.YthchfkjdbfhnhaaGreatDoor
