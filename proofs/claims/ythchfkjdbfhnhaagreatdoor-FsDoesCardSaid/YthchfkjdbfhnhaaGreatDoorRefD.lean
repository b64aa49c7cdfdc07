/- The document's file system: put, drop. -/
import Derived.Test.YthchfkjdbfhnhaaGreatDoorRefC
import Derived.Deep.RegionHeld3
import Derived.KernelRfl
namespace Go.Proofs.YthchfkjdbfhnhaaGreatDoor
open Go Go.RowKit Go.Lany
set_option maxRecDepth 100000
theorem infoF : (Tryz.prog.info? 67).map (fun i => (i.zero, i.size, i.bytes)) = some (some (.agg #[.string ⟨#[]⟩, .slice none 0 0]), 2, 40) := by kernel_rfl
/-- The cells of m elements that a slice value has. -/
def Src (w : World) (x : Value) (m : Nat) (ys : List Value) : Prop := ∃ ad c, x = .slice ad m c ∧ ((ad = none ∧ m = 0 ∧ c = 0) ∨ ∃ a, ad = some a ∧ ∀ (j : Nat) u, ys[j]? = some u → w.cell? (a.add j) = some u)
theorem run_append_files {w : World} (base : Nat) (ty : TypeId) {v x : Value} {n m : Nat} {xs ys : List Value} (hown : w.ownsRow base 67 2 v n xs) (hx : Src w x m ys) (hl : ys.length = m * 2) (h1 : ∀ u ∈ ys, u.oneCell' = true) (hs : n + m ≤ 1000000) (hbase : base ≤ w.heap.size) :
    ∃ v' w', (Builtin.append_ #[26, 26] ty #[v, x]).run Tryz.prog w = .ok v' w' ∧ w'.ownsRow base 67 2 v' (n + m) (xs ++ ys) ∧ w.grownBy w' v.ownBlock := by
  obtain ⟨i0, hi, hz0, hz1, hz2⟩ := info_parts infoF
  obtain ⟨ad, c, rfl, hx⟩ := hx
  rcases hx with ⟨rfl, rfl, rfl⟩ | ⟨a, rfl, hc⟩
  · have hr := run_append_owned_none (P := Tryz.prog) (w := w) base 26 ty 67 i0 2 (by kernel_rfl) hi v n xs hown
    refine ⟨v, w, hr, ?_, ⟨rfl, rfl, rfl, Nat.le_refl _, fun _ _ _ => rfl⟩⟩
    rw [List.eq_nil_of_length_eq_zero (by simpa using hl : ys.length = 0)]
    simpa using hown
  · obtain ⟨v', w', k1, k2, k3, _⟩ := run_append_own (P := Tryz.prog) w base 26 ty 67 i0 _ 2 40 (by kernel_rfl) hi hz0 hz1 hz2 rfl (by decide) v n xs hown a m c ys hl hc h1 (by unfold maxLen; omega) (by omega) hbase
    exact ⟨v', w', k1, k2, k3⟩
theorem wpList_append_files {w : World} {ops : Array Oper} {rest : List Oper} {o : Oper} {a : Act} {Q : Exit → Act → World → Prop} (hgd : o.guard = none) (s x : Operand)
    (ho : o.op = .call { callee := .builtin .append, args := #[s, x], argTypes := #[26, 26] }) (base : Nat) (v y : Value) (n m : Nat) (xs ys : List Value) (hs : a.eval s = v) (hx : a.eval x = y)
    (hown : w.ownsRow base 67 2 v n xs) (hy : Src w y m ys) (hlen : ys.length = m * 2) (h1 : ∀ u ∈ ys, u.oneCell' = true) (hl : n + m ≤ 1000000) (hbase : base ≤ w.heap.size)
    (h : ∀ v' w', w'.ownsRow base 67 2 v' (n + m) (xs ++ ys) → w.grownBy w' v.ownBlock → wpList Tryz.prog ops Q rest (a.put o.dst v') w') : wpList Tryz.prog ops Q (o :: rest) a w := by
  obtain ⟨v', w', k1, k2, k3⟩ := run_append_files (w := w) base o.type hown hy hlen h1 hl hbase
  exact Lib.wpList_append_run w hgd s x _ _ ho v y hs hx v' w' k1 (h v' w' k2 k3)
section
variable {W : World} {r : Nat} {G : Nat → Prop} {s : FsSt} {v : Value} {K Kp : Int} {vs : List (ByteArray × Value)} {fs : List (ByteArray × ByteArray)}
theorem RA.cap (h : RA W r G s v K Kp vs fs) {a : Option Addr} {n cap : Nat} (hv : v = .slice a n cap) : n ≤ cap := by
  rcases h.row.2 with ⟨e, e'⟩ | ⟨g, c, cur, e, _, _, hc, _⟩
  · rw [hv] at e; obtain ⟨_, rfl, rfl⟩ := Value.slice.inj e; exact Nat.le_refl _
  · rw [hv] at e; obtain ⟨_, rfl, rfl⟩ := Value.slice.inj e; exact hc
/-- A stretch of the row, as a source. -/
theorem RA.src (h : RA W r G s v K Kp vs fs) {g n cap : Nat} (hv : v = .slice (some ⟨g, 0, none⟩) n cap) (k m c : Nat) (hm : k + m ≤ fs.length) : Src W (.slice (some ⟨g, k * 2, none⟩) m c) m (cellsF ((vs.drop k).take m)) := by
  refine ⟨_, c, rfl, .inr ⟨_, rfl, fun j u hu => ?_⟩⟩
  have hl := h.keys.2
  have hcs := h.row.cells (g := g) (by rw [hv]; rfl) (k * 2 + j) u (by
    rw [cellsF_take, cellsF_drop, List.getElem?_take] at hu
    split at hu
    · rw [List.getElem?_drop] at hu; exact hu
    · cases hu)
  rw [Addr.add_lit] at hcs ⊢
  rw [← hcs]
  simp
theorem Src.none (w : World) : Src w (.slice none 0 0) 0 [] := ⟨_, _, rfl, .inl ⟨rfl, rfl, rfl⟩⟩
theorem Src.any (w : World) (a : Addr) (c : Nat) : Src w (.slice (some a) 0 c) 0 [] := ⟨_, _, rfl, .inr ⟨_, rfl, fun j u hu => by simp at hu⟩⟩
theorem Src.grown {w w' : World} {x : Value} {m : Nat} {ys : List Value} (h : Src w x m ys) {row : Option Nat} (hg : w.grownBy w' row) (hr : ∀ a c, x = .slice (some a) m c → some a.block ≠ row) : Src w' x m ys := by
  obtain ⟨ad, c, rfl, hx⟩ := h
  refine ⟨ad, c, rfl, hx.imp id ?_⟩
  rintro ⟨a, rfl, hc⟩
  refine ⟨a, rfl, fun j u hu => hg.cell (hc j u hu) ?_⟩
  have : (a.add j).block = a.block := by unfold Addr.add; split <;> rfl
  rw [this]
  exact hr a c rfl
theorem one_cells (h : RA W r G s v K Kp vs fs) : ∀ u ∈ cellsF vs, u.oneCell' = true := by
  intro u hu0
  obtain ⟨x, hx, hu⟩ := List.mem_flatMap.1 hu0
  clear hu0
  have hs : ∃ a n c, x.2 = .slice a n c := by
    have hd := h.data
    clear h hu
    induction hd with
    | nil => cases hx
    | @cons k' a b l l' hr _ ih =>
      rcases List.mem_cons.1 hx with rfl | hx
      · rcases hr.1.2 with ⟨e, _⟩ | ⟨g, cap, cur, e, _⟩
        · exact ⟨_, _, _, e⟩
        · exact ⟨_, _, _, e⟩
      · exact ih hx
  obtain ⟨a, n, c, e⟩ := hs
  simp only [List.mem_cons, List.not_mem_nil, or_false] at hu
  rcases hu with rfl | rfl
  · rfl
  · rw [e]; rfl
theorem one_take {l : List (ByteArray × Value)} (h : ∀ u ∈ cellsF l, u.oneCell' = true) (k m : Nat) : ∀ u ∈ cellsF ((l.drop k).take m), u.oneCell' = true := fun u hu => h u (by
  rw [cellsF_take, cellsF_drop] at hu
  exact List.mem_of_mem_drop (List.mem_of_mem_take hu))
theorem _root_.Go.Lany.Both.append {α β : Type} {R : α → β → Prop} {a : List (ByteArray × α)} {b : List (ByteArray × β)} {a' : List (ByteArray × α)} {b' : List (ByteArray × β)} (h : Both R a b) (h' : Both R a' b') : Both R (a ++ a') (b ++ b') := by
  induction h with
  | nil => exact h'
  | cons hr _ ih => exact .cons hr ih
theorem _root_.Go.Lany.Both.take {α β : Type} {R : α → β → Prop} {a : List (ByteArray × α)} {b : List (ByteArray × β)} (h : Both R a b) (k : Nat) : Both R (a.take k) (b.take k) := by
  induction h generalizing k with
  | nil => simp; exact .nil
  | cons hr _ ih => rcases k with _ | k; exact .nil; exact .cons hr (ih k)
theorem _root_.Go.Lany.Both.drop {α β : Type} {R : α → β → Prop} {a : List (ByteArray × α)} {b : List (ByteArray × β)} (h : Both R a b) (k : Nat) : Both R (a.drop k) (b.drop k) := by
  induction h generalizing k with
  | nil => simp; exact .nil
  | cons hr hl ih => rcases k with _ | k; exact .cons hr hl; exact ih k
def DropPost (r : Nat) (G : Nat → Prop) (W : World) (s' : FsSt) (K Kp : Int) (e : Ending) (w' : World) : Prop := e = .returned (.tuple #[]) ∧ (∃ v vs fs, RA w' r (Grow G W.heap.size) s' v K Kp vs fs) ∧ Turns (Own1 r) W w'
/-- The row is made anew. -/
theorem RA.rerow (h : RA W r G s v K Kp vs fs) {w2 : World} (hg : W.grownBy w2 none) {v2 : Value} {vs2 : List (ByteArray × Value)} {fs2 : List (ByteArray × ByteArray)} (hr : w2.ownsRow W.heap.size 67 2 v2 vs2.length (cellsF vs2))
    (hd : Both (fun u b => W.ownsRow 0 5 1 u b.size (byteCells b) ∧ ∀ k, u.ownBlock = some k → G k ∧ k ≠ r ∧ some k ≠ v.ownBlock) vs2 fs2) {s2 : FsSt} (hs : Sorts s2 fs2) (e1 : s2.left = s.left) (e2 : s2.kind = s.kind) (e3 : s2.keep = s.keep) (e4 : s2.calls = s.calls) (e5 : s2.down = s.down) (hml : 0 < W.heap.size) :
    RA (w2.setCell ⟨r, 0, none⟩ v2) r (Grow G W.heap.size) s2 v2 K Kp vs2 fs2 ∧ Turns (Own1 r) W (w2.setCell ⟨r, 0, none⟩ v2) := by
  have hlr := lt_of_block h.obj
  have t : Turns (Own1 r) W (w2.setCell ⟨r, 0, none⟩ v2) := (Turns.of_grown (S := Own1 r) hg fun k e => by cases e).own1
  have hb : ∀ k, v2.ownBlock = some k → W.heap.size ≤ k ∧ k < w2.heap.size := fun k hk => hr.lt k hk
  refine ⟨⟨?_, ?_, fun k hk => ⟨.inr (hb k hk).1, by have := (hb k hk).1; omega⟩, hd.mono fun _ _ _ hp => ⟨ownsRow_turns hp.1 t fun k hk e => (hp.2 k hk).2.1 e, fun k hk => ⟨.inl (hp.2 k hk).1, (hp.2 k hk).2.1, fun e => ?_⟩⟩, hs, by rw [e1, e2, e3]; exact h.fault, by rw [e1]; exact h.left, .inl h.inG, fun e => e.elim h.far (fun e => by omega)⟩, t⟩
  · rw [get_self, hg.block r hlr (by simp), h.obj, e1, e4, e5]; rfl
  · refine ⟨hr.1, hr.2.imp id ?_⟩
    rintro ⟨g, cap, cur, e, hB, hbk, rest⟩
    exact ⟨g, cap, cur, e, Nat.zero_le _, (get_other _ _ _ (by omega)).trans hbk, rest⟩
  · have h1 := (hp.1.lt k hk).2
    have h2 := (hb k e.symm).1
    omega
theorem grow_two {w1 w2 : World} {v1 : Value} (h1 : W.grownBy w1 none) (h2 : w1.grownBy w2 v1.ownBlock) (hb : ∀ k, v1.ownBlock = some k → W.heap.size ≤ k) : W.grownBy w2 none :=
  ⟨h2.os.trans h1.os, h2.tape.trans h1.tape, h2.output.trans h1.output, Nat.le_trans h1.size h2.size, fun k hk _ => (h2.block k (Nat.lt_of_lt_of_le hk h1.size) fun e => by have := hb k e.symm; omega).trans (h1.block k hk (by simp))⟩
theorem rowF_slice {w : World} {B : Nat} {e : TypeId} {u : Value} {n k : Nat} {xs : List Value} (h : w.ownsRow B e k u n xs) : ∃ a c, u = .slice a n c := by
  rcases h.2 with ⟨rfl, rfl⟩ | ⟨g, cap, cur, rfl, _⟩ <;> exact ⟨_, _, rfl⟩
theorem dropR_at (h : RA W r G s v K Kp vs fs) (hl : fs.length ≤ 4096) (hml : 0 < W.heap.size) {p : ByteArray} {k : Nat} (hk : findI fs p = some k) : Calls Tryz.prog 54 #[.pointer (some ⟨r, 0, none⟩), .string p] W (DropPost r G W { s with files := adel s.files p } K Kp) := by
  have hf : Calls Tryz.prog 51 #[.pointer (some ⟨r, 0, none⟩), .string p] W (RetQ (.int .i64 (k : Int)) W) := by
    have := findR_at h hl p
    rw [hk] at this
    exact this
  obtain ⟨c0, -, -, -, -, -, fz⟩ := h.cells
  obtain ⟨a, cap, rfl, hfo⟩ := h.form
  obtain ⟨d, hkd, -⟩ := findI_some hk
  have hkl : k < fs.length := (List.getElem?_eq_some_iff.1 hkd).1
  obtain ⟨g, u, rfl, -, -, -, -, -⟩ := hfo k _ hkd
  have hcap := h.cap rfl
  have hs1 := h.src rfl 0 k cap (by omega)
  have hs2 := h.src rfl (k + 1) (fs.length - (k + 1)) (cap - (k + 1)) (by omega)
  have h1c := one_cells h
  have hlen := h.keys.2
  have hgr := h.rowG g rfl
  have hlr := lt_of_block h.obj
  have HH := Lib.hid h
  have HS1 : Hid (Src W (.slice (some ⟨g, 0, none⟩) k cap) k (cellsF ((vs.drop 0).take k))) := Lib.hid (by simpa using hs1)
  have HS2 := Lib.hid hs2
  have H1C := Lib.hid h1c
  have HKD := Lib.hid hkd
  have HL1 : Hid ((cellsF ((vs.drop 0).take k)).length = k * 2) := Lib.hid (by rw [cellsF_length]; simp; omega)
  have HL2 : Hid ((cellsF ((vs.drop (k + 1)).take (fs.length - (k + 1)))).length = (fs.length - (k + 1)) * 2) := Lib.hid (by rw [cellsF_length]; simp; omega)
  have key : ∀ (x2 : Value), (Src W x2 (fs.length - (k + 1)) (cellsF ((vs.drop (k + 1)).take (fs.length - (k + 1))))) → (∀ a c, x2 = .slice (some a) (fs.length - (k + 1)) c → a.block = g) → True := fun _ _ _ => trivial
  clear h hfo hk fz hs1 hs2 h1c hkd hlen key
  have fin : ∀ (w2 : World) (v2 : Value), w2.ownsRow W.heap.size 67 2 v2 (0 + k + (fs.length - (k + 1))) ([] ++ cellsF ((vs.drop 0).take k) ++ cellsF ((vs.drop (k + 1)).take (fs.length - (k + 1)))) → W.grownBy w2 none → DropPost r G W { s with files := adel s.files p } K Kp (.returned (.tuple #[])) (w2.setCell ⟨r, 0, none⟩ v2) := by
    intro w2 v2 h2 hg2
    have hlen := HH.out.keys.2
    have e1 : (vs.drop 0).take k = vs.take k := by simp
    have e2 : (vs.drop (k + 1)).take (fs.length - (k + 1)) = vs.drop (k + 1) := List.take_of_length_le (by simp; omega)
    have e3 : 0 + k + (fs.length - (k + 1)) = (vs.take k ++ vs.drop (k + 1)).length := by simp; omega
    rw [e1, e2, List.nil_append, ← cellsF_append, e3] at h2
    obtain ⟨q1, q2⟩ := HH.out.rerow hg2 h2 ((HH.out.data.take k).append (HH.out.data.drop (k + 1))) (sorts_drop HH.out.sorts HKD.out) rfl rfl rfl rfl rfl hml
    exact ⟨rfl, ⟨_, _, _, q1⟩, q2⟩
  have FIN := Lib.hid fin
  clear fin
  by_cases hce : cap = k + 1
  · have hz : fs.length - (k + 1) = 0 := by omega
    have FIN2 : Hid (∀ (w2 : World) (v2 : Value), w2.ownsRow W.heap.size 67 2 v2 (0 + k + 0) ([] ++ cellsF ((vs.drop 0).take k) ++ []) → W.grownBy w2 none → DropPost r G W { s with files := adel s.files p } K Kp (.returned (.tuple #[])) (w2.setCell ⟨r, 0, none⟩ v2)) := Lib.hid fun w2 v2 h1 h2 => FIN.out w2 v2 (by rw [hz, List.take_zero]; exact h1) h2
    clear hz FIN HS2 HL2
    subst hce
    go_enter Tryz.func54, Tryz.ntmps54
    go_wp2_with (first
      | (go_at_call 51; refine hf.mono ?_; rintro e w' ⟨rfl, rfl⟩)
      | (at_builtin; refine wpList_append_files rfl _ _ rfl W.heap.size v1 _ (0 + k) 0 ([] ++ cellsF ((vs.drop 0).take k)) [] rfl rfl HW1.out (Src.any _ _ _) rfl (fun _ h => by cases h) (by omega) HSZ1.out ?_; intro v2 w2 hw2 hg2; have hgW := grow_two HG1.out hg2 (fun k hk => (HW1.out.lt k hk).1); obtain ⟨a2, c2, rfl⟩ := rowF_slice hw2; have hb2 := (hgW.block r hlr (by simp)).trans HH.out.obj; have e2 : w2.cell? ⟨r, 0, none⟩ = _ := cell_of_block hb2 0; have f2 := free_of_block hb2 0; simp only [List.getElem?_toArray, List.getElem?_cons_zero] at e2; have HW2 := Lib.hid hw2; have HGW := Lib.hid hgW; clear hw2 hg2 hgW hb2 c1)
      | (at_builtin; refine wpList_append_files rfl _ _ rfl W.heap.size _ _ 0 k [] (cellsF ((vs.drop 0).take k)) rfl rfl (World.ownsRow_nil _ _ _ _) HS1.out HL1.out (one_take H1C.out 0 k) (by omega) (Nat.le_refl _) ?_; intro v1 w1 hw1 hg1; have hg1' : W.grownBy w1 none := hg1; have hb1 := (hg1'.block r hlr (by simp)).trans HH.out.obj; have c1 : w1.cell? ⟨r, 0, none⟩ = some (.slice (some ⟨g, 0, none⟩) fs.length (k + 1)) := (by rw [cell_of_block hb1]; rfl); have HG1 := Lib.hid hg1'; have HW1 := Lib.hid hw1; have HSZ1 := Lib.hid hg1'.size; have HB1 := Lib.hid hb1; clear hw1 hg1 hg1' c0 hb1))
    go_end0
    exact FIN2.out _ _ (by have h := HW2.out; simp only [Nat.zero_add, Nat.add_zero] at h ⊢; exact h) HGW.out
  · go_enter Tryz.func54, Tryz.ntmps54
    go_wp2_with (first
      | (go_at_call 51; refine hf.mono ?_; rintro e w' ⟨rfl, rfl⟩)
      | (at_builtin; refine wpList_append_files rfl _ _ rfl W.heap.size v1 _ (0 + k) (fs.length - (k + 1)) ([] ++ cellsF ((vs.drop 0).take k)) (cellsF ((vs.drop (k + 1)).take (fs.length - (k + 1)))) rfl rfl HW1.out (HS2.out.grown HG1.out (fun _ _ _ e => by cases e)) HL2.out (one_take H1C.out (k + 1) _) (by omega) HSZ1.out ?_; intro v2 w2 hw2 hg2; have hgW := grow_two HG1.out hg2 (fun k hk => (HW1.out.lt k hk).1); obtain ⟨a2, c2, rfl⟩ := rowF_slice hw2; have hb2 := (hgW.block r hlr (by simp)).trans HH.out.obj; have e2 : w2.cell? ⟨r, 0, none⟩ = _ := cell_of_block hb2 0; have f2 := free_of_block hb2 0; simp only [List.getElem?_toArray, List.getElem?_cons_zero] at e2; have HW2 := Lib.hid hw2; have HGW := Lib.hid hgW; clear hw2 hg2 hgW hb2 c1)
      | (at_builtin; refine wpList_append_files rfl _ _ rfl W.heap.size _ _ 0 k [] (cellsF ((vs.drop 0).take k)) rfl rfl (World.ownsRow_nil _ _ _ _) HS1.out HL1.out (one_take H1C.out 0 k) (by omega) (Nat.le_refl _) ?_; intro v1 w1 hw1 hg1; have hg1' : W.grownBy w1 none := hg1; have hb1 := (hg1'.block r hlr (by simp)).trans HH.out.obj; have c1 : w1.cell? ⟨r, 0, none⟩ = some (.slice (some ⟨g, 0, none⟩) fs.length cap) := (by rw [cell_of_block hb1]; rfl); have HG1 := Lib.hid hg1'; have HW1 := Lib.hid hw1; have HSZ1 := Lib.hid hg1'.size; have HB1 := Lib.hid hb1; clear hw1 hg1 hg1' c0 hb1))
    go_end0
    exact FIN.out _ _ (by have h := HW2.out; simp only [Nat.zero_add] at h ⊢; exact h) HGW.out
end
end Go.Proofs.YthchfkjdbfhnhaaGreatDoor
