/- Do both hold the same? -/
import Derived.Test.YthchfkjdbfhnhaaGreatDoorRefM
import Derived.Test.YthchfkjdbfhnhaaGreatDoorRange
import Derived.Sort.QuietIn
import Derived.Sort.BigQuietIn
namespace Go.Proofs.YthchfkjdbfhnhaaGreatDoor
open Go Go.RowKit Go.Shelf Go.Lany
attribute [local go_sem] Oper.semAt_some
set_option maxRecDepth 100000
theorem wide_fn (f : Nat) : Fence.wide.fn f = True := propext ⟨fun _ => trivial, fun _ => trivial⟩
attribute [local go_sem] wide_fn
attribute [local simp] wide_fn
/-- A region that draws its order and only reads, in a round: one walk. -/
theorem region_round_quiet {F : Fence} {n id l' : Nat} {P : Program} {Q : Exit → Act → World → Prop} {a : Act} {w : World} {l : List Oper} (hro : F.round = none) (hm : P.follows .mixedOrders = true) (hB : Region.lexB .any l.toArray = true) (hops : ∀ (i : Nat) o, l.toArray[i]? = some o → ∀ c, o.op ≠ .defer c)
    (h : wpQuietIn F n P l.toArray (fun w' => ∃ n, w' = w.drewN n) (fun a' => ∀ w', (∃ n, w' = w.drewN n) → Q .normal a' w') l a) : (Code.region id l.toArray true).wpIn (F.inRound l') n P Q a w := by
  simp only [Region.lexB, Bool.and_eq_true] at hB
  refine wpIn_region_any hm (wpAnyIn_inRound hro hops _ _ _ _ (wpAnyIn_of_quiet (C := fun w' => ∃ n, w' = w.drewN n) (Q := fun a' => ∀ w', (∃ n, w' = w.drewN n) → Q .normal a' w') hro (fun _ w' hw' h => h w' hw') _ _ _ _ ⟨1, rfl⟩ ?_))
  have := wpAnyQIn_lex (F := F) (n := n) (C := fun w' => ∃ n, w' = w.drewN n) (md := .any) hB.1 l.toArray.toList 0 (Array.replicate l.toArray.size false) a (by simp) (by simpa using hB.2) (by simpa using h)
  simpa using this
/-- Both, the two boxes of the law's function beside them. -/
structure EQ (B : Nat) (W0 : World) (n f m c r : Nat) (s : FsSt) (F G : Nat → Prop) (W : World) : Prop where
  ja : JA B W f m c r s F G
  b3 : W.heap[n]? = some (.cells #[.pointer (some ⟨r, 0, none⟩)] 25 (0, 0))
  b4 : W.heap[n + 1]? = some (.cells #[.bool false] 4 (0, 0))
  fb : ∀ k, F k → k < n
  gb : ∀ k, G k → k < n
  hn : B ≤ n
  bel : Below B W0 W
section
variable {B n f m c r : Nat} {W0 W : World} {s : FsSt} {F G : Nat → Prop}
theorem EQ.kept (h : EQ B W0 n f m c r s F G W) {S : Nat → Prop} {W' : World} (t : Turns S W W') (hs : ∀ k, S k → n + 2 ≤ k) : EQ B W0 n f m c r s F G W' := by
  have hn := h.hn
  have hml := h.ja.B.1
  have hb : ∀ k, k < n + 2 → ¬ S k := fun k hk e => by have := hs k e; omega
  refine ⟨⟨h.ja.p.kept t (fun k hk => hb k (by have := h.fb k hk; omega)) (hb _ (by omega)), h.ja.q.kept t fun k hk => hb k (by have := h.gb k hk; omega), h.ja.wf, h.ja.tree, h.ja.apart, fun k hk => ⟨(h.ja.pb k hk).1, Nat.lt_of_lt_of_le (h.ja.pb k hk).2 t.size⟩, fun k hk => ⟨(h.ja.qb k hk).1, Nat.lt_of_lt_of_le (h.ja.qb k hk).2 t.size⟩, hml, Nat.le_trans h.ja.B.2 t.size⟩, (t.block _ (lt_of_block h.b3) (hb _ (by omega))).trans h.b3, (t.block _ (lt_of_block h.b4) (hb _ (by omega))).trans h.b4, h.fb, h.gb, hn, h.bel.trans (t.below h.ja.B.2 fun k hk => hb k (by omega))⟩
theorem EQ.below (h : EQ B W0 n f m c r s F G W) {W' : World} (t : Below W.heap.size W W') : EQ B W0 n f m c r s F G W' := h.kept (S := fun _ => False) (Turns.of_below t) fun _ e => e.elim
theorem EQ.cells (h : EQ B W0 n f m c r s F G W) : W.cell? ⟨n, 0, none⟩ = some (.pointer (some ⟨r, 0, none⟩)) ∧ W.cell? ⟨n + 1, 0, none⟩ = some (.bool false) ∧ W.frozen? ⟨n + 1, 0, none⟩ = false := by
  refine ⟨?_, ?_, free_of_block h.b4 0⟩
  · rw [cell_of_block h.b3]; rfl
  · rw [cell_of_block h.b4]; rfl
end
theorem eq_start {B : Nat} {W : World} {f m c r : Nat} {s : FsSt} {F G : Nat → Prop} (J : JA B W f m c r s F G) : EQ B W W.heap.size f m c r s F G ((W.alloc (.cells #[.pointer (some ⟨r, 0, none⟩)] 25)).alloc (.cells #[.bool false] 4)) := by
  have hJ := (J.alloc (.cells #[.pointer (some ⟨r, 0, none⟩)] 25)).alloc (.cells #[.bool false] 4)
  refine ⟨hJ, (get_alloc _ _ (by simp)).trans (get_new _ _), by have := get_new (W.alloc (.cells #[.pointer (some ⟨r, 0, none⟩)] 25)) (.cells #[.bool false] 4); rwa [size_alloc] at this, fun k hk => (J.pb k hk).2, fun k hk => (J.qb k hk).2, J.B.2, ((Below.refl _ _).alloc J.B.2 _).alloc (by have := J.B.2; simp; omega) _⟩
theorem callsRt {W : World} {r : Nat} {G : Nat → Prop} {s : FsSt} (h : RAt W r G s) : Calls Tryz.prog 10 #[.pointer (some ⟨r, 0, none⟩)] W (RetQ (.int .i64 s.calls) W) := by
  obtain ⟨v, K, Kp, vs, fs, h⟩ := h
  exact callsR_at h
theorem downRt {W : World} {r : Nat} {G : Nat → Prop} {s : FsSt} (h : RAt W r G s) : Calls Tryz.prog 8 #[.pointer (some ⟨r, 0, none⟩)] W (RetQ (.bool s.down) W) := by
  obtain ⟨v, K, Kp, vs, fs, h⟩ := h
  exact downR_at h
theorem quiet_calls {P : Program} {r k : Nat} {fid : FuncId} {args : Array Value} {w : World} {v : Value} (h : Calls P fid args (w.drewN k) fun e w' => e = .returned v ∧ w.drewN k = w') : CallsIn Fence.wide r P fid args (w.drewN k) fun e w'' => e = .returned v ∧ ∃ m, w'' = w.drewN m :=
  (callsIn_wide.2 h).mono fun _ _ ⟨a, b⟩ => ⟨a, k, b.symm⟩
theorem range_strs_stop {Q : Exit → Act → World → Prop} {T : Array Value} {ds : List Deferred} {w : World} {g : Operand} {p q : Tmp} {asg body : Code} {n B : Nat} (hn : 4 ≤ n) (hg : Act.eval { tmps := T, defers := ds } g = .func (.func 77) #[] #[.pointer (some ⟨B, 0, none⟩)])
    {v : Value} {zs : List ByteArray} {K : Nat → Prop} (hc : w.cell? ⟨B, 0, none⟩ = some v) (hI : Strs K w v zs) (hK : ∀ k, K k → k < w.heap.size) (hlen : zs.length ≤ 140737488355328)
    (I : List ByteArray → World → Prop) (hO : OwnFrom w.heap.size I) (h0 : I [] w)
    (hassign : ∀ (l : Nat) (x : ByteArray) (W : World) (K : Act → World → Prop), K { tmps := (T.setIfInBounds p (.string x)).setIfInBounds q (.string x), defers := [] } W →
      asg.wpIn (Fence.wide.inRound l) (n - 1 - 1) Tryz.prog (Exit.then K (fun _ _ _ => False)) { tmps := T.setIfInBounds p (.string x), defers := [] } W)
    (hbody : ∀ (l : Nat) (pre : List ByteArray) (x : ByteArray) (W : World), I pre W → pre.length < zs.length →
      body.wpIn (Fence.wide.inRound l) (n - 1 - 1) Tryz.prog (ownPostG w.heap.size (KeepB K) I (fun _ ys _ => ¬ ys <+: zs) (pre ++ [x]) W) { tmps := (T.setIfInBounds p (.string x)).setIfInBounds q (.string x), defers := [] } W)
    (hdone : ∀ D W, w.heap.size ≤ D → I zs W → W.heap[D]? = some (.deferred (some [])) → Q .normal { tmps := T, defers := { target := .collected D, args := #[] } :: ds } W) :
    (Code.rangeFunc g #[p] asg body).wpIn Fence.wide n Tryz.prog Q { tmps := T, defers := ds } w := by
  refine wpIn_rangeFunc_ownG (F := Fence.wide) rfl (by omega) (gf := 77) (lb := #[.pointer (some ⟨B, 0, none⟩)]) hg trivial (enters_of Tryz.func77 (by kernel_rfl) rfl)
    (values_stops Fence.wide (n - 1) trivial rfl (by omega) B v zs hlen w (World.block_lt_of_cell? _ _ hc) hc hI) keepB_t (keepB_b hK) (Below.refl _ _) (fun _ => rfl)
    I (fun _ ys _ => ¬ ys <+: zs) hO (fun _ _ _ _ _ hs _ _ => hs) h0 (fun x => { tmps := (T.setIfInBounds p (.string x)).setIfInBounds q (.string x), defers := [] }) (fun l x W K hK => by simpa using hassign l x W K hK) hbody ?_ ?_
  · rintro D xs W hD rfl h hk
    exact hdone D W hD h hk
  · intro D c pre W _ hs h
    exact absurd hs h
/-- Where the count of a round stands. -/
def CRel (wS : World) (nb : Nat) (zs pre : List ByteArray) (W : World) : Prop := pre <+: zs ∧ Turns (fun k => k = nb) wS W ∧ W.heap[nb]? = some (.cells #[.int .i64 pre.length] 3 (0, 0))
theorem CRel.own {wS : World} {nb : Nat} {zs : List ByteArray} (hn : nb < wS.heap.size) : OwnFrom wS.heap.size (CRel wS nb zs) := fun pre W W' row h hg hr => by
  have hne : ∀ k, k < wS.heap.size → some k ≠ row := fun k hk e => by have := (hr k e.symm).1; omega
  exact ⟨h.1, ⟨hg.os.trans h.2.1.os, hg.tape.trans h.2.1.tape, hg.output.trans h.2.1.output, Nat.le_trans h.2.1.size hg.size, fun k hk hs => (hg.block k (Nat.lt_of_lt_of_le hk h.2.1.size) (hne k hk)).trans (h.2.1.block k hk hs)⟩, (hg.block nb (Nat.lt_of_lt_of_le hn h.2.1.size) (hne nb hn)).trans h.2.2⟩
theorem RA.rise {W : World} {r : Nat} {G : Nat → Prop} {s : FsSt} {v : Value} {K Kp : Int} {vs : List (ByteArray × Value)} {fs : List (ByteArray × ByteArray)} (h : RA W r G s v K Kp vs fs) (hw : s.Wf) : akeys fs = rise (akeys s.files) := rising_eq h.sorts.up (rise_rising hw.nodup) fun x => by rw [mem_rise]; exact has_keys h.sorts.has x
theorem prefix_next {pre zs : List ByteArray} {x : ByteArray} (h : pre <+: zs) (hl : pre.length < zs.length) : (pre ++ [x]) <+: zs ↔ zs[pre.length]? = some x := by
  obtain ⟨t, rfl⟩ := h
  cases t with
  | nil => simp at hl
  | cons y t =>
    rw [List.getElem?_append_right (Nat.le_refl _), Nat.sub_self]
    simp only [List.getElem?_cons_zero, Option.some.injEq]
    constructor
    · rintro ⟨u, hu⟩
      rw [List.append_assoc] at hu
      have := List.append_cancel_left hu
      simp at this
      exact this.1.symm
    · rintro rfl
      exact ⟨t, by simp⟩
/-- Where the rounds stand. -/
structure RS (B : Nat) (W0 : World) (n f m c r : Nat) (s : FsSt) (F G : Nat → Prop) (lo hi B2 : Nat) (v2 : Value) (a : Option Addr) (cap : Nat) (K Kp : Int) (vs : List (ByteArray × Value)) (fs : List (ByteArray × ByteArray)) (Ds : List Nat) (W : World) : Prop where
  eq : EQ B W0 n f m c r s F G W
  ra : RA W r G s (.slice a fs.length cap) K Kp vs fs
  hc : W.cell? ⟨B2, 0, none⟩ = some v2
  hv : Strs (fun k => lo ≤ k ∧ k < hi) W v2 (akeys fs)
  b2 : B2 < hi
  n2 : n + 2 ≤ hi
  sz : hi ≤ W.heap.size
  marks : Marks hi Ds W
section
variable {B n f m c r lo hi B2 cap : Nat} {W0 W : World} {s : FsSt} {F G : Nat → Prop} {v2 : Value} {a : Option Addr} {K Kp : Int} {vs : List (ByteArray × Value)} {fs : List (ByteArray × ByteArray)} {Ds : List Nat}
theorem RS.kept (h : RS B W0 n f m c r s F G lo hi B2 v2 a cap K Kp vs fs Ds W) {S : Nat → Prop} {W' : World} (t : Turns S W W') (hs : ∀ k, S k → hi ≤ k ∧ k ∉ Ds) : RS B W0 n f m c r s F G lo hi B2 v2 a cap K Kp vs fs Ds W' := by
  have hn := h.n2
  have hb : ∀ k, k < hi → ¬ S k := fun k hk e => by have := (hs k e).1; omega
  exact ⟨h.eq.kept t fun k e => by have := (hs k e).1; omega, h.ra.kept t fun k hk => hb k (by have := h.eq.gb k hk; omega), t.cellAt h.hc (hb _ h.b2), h.hv.kept t fun k hk => hb k hk.2, h.b2, hn, Nat.le_trans h.sz t.size, ⟨h.marks.1, fun D hD => ⟨(h.marks.2 D hD).1, (t.block D (lt_of_block (h.marks.2 D hD).2) fun e => (hs D e).2 hD).trans (h.marks.2 D hD).2⟩⟩⟩
theorem RS.below (h : RS B W0 n f m c r s F G lo hi B2 v2 a cap K Kp vs fs Ds W) {W' : World} (t : Below W.heap.size W W') : RS B W0 n f m c r s F G lo hi B2 v2 a cap K Kp vs fs Ds W' := h.kept (S := fun _ => False) (Turns.of_below t) fun _ e => e.elim
theorem RS.mark (h : RS B W0 n f m c r s F G lo hi B2 v2 a cap K Kp vs fs Ds W) {W1 W2 : World} {nb : Nat} (t1 : Below W.heap.size W W1) (hnb : W.heap.size ≤ nb ∧ nb < W1.heap.size) (t2 : Turns (fun k => k = nb) W1 W2) {D : Nat} (hD : W1.heap.size ≤ D) (hK : W2.heap[D]? = some (.deferred (some []))) : RS B W0 n f m c r s F G lo hi B2 v2 a cap K Kp vs fs (D :: Ds) W2 := by
  have h2 := (h.below t1).kept t2 fun k e => by
    have e' : k = nb := e
    subst e'
    exact ⟨Nat.le_trans h.sz hnb.1, fun hd => by have := lt_of_block (h.marks.2 k hd).2; omega⟩
  have hsz := h.sz
  have hs1 := t1.size
  refine ⟨h2.eq, h2.ra, h2.hc, h2.hv, h2.b2, h2.n2, h2.sz, List.nodup_cons.2 ⟨fun hd => ?_, h2.marks.1⟩, fun D' hD' => ?_⟩
  · have := lt_of_block (h.marks.2 D hd).2
    omega
  · rcases List.mem_cons.1 hD' with rfl | hD'
    · exact ⟨by omega, hK⟩
    · exact h2.marks.2 D' hD'
theorem RS.cells (h : RS B W0 n f m c r s F G lo hi B2 v2 a cap K Kp vs fs Ds W) : W.cell? ⟨n, 0, none⟩ = some (.pointer (some ⟨r, 0, none⟩)) ∧ W.cell? ⟨n + 1, 0, none⟩ = some (.bool false) ∧ W.frozen? ⟨n + 1, 0, none⟩ = false ∧ W.cell? ⟨r, 0, none⟩ = some (.slice a fs.length cap) :=
  ⟨h.eq.cells.1, h.eq.cells.2.1, h.eq.cells.2.2, h.ra.cells.1⟩
theorem turns_cell1 (W : World) (q b : Nat) (v : Value) : Turns (fun k => k = b) W ((W.drewN q).setCell ⟨b, 0, none⟩ v) :=
  ⟨rfl, rfl, rfl, by rw [size_set]; exact Nat.le_refl _, fun k _ hk => (get_other _ _ _ hk).trans rfl⟩
theorem RS.late (h : RS B W0 n f m c r s F G lo hi B2 v2 a cap K Kp vs fs Ds W) {S : Nat → Prop} {W' : World} (t : Turns S W W') (hs : ∀ k, S k → W.heap.size ≤ k) : RS B W0 n f m c r s F G lo hi B2 v2 a cap K Kp vs fs Ds W' :=
  h.below ⟨t.os, t.tape, t.output, t.size, fun k hk => t.block k hk fun e => by have := hs k e; omega⟩
theorem still_read {z t : FsSt} (h : Still z t) (hw : z.Wf) (ht : Tree z) {p d : ByteArray} (hp : aget z.files p = some d) : t.read p = (d, 0, t.after) := by
  have hm := mem_akeys.2 ⟨d, hp⟩
  have hg := hw.good p hm
  have hd : dirB (akeys z.files) p ⟨#[]⟩ = false := by
    unfold dirB
    rw [dir_of_good hg, Bool.false_or, List.any_eq_false]
    intro x hx
    unfold under
    rw [ht x hx p hm]
    simp
  have hth : thereE z p = 0 := by
    unfold thereE isFile
    rw [hd, hp]
    simp
  unfold FsSt.read
  rw [h.looks, hg, if_pos rfl, if_pos rfl, h.call, if_pos (by rfl), h.after.there, if_pos hth, h.after.files, hp]
  rfl
theorem RA.bytesG {W : World} {r : Nat} {G : Nat → Prop} {s : FsSt} {v : Value} {K Kp : Int} {vs : List (ByteArray × Value)} {fs : List (ByteArray × ByteArray)} (h : RA W r G s v K Kp vs fs) {k : Nat} {p d : ByteArray} {u : Value} (hk : fs[k]? = some (p, d)) (hv : vs[k]? = some (p, u)) : Bytes G W u d := by
  obtain ⟨h1, h2⟩ := both_get h.data hk hv
  exact bytes_of_own h1 fun j hj => (h2 j hj).1
/-- The clone that is read. -/
def Read2 (w0 : World) (f5 m5 c5 : Nat) (z : FsSt) (W : World) : Prop := ∃ t, FsAt W f5 m5 c5 (From w0.heap.size) t ∧ Still z t
theorem read_box {W : World} {f5 m5 c5 : Nat} (h : f5 < W.heap.size ∧ m5 < W.heap.size ∧ c5 < W.heap.size) : ¬ Own3 f5 m5 c5 W.heap.size := by
  rintro (e | e | e) <;> omega
theorem read_rs (h : RS B W0 n f m c r s F G lo hi B2 v2 a cap K Kp vs fs Ds W) {o : Obj} {W' : World} {f5 m5 c5 z : Nat} (t : Turns (Own3 f5 m5 c5) (W.alloc o) W') (hi5 : From z f5 ∧ From z m5 ∧ From z c5) (hz : hi ≤ z) (hD : ∀ D ∈ Ds, D < z) : RS B W0 n f m c r s F G lo hi B2 v2 a cap K Kp vs fs Ds W' := by
  obtain ⟨i1, i2, i3⟩ := hi5
  have i1' : z ≤ f5 := i1
  have i2' : z ≤ m5 := i2
  have i3' : z ≤ c5 := i3
  refine (h.below ((Below.refl _ _).alloc (Nat.le_refl _) o)).kept t ?_
  rintro k (rfl | rfl | rfl)
  · exact ⟨by omega, fun hd => by have := hD _ hd; omega⟩
  · exact ⟨by omega, fun hd => by have := hD _ hd; omega⟩
  · exact ⟨by omega, fun hd => by have := hD _ hd; omega⟩
theorem read_bytes (h : RS B W0 n f m c r s F G lo hi B2 v2 a cap K Kp vs fs Ds W) {u : Value} {d : ByteArray} (hb : Bytes G W u d) {o : Obj} {W' : World} {f5 m5 c5 z : Nat} (t : Turns (Own3 f5 m5 c5) (W.alloc o) W') (hi5 : From z f5 ∧ From z m5 ∧ From z c5) (hz : hi ≤ z) : Bytes G W' u d := by
  obtain ⟨i1, i2, i3⟩ := hi5
  have i1' : z ≤ f5 := i1
  have i2' : z ≤ m5 := i2
  have i3' : z ≤ c5 := i3
  have hn := h.n2
  refine (hb.below ((Below.refl _ _).alloc (Nat.le_refl _) o)).kept t fun k hk => ?_
  have := h.eq.gb k hk
  rintro (rfl | rfl | rfl) <;> omega
theorem after_clone (h : RS B W0 n f m c r s F G lo hi B2 v2 a cap K Kp vs fs Ds W) {w5 w6 w7 : World} {f5 m5 c5 : Nat} {t : FsSt} (h5 : FsAt w5 f5 m5 c5 (From W.heap.size) t) (hb5 : Below W.heap.size W w5) (t6 : Turns (Own1 f5) w5 w6) (t7 : Turns (Own1 f5) w6 w7) : RS B W0 n f m c r s F G lo hi B2 v2 a cap K Kp vs fs Ds w7 := by
  have hf : W.heap.size ≤ f5 := h5.inF.1
  have hs := hb5.size
  refine h.below ⟨(t6.trans t7).os.trans hb5.os, (t6.trans t7).tape.trans hb5.tape, (t6.trans t7).output.trans hb5.output, Nat.le_trans hs (t6.trans t7).size, fun k hk => ((t6.trans t7).block k (by omega) fun e => ?_).trans (hb5.block k hk)⟩
  have e' : k = f5 := e
  omega
/-- A round's body has counted one more. -/
theorem count_done {wS W W' : World} {nb : Nat} {zs pre : List ByteArray} {x : ByteArray} {Kk : Nat → Prop} (hnb : nb < wS.heap.size) (hKk : ∀ k, Kk k → k < nb) (hc : CRel wS nb zs pre W) (hx : zs[pre.length]? = some x) (hl : pre.length < zs.length) (t : Turns (fun k => k = nb) W W') (hb : W'.heap[nb]? = some (.cells #[.int .i64 ((pre.length + 1 : Nat) : Int)] 3 (0, 0))) :
    KeepsFrom wS.heap.size W W' ∧ KeepB Kk W W' ∧ CRel wS nb zs (pre ++ [x]) W' := by
  have hs := hc.2.1.size
  refine ⟨⟨t.size, fun k o hk ho _ => (t.block k (lt_of_block ho) (by omega)).trans ho⟩, fun k hk => t.block k (by have := hKk k hk; omega) (by have := hKk k hk; omega), (prefix_next hc.1 hl).2 hx, hc.2.1.trans t, ?_⟩
  rw [List.length_append]
  exact hb
end
set_option maxHeartbeats 4000000 in
theorem equal_at {B : Nat} {W : World} {f m c r : Nat} {s : FsSt} {F G : Nat → Prop} (J : JA B W f m c r s F G) : Calls Tryz.prog 11 #[fsPtr f, .pointer (some ⟨r, 0, none⟩)] W (fun e w' => e = .returned (.bool true) ∧ Below B W w') := by
  have HE := Lib.hid (eq_start J)
  obtain ⟨n, hn⟩ : ∃ n, n = W.heap.size := ⟨_, rfl⟩
  rw [← hn] at HE
  have HN := Lib.hid hn
  have HQ : ∀ k, Hid (EQ B W n f m c r s F G (((W.alloc (.cells #[.pointer (some ⟨r, 0, none⟩)] 25)).alloc (.cells #[.bool false] 4)).drewN k)) := fun k => Lib.hid (HE.out.below ⟨rfl, rfl, rfl, Nat.le_refl _, fun _ _ => rfl⟩)
  clear J hn
  refine (callsIn_wide (n := 6)).1 ?_
  refine callsIn_of_wp_marks Tryz.func11 rfl trivial ?_ rfl
  simp only [Tryz.ntmps11, List.size_toArray, List.length_cons, List.length_nil, Nat.reduceAdd, Nat.reduceSub, Array.replicate_succ, Array.replicate_zero, List.push_toArray, List.append_toArray, List.nil_append, List.cons_append]
  gi_wp2
  gi_quiet (first
    | (gi_at_call 7; refine quiet_calls (down_at (HQ _).out.ja.p))
    | (gi_at_call 8; refine quiet_calls (downRt (HQ _).out.ja.q))
    | (gi_at_call 9; refine quiet_calls (calls_at (HQ _).out.ja.p))
    | (gi_at_call 10; refine quiet_calls (callsRt (HQ _).out.ja.q)))
  obtain ⟨w1, hw1⟩ : ∃ w1, w1 = ((W.alloc (.cells #[.pointer (some ⟨r, 0, none⟩)] 25)).alloc (.cells #[.bool false] 4)).drewN nq := ⟨_, rfl⟩
  have HE1 := HQ nq
  rw [← hw1] at HE1 ⊢
  have hEN := HN.out
  rw [← hEN]
  clear hw1 HQ HE
  clear hEN
  gi_wp2_with (gi_at_call 34; refine (callsIn_wide.2 (paths_at HE1.out.ja.p HE1.out.ja.wf)).mono ?_; rintro e w2 ⟨B2, v2, rfl, hcB, hv2, hb2⟩; have HE2 := Lib.hid (HE1.out.below hb2); have HC2 := Lib.hid hcB; have HV2 := Lib.hid hv2; clear hb2 hcB hv2)
  obtain ⟨v, K, Kp, vs, fs, hq⟩ := HE2.out.ja.q
  have HQ2 := Lib.hid hq
  have hkeys := hq.rise HE2.out.ja.wf
  have hfl : fs.length ≤ 4096 := by rw [hq.sorts.length HE2.out.ja.wf]; exact HE2.out.ja.wf.many
  rw [← hkeys] at HV2
  have HKEYS := Lib.hid hkeys
  have hzl : (akeys fs).length = fs.length := by simp [akeys]
  have HZL := Lib.hid hzl
  obtain ⟨a, cap, rfl, hfo⟩ := hq.form
  have HFO := Lib.hid hfo
  have hs12 := HE1.out.bel.size
  have HR0 : Hid (RS B W n f m c r s F G w1.heap.size w2.heap.size B2 v2 a cap K Kp vs fs [] w2) := Lib.hid ⟨HE2.out, HQ2.out, HC2.out, HV2.out.mono fun k hk h => ⟨h, hk⟩, World.block_lt_of_cell? _ _ HC2.out, by have := lt_of_block HE2.out.b4; omega, Nat.le_refl _, Marks.nil _ _⟩
  clear hq hkeys hzl hfo
  refine wpIn_loop_rounds 3 ?_
  rw [roundsIn_succ]
  gi_wp2
  have HS1 := Lib.hid (HR0.out.below ((Below.refl _ _).alloc (Nat.le_refl _) (.cells #[.int .i64 0] 3)))
  have HT1 := Lib.hid (HR0.out.sz)
  refine range_strs_stop (q := 7) (by decide) rfl HS1.out.hc HS1.out.hv (fun k hk => by have h1 := hk.2; have h2 := HT1.out; rw [size_alloc]; omega) (by rw [HZL.out]; omega) (CRel _ w2.heap.size (akeys fs)) (CRel.own (by rw [size_alloc]; omega)) ⟨List.nil_prefix, Turns.refl _ _, get_new _ _⟩ ?assign ?body ?done
  case assign =>
    intro l x W' K' hK
    gi_wp2
    simpa using hK
  case body =>
    intro l pre x W' hC hpl
    have HC := Lib.hid hC
    have HW := Lib.hid (HS1.out.kept hC.2.1 fun k e => ⟨by rw [show k = w2.heap.size from e]; exact HT1.out, fun hd => by have := lt_of_block ((HR0.out.marks.2 k hd).2); rw [show k = w2.heap.size from e] at this; omega⟩)
    have e6 : W'.cell? ⟨w2.heap.size, 0, none⟩ = some (.int .i64 pre.length) := by rw [cell_of_block hC.2.2]; rfl
    have f6 : W'.frozen? ⟨w2.heap.size, 0, none⟩ = false := free_of_block hC.2.2 0
    obtain ⟨e3, e4, f4, er⟩ := HW.out.cells
    have hpf : pre.length < fs.length := by rw [← HZL.out]; exact hpl
    obtain ⟨y, hy⟩ : ∃ y, fs[pre.length]? = some y := ⟨_, List.getElem?_eq_getElem hpf⟩
    obtain ⟨a', cap', ev, hfo⟩ := HW.out.ra.form
    obtain ⟨ea, _, ecap⟩ := Value.slice.inj ev
    obtain ⟨g, u, eg, -, h1, -, -, -⟩ := hfo _ y hy
    have ey : a = some ⟨g, 0, none⟩ := by rw [ea, eg]
    have hzy : (akeys fs)[pre.length]? = some y.1 := by unfold akeys; rw [List.getElem?_map, hy]; rfl
    have HZY := Lib.hid hzy
    rw [ey] at er
    have hge : ¬ fs.length ≤ pre.length := by omega
    have hge' : decide ((fs.length : Int) ≤ (pre.length : Int)) = false := decide_eq_false (by omega)
    clear hfo ev ea eg ecap hC hy hzy ey
    cases e : (x.toList == y.1.toList) with
    | true =>
      have HX : Hid (x = y.1) := Lib.hid (bytes_eq (by rw [← toList_data, ← toList_data]; exact eq_of_beq e))
      gi_wp2
      refine region_round_quiet rfl (by kernel_rfl) (by kernel_rfl) (by intro i o ho cc; rcases i with _ | _ | _ | _ | _ | _ | _ | _ | _ | _ | _ | _ | _ | _ | _ | _ | _ | _ | _ | i <;> simp at ho <;> subst ho <;> simp) ?_
      repeat (gi_big_quiet_step (fail))
      refine wpQuietIn_nil ?_
      rintro _ ⟨nq1, rfl⟩
      gi_wp2
      exact count_done (by rw [size_alloc]; omega) (fun k hk => by have h1 := hk.2; have h2 := HT1.out; omega) HC.out (by rw [HZY.out, HX.out]) hpl (turns_cell1 _ _ _ _) (by rw [get_self, show (W'.drewN nq1).heap[w2.heap.size]? = W'.heap[w2.heap.size]? from rfl, HC.out.2.2]; rfl)
    | false =>
      gi_wp2
      refine region_round_quiet rfl (by kernel_rfl) (by kernel_rfl) (by intro i o ho cc; rcases i with _ | _ | _ | _ | _ | _ | _ | _ | _ | _ | _ | _ | _ | _ | _ | _ | _ | _ | _ | i <;> simp at ho <;> subst ho <;> simp) ?_
      repeat (gi_big_quiet_step (fail))
      refine wpQuietIn_nil ?_
      rintro _ ⟨nq1, rfl⟩
      gi_wp2
      have t : Turns (fun k => k = n + 1) W' ((W'.drewN nq1).setCell ⟨n + 1, 0, none⟩ (.bool false)) := turns_cell1 _ _ _ _
      have hn2 := HS1.out.n2
      have hsz := HT1.out
      exact ⟨⟨t.size, fun k o hk ho _ => (t.block k (lt_of_block ho) (by rw [size_alloc] at hk; omega)).trans ho⟩, fun hp => by
        have := (prefix_next HC.out.1 hpl).1 hp
        rw [HZY.out] at this
        cases this
        simp at e⟩
  case done =>
  intro D1 wb1 hD hC hK
  have HR1 := Lib.hid (HR0.out.mark ((Below.refl _ _).alloc (Nat.le_refl _) (.cells #[.int .i64 0] 3)) ⟨Nat.le_refl _, by rw [size_alloc]; omega⟩ hC.2.1 hD hK)
  have e6 : wb1.cell? ⟨w2.heap.size, 0, none⟩ = some (.int .i64 fs.length) := by rw [cell_of_block hC.2.2, HZL.out]; rfl
  obtain ⟨e3, -, -, er⟩ := HR1.out.cells
  clear hD hC hK HS1
  dsimp only [Exit.inBlock, Exit.then]
  gi_wp2
  gi_quiet (fail)
  have HR1 := Lib.hid (HR1.out.below (W' := wb1.drewN nq) ⟨rfl, rfl, rfl, Nat.le_refl _, fun _ _ => rfl⟩)
  obtain ⟨wc1, hwc⟩ : ∃ w', w' = wb1.drewN nq := ⟨_, rfl⟩
  rw [← hwc] at HR1 ⊢
  clear hwc e6 e3 er
  gi_wp2
  rw [roundsIn_succ]
  gi_wp2
  have HS2 := Lib.hid (HR1.out.below ((Below.refl _ _).alloc (Nat.le_refl _) (.cells #[.int .i64 0] 3)))
  have HT2 := Lib.hid (HR1.out.sz)
  refine range_strs_stop (q := 7) (by decide) rfl HS2.out.hc HS2.out.hv (fun k hk => by have h1 := hk.2; have h2 := HT2.out; rw [size_alloc]; omega) (by rw [HZL.out]; omega) (CRel _ wc1.heap.size (akeys fs)) (CRel.own (by rw [size_alloc]; omega)) ⟨List.nil_prefix, Turns.refl _ _, get_new _ _⟩ ?assign ?body ?done
  case assign =>
    intro l x W' K' hK
    gi_wp2
    simpa using hK
  case body =>
    intro l pre x W' hC hpl
    have HC := Lib.hid hC
    have HW := Lib.hid (HS2.out.kept hC.2.1 fun k e => ⟨by rw [show k = wc1.heap.size from e]; exact HT2.out, fun hd => by have := lt_of_block ((HR1.out.marks.2 k hd).2); rw [show k = wc1.heap.size from e] at this; omega⟩)
    have e6 : W'.cell? ⟨wc1.heap.size, 0, none⟩ = some (.int .i64 pre.length) := by rw [cell_of_block hC.2.2]; rfl
    have f6 : W'.frozen? ⟨wc1.heap.size, 0, none⟩ = false := free_of_block hC.2.2 0
    obtain ⟨e3, e4, f4, er⟩ := HW.out.cells
    have hpf : pre.length < fs.length := by rw [← HZL.out]; exact hpl
    obtain ⟨y, hy⟩ : ∃ y, fs[pre.length]? = some y := ⟨_, List.getElem?_eq_getElem hpf⟩
    obtain ⟨a', cap', ev, hfo⟩ := HW.out.ra.form
    obtain ⟨ea, _, ecap⟩ := Value.slice.inj ev
    obtain ⟨g, u, eg, -, h1, -, -, -⟩ := hfo _ y hy
    have ey : a = some ⟨g, 0, none⟩ := by rw [ea, eg]
    have hzy : (akeys fs)[pre.length]? = some y.1 := by unfold akeys; rw [List.getElem?_map, hy]; rfl
    have HZY := Lib.hid hzy
    rw [ey] at er
    have hge : ¬ fs.length ≤ pre.length := by omega
    have hge' : decide ((fs.length : Int) ≤ (pre.length : Int)) = false := decide_eq_false (by omega)
    clear hfo ev ea eg ecap hC hy hzy ey
    cases e : (x.toList == y.1.toList) with
    | true =>
      have HX : Hid (x = y.1) := Lib.hid (bytes_eq (by rw [← toList_data, ← toList_data]; exact eq_of_beq e))
      gi_wp2
      refine region_round_quiet rfl (by kernel_rfl) (by kernel_rfl) (by intro i o ho cc; rcases i with _ | _ | _ | _ | _ | _ | _ | _ | _ | _ | _ | _ | _ | _ | _ | _ | _ | _ | _ | i <;> simp at ho <;> subst ho <;> simp) ?_
      repeat (gi_big_quiet_step (fail))
      refine wpQuietIn_nil ?_
      rintro _ ⟨nq1, rfl⟩
      gi_wp2
      exact count_done (by rw [size_alloc]; omega) (fun k hk => by have h1 := hk.2; have h2 := HT2.out; omega) HC.out (by rw [HZY.out, HX.out]) hpl (turns_cell1 _ _ _ _) (by rw [get_self, show (W'.drewN nq1).heap[wc1.heap.size]? = W'.heap[wc1.heap.size]? from rfl, HC.out.2.2]; rfl)
    | false =>
      gi_wp2
      refine region_round_quiet rfl (by kernel_rfl) (by kernel_rfl) (by intro i o ho cc; rcases i with _ | _ | _ | _ | _ | _ | _ | _ | _ | _ | _ | _ | _ | _ | _ | _ | _ | _ | _ | i <;> simp at ho <;> subst ho <;> simp) ?_
      repeat (gi_big_quiet_step (fail))
      refine wpQuietIn_nil ?_
      rintro _ ⟨nq1, rfl⟩
      gi_wp2
      have t : Turns (fun k => k = n + 1) W' ((W'.drewN nq1).setCell ⟨n + 1, 0, none⟩ (.bool false)) := turns_cell1 _ _ _ _
      have hn2 := HS2.out.n2
      have hsz := HT2.out
      exact ⟨⟨t.size, fun k o hk ho _ => (t.block k (lt_of_block ho) (by rw [size_alloc] at hk; omega)).trans ho⟩, fun hp => by
        have := (prefix_next HC.out.1 hpl).1 hp
        rw [HZY.out] at this
        cases this
        simp at e⟩
  case done =>
  intro D2 wb2 hD hC hK
  have HR2 := Lib.hid (HR1.out.mark ((Below.refl _ _).alloc (Nat.le_refl _) (.cells #[.int .i64 0] 3)) ⟨Nat.le_refl _, by rw [size_alloc]; omega⟩ hC.2.1 hD hK)
  have e6 : wb2.cell? ⟨wc1.heap.size, 0, none⟩ = some (.int .i64 fs.length) := by rw [cell_of_block hC.2.2, HZL.out]; rfl
  obtain ⟨e3, -, -, er⟩ := HR2.out.cells
  clear hD hC hK HS2
  dsimp only [Exit.inBlock, Exit.then]
  gi_wp2
  gi_quiet (fail)
  have HR2 := Lib.hid (HR2.out.below (W' := wb2.drewN nq) ⟨rfl, rfl, rfl, Nat.le_refl _, fun _ _ => rfl⟩)
  obtain ⟨wc2, hwc⟩ : ∃ w', w' = wb2.drewN nq := ⟨_, rfl⟩
  rw [← hwc] at HR2 ⊢
  clear hwc e6 e3 er
  gi_wp2
  rw [roundsIn_succ]
  gi_wp2_with (first
    | (gi_at_call 31; refine (callsIn_wide.2 (clone_at HR2.out.eq.ja.p HR2.out.eq.ja.wf)).mono ?_; rintro e w5 ⟨f5, m5, c5, rfl, h5, hb5⟩; have H5 := Lib.hid h5; have HB5 := Lib.hid hb5; clear hb5)
    | (gi_at_call 27; refine (callsIn_wide.2 (restart_at h5)).mono ?_; rintro e w6 ⟨rfl, h6, t6⟩; have T6 := Lib.hid t6; clear t6)
    | (gi_at_call 25; refine (callsIn_wide.2 (setFault_at h6 0 0 0)).mono ?_; rintro e w7 ⟨rfl, h7, t7⟩; have H7 := Lib.hid h7; have T7 := Lib.hid t7; have hE7 := after_clone HR2.out H5.out HB5.out T6.out T7.out; obtain ⟨e3, -, -, er⟩ := hE7.cells; have HR7 := Lib.hid hE7; clear t7 h7 hE7))
  have hst := Still.begun (s := s.sorted)
  have HZW := Lib.hid (sorted_wf HR7.out.eq.ja.wf)
  have HZT := Lib.hid (sorted_tree HR7.out.eq.ja.tree)
  have HZH := Lib.hid (sorted_has s)
  have HRD : Hid (Read2 wc2 f5 m5 c5 s.sorted w7) := Lib.hid ⟨_, H7.out, hst.1⟩
  have HSC := Lib.hid HR2.out.sz
  have hD1 : D1 < wc2.heap.size := lt_of_block (HR2.out.marks.2 D1 (by simp)).2
  have hD2 : D2 < wc2.heap.size := lt_of_block (HR2.out.marks.2 D2 (by simp)).2
  have h27 : wc2.heap.size ≤ w7.heap.size := Nat.le_trans HB5.out.size (Nat.le_trans T6.out.size T7.out.size)
  clear hst h5 H5 HB5 h6 T6 H7 T7 e3 er HR0 HR1 HT1 HT2 HQ2 HFO HE2 HC2 HV2 HE1
  gi_loopw [73] (fun i wr => ∃ k : Nat, k ≤ fs.length ∧ i = .int .i64 k ∧ RS B W n f m c r s F G w1.heap.size w2.heap.size B2 v2 a cap K Kp vs fs [D2, D1] wr ∧ Read2 wc2 f5 m5 c5 s.sorted wr ∧ wc2.heap.size ≤ wr.heap.size) (fun i _ => fs.length - (intOf i).toNat)
  case atStart => exact ⟨0, Nat.zero_le _, rfl, HR7.out, HRD.out, h27⟩
  case round =>
    obtain ⟨k, hk, rfl, hR, ⟨t, hft, hstl⟩, hsz⟩ := hrel
    have HR := Lib.hid hR
    by_cases hlt : k < fs.length
    · obtain ⟨x, hx⟩ : ∃ x, fs[k]? = some x := ⟨_, List.getElem?_eq_getElem hlt⟩
      obtain ⟨a', cap', ev, hfo⟩ := hR.ra.form
      obtain ⟨ea, _, ecap⟩ := Value.slice.inj ev
      obtain ⟨g, u, eg, hvs, h1, h2, -, -⟩ := hfo _ x hx
      have ey : a = some ⟨g, 0, none⟩ := by rw [ea, eg]
      subst ey
      have hbu := hR.ra.bytesG hx hvs
      obtain ⟨au, cu, rfl⟩ := hbu.len
      have hxs : aget s.sorted.files x.1 = some x.2 := by
        rw [HZH.out x.1, ← hR.ra.sorts.has x.1]
        exact aget_of_mem hR.ra.sorts.nodup (List.mem_of_getElem? hx)
      have hrr := still_read hstl HZW.out HZT.out hxs
      have h9 := hft.below ((Below.refl _ _).alloc (Nat.le_refl _) (.cells #[.string x.1, .slice au x.2.size cu] 67))
      have hrd := read_at h9 x.1 (fun b hb => hstl.size HZW.out x.1 b hb)
      rw [hrr] at hrd
      have hcell : (wr.alloc (.cells #[.string x.1, .slice au x.2.size cu] 67)).cell? ⟨wr.heap.size, 1, none⟩ = some (.slice au x.2.size cu) := cell_of_block (get_new _ _) 1
      have hlt5 := hft.lt
      have hin5 := hft.inF
      have HF := Lib.hid hft
      have HST := Lib.hid hstl
      have HBU := Lib.hid hbu
      have HCL := Lib.hid hcell
      have HSL := Lib.hid hlt5
      have HIN := Lib.hid hin5
      have HSX := Lib.hid hsz
      clear hR hx ev hfo ea eg ecap hvs hbu hxs hrr h9 hcell hlt5 hin5 hft hstl hsz
      gi_wp2_with (gi_at_call 13; refine (callsIn_wide.2 hrd).mono ?_; rintro e w8 ⟨v8, rfl, hv8, h8, t8⟩; have hn8 := read_box HSL.out; have b8 := t8.cellAt HCL.out hn8; have hst8 := str_of_bytes hv8; have T8 := Lib.hid t8; have H8 := Lib.hid h8; have HR8 := Lib.hid (read_rs HR.out t8 HIN.out HSC.out (by intro D hD; simp at hD; rcases hD with rfl | rfl <;> assumption)); have hst9 := str_of_bytes (read_bytes HR.out HBU.out t8 HIN.out HSC.out); obtain ⟨a8, c8, rfl⟩ := hv8.len; clear t8 h8 hv8)
      have h1' := HSX.out
      have h2' := T8.out.size
      rw [size_alloc] at h2'
      exact ⟨⟨k + 1, by omega, by go_num, HR8.out, ⟨_, H8.out, HST.out.after⟩, by omega⟩, by simp [intOf]; omega⟩
    · obtain rfl : k = fs.length := by omega
      obtain ⟨-, e4, f4, -⟩ := hR.cells
      clear hR hft hstl
      gi_wp2
      have hR := HR.out
      have hb4 : (wr.setCell ⟨n + 1, 0, none⟩ (.bool true)).heap[n + 1]? = some (.cells #[.bool true] 4 (0, 0)) := by rw [get_self, hR.eq.b4]; rfl
      have hn2 := hR.n2
      have hm2 : Marks w2.heap.size [D2, D1] (wr.setCell ⟨n + 1, 0, none⟩ (.bool true)) := ⟨hR.marks.1, fun D hD => ⟨(hR.marks.2 D hD).1, (get_other _ _ _ (by have := (hR.marks.2 D hD).1; omega)).trans (hR.marks.2 D hD).2⟩⟩
      refine leave_marks [D2, D1] _ hm2 fun W' g1 g2 => ⟨.bool true, ?_, rfl, (hR.eq.bel.setCell (p := ⟨n + 1, 0, none⟩) (by have := hR.eq.hn; show B ≤ n + 1; omega) _).trans (g2.mono (by have := hR.eq.hn; omega))⟩
      have hr : W'.cell? ⟨n + 1, 0, none⟩ = some (.bool true) := by
        rw [cell_of_block ((g1 _ (fun h => by have := (hm2.2 _ h).1; omega)).trans hb4)]
        rfl
      simp [results, Tryz.f11, go_sem, hr]
end Go.Proofs.YthchfkjdbfhnhaaGreatDoor
