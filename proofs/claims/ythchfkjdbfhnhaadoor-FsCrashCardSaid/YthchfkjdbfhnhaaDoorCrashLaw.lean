/- Behind a call that goes wrong each file but the one that was written is as it was: the law. -/
import Derived.Test.YthchfkjdbfhnhaaDoorFiles
namespace Go.Proofs.YthchfkjdbfhnhaaDoor
open Go Go.RowKit Go.Shelf Go.Lany
set_option maxRecDepth 100000
theorem Script.mono {B B' : Nat} {w : World} {v : Value} {l : List OpV} (h : Script B w v l) (hB : B ≤ B') : Script B' w v l := by
  refine ⟨h.1.imp id ?_, fun o ho => ⟨(h.2 o ho).1.mono fun k _ hk => Nat.lt_of_lt_of_le hk hB, (h.2 o ho).2⟩⟩
  rintro ⟨b, off, sp, cap, e, h⟩
  refine ⟨b, off, sp, cap, e, h.imp id ?_⟩
  rintro ⟨hsp, hb, r⟩
  exact ⟨hsp, Nat.lt_of_lt_of_le hb hB, r⟩
theorem iter_in {w : World} {r b : Nat} {m left : List (ByteArray × Value)} (h : IterOf w r b m left) {x : ByteArray} {v : Value} (hx : (x, v) ∈ left) : aget m x = some v := by
  have hn := h.map.nodup
  obtain ⟨es, clock, seen, c0, a1, a2, a3, a4, a5, a6⟩ := h
  have h1 : (Value.string x, v) ∈ left.map (fun p => (Value.string p.1, p.2)) := List.mem_map.2 ⟨_, hx, rfl⟩
  rw [← a6] at h1
  obtain ⟨e, he, heq⟩ := List.mem_map.1 h1
  have h2 : (e.key, e.val) ∈ es.toList.map (fun e => (e.key, e.val)) := List.mem_map.2 ⟨e, (List.mem_filter.1 he).1, rfl⟩
  rw [heq, a3] at h2
  obtain ⟨p, hp, hpe⟩ := List.mem_map.1 h2
  simp only [Prod.mk.injEq] at hpe
  refine aget_of_mem hn ?_
  have e1 := Value.string.inj hpe.1
  rw [← e1, ← hpe.2]
  exact hp
theorem iter_str {w : World} {r b : Nat} {l : List (ByteArray × ByteArray)} {left : List (ByteArray × Value)} (h : IterOf w r b (strV l) left) {x : ByteArray} {v : Value} (hx : (x, v) ∈ left) : ∃ d, v = .string d ∧ aget l x = some d := by
  have h1 := iter_in h hx
  rw [strV_get] at h1
  obtain ⟨d, hd, e⟩ := Option.map_eq_some_iff.1 h1
  exact ⟨d, e.symm, hd⟩
theorem zeroS (w : World) : (zeroValue 9).run Tryd.prog w = .ok (.string ⟨#[]⟩) w := by kernel_rfl
/-- What a look-up in a map of strings finds. -/
theorem look_str {w : World} {b : Nat} {l : List (ByteArray × ByteArray)} (h : MapOf w b (strV l)) (x : ByteArray) :
    (Instr.lookup 44 (.map (some b)) (.string x) true).run Tryd.prog w = .ok (.tuple #[.string ((aget l x).getD ⟨#[]⟩), .bool (aget l x).isSome]) w ∧
    (Instr.lookup 44 (.map (some b)) (.string x) false).run Tryd.prog w = .ok (.string ((aget l x).getD ⟨#[]⟩)) w := by
  have h1 := h.lookup (P := Tryd.prog) (t := 44) (k := 9) (e := 9) (by kernel_rfl) (by kernel_rfl) (zeroS w) x
  rw [strV_get] at h1
  have e1 : ((aget l x).map Value.string).getD (.string ⟨#[]⟩) = .string ((aget l x).getD ⟨#[]⟩) := by cases aget l x <;> rfl
  have e2 : ((aget l x).map Value.string).isSome = (aget l x).isSome := by cases aget l x <;> rfl
  have ht := h1 true
  have hf := h1 false
  simp only [if_true, e1, e2] at ht
  simp only [Bool.false_eq_true, if_false, e1] at hf
  exact ⟨ht, hf⟩
/-- The two loops' relation. -/
structure KRel (w w0 : World) (b1 b2 r : Nat) (l1 l2 : List (ByteArray × ByteArray)) (lm left : List (ByteArray × Value)) (bm : Nat) (wr : World) : Prop where
  it : IterOf wr r bm lm left
  m1 : MapOf wr b1 (strV l1)
  m2 : MapOf wr b2 (strV l2)
  bel : Below w0.heap.size w0 wr
theorem KRel.next {w w0 : World} {b1 b2 r : Nat} {l1 l2 : List (ByteArray × ByteArray)} {lm left left' : List (ByteArray × Value)} {bm : Nat} {wr w' : World} (h : KRel w w0 b1 b2 r l1 l2 lm left bm wr) (hr : w0.heap.size ≤ r) (h1 : b1 < w0.heap.size) (h2 : b2 < w0.heap.size) (hi : IterOf w' r bm lm left') (hg : wr.grownBy w' (some r)) :
    KRel w w0 b1 b2 r l1 l2 lm left' bm w' :=
  ⟨hi, h.m1.of_block (hg.block _ h.m1.lt (fun e => by have := Option.some.inj e; omega)), h.m2.of_block (hg.block _ h.m2.lt (fun e => by have := Option.some.inj e; omega)), h.bel.grown hg h.bel.size fun k e => by have := Option.some.inj e; omega⟩
theorem KRel.drew {w w0 : World} {b1 b2 r : Nat} {l1 l2 : List (ByteArray × ByteArray)} {lm left : List (ByteArray × Value)} {bm : Nat} {wr : World} (h : KRel w w0 b1 b2 r l1 l2 lm left bm wr) (n : Nat) : KRel w w0 b1 b2 r l1 l2 lm left bm (wr.drewN n) :=
  ⟨h.it, h.m1, h.m2, h.bel.trans ⟨rfl, rfl, rfl, Nat.le_refl _, fun _ _ => rfl⟩⟩
theorem tail_append (a b : ByteArray) : (a ++ b).extract a.size (a ++ b).size = b := by
  apply bytes_eq
  have ha : a.data.toList.length = a.size := by simp
  have hb : b.data.toList.length = b.size := by simp
  rw [ByteArray.data_extract, Array.toList_extract, ByteArray.data_append, Array.toList_append, List.extract_eq_take_drop, ← ha, List.drop_left]
  rw [List.take_of_length_le]
  rw [ByteArray.size_append]
  omega
/-- The file system, and the last operation's box. -/
structure CR (w : World) (o : OpV) (f m c : Nat) (s : FsSt) (W : World) : Prop where
  fs : FsAt W f m c (From (w.heap.size + 1)) s
  box : W.heap[w.heap.size]? = some (.cells #[.int .i64 o.d, .string o.path, .string o.dest, .slice o.a o.b.size o.cap, .int .i64 o.k, .int .i64 o.kind, .int .i64 o.keep] 43 (0, 0))
  bel : Below w.heap.size w W
theorem CR.below {w : World} {o : OpV} {f m c : Nat} {s : FsSt} {W W' : World} (h : CR w o f m c s W) (t : Below W.heap.size W W') : CR w o f m c s W' :=
  ⟨h.fs.below t, (t.block _ (lt_of_block h.box)).trans h.box, h.bel.trans (t.mono h.bel.size)⟩
theorem CR.own3 {w : World} {o : OpV} {f m c : Nat} {s t : FsSt} {W W' : World} (h : CR w o f m c s W) (h2 : FsAt W' f m c (Grow (From (w.heap.size + 1)) W.heap.size) t) (tt : Turns (Own3 f m c) W W') (hg : 0 < w.heap.size) : CR w o f m c t W' := by
  have hl := lt_of_block h.box
  have hn := h.fs.own_from
  exact ⟨h2.again (by omega) (by omega), (tt.block _ hl (hn _ (by omega))).trans h.box, h.bel.trans (tt.below h.bel.size fun k hk => hn k (by omega))⟩
theorem CR.cells {w : World} {o : OpV} {f m c : Nat} {s : FsSt} {W : World} (h : CR w o f m c s W) :
    W.cell? ⟨w.heap.size, 0, none⟩ = some (.int .i64 o.d) ∧ W.cell? ⟨w.heap.size, 1, none⟩ = some (.string o.path) ∧ W.cell? ⟨w.heap.size, 2, none⟩ = some (.string o.dest) ∧ W.cell? ⟨w.heap.size, 3, none⟩ = some (.slice o.a o.b.size o.cap) ∧
      W.cell? ⟨w.heap.size, 4, none⟩ = some (.int .i64 o.k) ∧ W.cell? ⟨w.heap.size, 5, none⟩ = some (.int .i64 o.kind) ∧ W.cell? ⟨w.heap.size, 6, none⟩ = some (.int .i64 o.keep) := by
  refine ⟨?_, ?_, ?_, ?_, ?_, ?_, ?_⟩ <;> (rw [cell_of_block h.box]; rfl)
set_option maxHeartbeats 16000000 in
theorem fsCrash_any {w : World} (hml : Ml w) {v : Value} {l : List OpV} (hS : Script w.heap.size w v l) (hl : l.length ≤ 140737488351232) (o : OpV) (ho : Bytes (fun k => k < w.heap.size) w (.slice o.a o.b.size o.cap) o.b) (hob : o.b.size ≤ 140737488351232) :
    Calls Tryd.prog 5 #[v, .agg o.cells.toArray] w (BoolPost true w) := by
  have hg0 := hml.lt
  have b01 : Below w.heap.size w (w.alloc (.cells o.cells.toArray 43)) := (Below.refl _ _).alloc (Nat.le_refl _) _
  have hrun := run_at (hml.below b01) ((hS.below b01).mono (by rw [size_alloc]; omega)) hl
  have hq : ∀ (W : World) (r : Option Nat), (binOp .eql 44 (.map r) (.map none)).run Tryd.prog W = .ok (.bool r.isNone) W := fun W r => run_eql_map_nil W _ _ _ r Tryd.underlying44
  have hwf := FsSt.Wf.zero.runV l
  have htr := Tree.zero.runV FsSt.Wf.zero l
  obtain ⟨s, hs⟩ : ∃ s, s = FsSt.zero.runV l := ⟨_, rfl⟩
  unfold RunPost at hrun
  rw [← hs] at hwf htr hrun
  have hw1 := hwf.oneV o
  have ht1 := htr.oneV hwf o
  have HWF := Lib.hid hwf
  have HTR := Lib.hid htr
  have HW1 := Lib.hid hw1
  have HT1 := Lib.hid ht1
  have B01 := Lib.hid b01
  have HOB := Lib.hid ho
  clear hS hml hwf htr hs hw1 ht1 b01 ho
  unfold OpV.cells at *
  go_enter Tryd.func5, Tryd.ntmps5
  go_wp2_with (first
    | (go_at_call 11; refine hrun.mono ?_; rintro e w1 ⟨f, m, c, rfl, h1, t1⟩; have hR1 : CR w o f m c s w1 := ⟨by rwa [size_alloc] at h1, (t1.block _ (by simp)).trans (get_new _ _), B01.out.trans (t1.mono (by simp))⟩; clear h1 t1 hrun)
    | (go_at_call 8; refine (begun_any hR1.fs.ml).mono ?_; rintro e w2 ⟨rfl, t2⟩; have hR2 := hR1.below t2; clear t2 hR1))
  refine (files_at hR2.fs HWF.out HTR.out).mono ?_
  rintro e w3 ⟨b1, l1, rfl, hm1, hh1, hb1, t3⟩
  have hR3 := hR2.below t3
  have hlt2 := hR2.fs.lt
  obtain ⟨c0, c1, c2, c3, c4, c5, c6⟩ := hR3.cells
  have hob3 : Bytes (fun k => k < w.heap.size) w3 (.slice o.a o.b.size o.cap) o.b := HOB.out.kept (S := fun _ => False) ⟨hR3.bel.os, hR3.bel.tape, hR3.bel.output, hR3.bel.size, fun i hi _ => hR3.bel.block i hi⟩ fun _ _ => id
  have hone := one_at hR3.fs HWF.out o.d o.k o.kind o.keep o.path o.dest o.b _ hob3 (by omega)
  obtain ⟨r1, hr1⟩ : ∃ r1, r1 = s.oneV o := ⟨_, rfl⟩
  have hone' : Calls Tryd.prog 19 #[fsPtr f, .agg #[.int .i64 o.d, .string o.path, .string o.dest, .slice o.a o.b.size o.cap, .int .i64 o.k, .int .i64 o.kind, .int .i64 o.keep]] w3 (WritePost f m c (From (w.heap.size + 1)) w3 r1) := by rw [hr1]; exact hone
  rw [← hr1] at HW1 HT1
  have hcr : r1.1 ≠ 0 → Crashed s r1.2 r1.1 o.d o.path o.b := fun h => by rw [hr1] at h ⊢; exact one_crashed o.d o.k o.kind o.keep o.path o.dest o.b h
  obtain ⟨e1, s1⟩ := r1
  simp only at hcr HW1 HT1
  have HCR := Lib.hid hcr
  have HM1 := Lib.hid hm1
  have HH1 := Lib.hid hh1
  have HB1 := Lib.hid hb1
  have HR3 := Lib.hid hR3
  have hs3 := hR3.bel.size
  clear hcr hone hr1 hm1 hh1 hb1 hR3 hR2 t3 hob3
  go_wp2_with (go_at_call 19; refine hone'.mono ?_; rintro e w4 ⟨rfl, h4, t4⟩; have hR4 := HR3.out.own3 h4 t4 hg0; have hm4 := HM1.out.of_block (t4.block _ HM1.out.lt (fun e => by (have h := HB1.out; unfold Own3 at e; omega))); clear h4 t4 hone' c0 c1 c2 c3 c4 c5 c6)
  refine (files_at hR4.fs HW1.out HT1.out).mono ?_
  rintro e w5 ⟨b2, l2, rfl, hm2, hh2, hb2, t5⟩
  have hR5 := hR4.below t5
  have hm15 := hm4.of_block (t5.block _ hm4.lt)
  have hlt1 := hm15.lt
  have hlt2' := hm2.lt
  have HR5 := Lib.hid hR5
  have HM15 := Lib.hid hm15
  have HM2 := Lib.hid hm2
  have HH2 := Lib.hid hh2
  clear hm2 hh2 hm15 hm4 hR5 hR4 t5
  cases he : (e1 == 0) with
  | true =>
    go_wp2
    go_ret
    exact ⟨rfl, HR5.out.bel⟩
  | false =>
    have hC := HCR.out (by intro h; rw [h] at he; simp at he)
    have HC := Lib.hid hC
    clear hC
    go_wp2_with (at_range; refine wpList_range_str 44 9 9 rfl _ rfl (by kernel_rfl) HM15.out rfl ?_; intro w6 hi hg hs)
    go_frame
    have hK6 : KRel w w5 b1 b2 w5.heap.size l1 l2 (strV l1) (strV l1) b1 w6 := ⟨hi, HM15.out.of_block (hg.block _ hlt1 (fun e => by cases e)), HM2.out.of_block (hg.block _ hlt2' (fun e => by cases e)), (Below.refl _ _).grown hg (Nat.le_refl _) (fun k hk => by cases hk)⟩
    have HK6 := Lib.hid hK6
    clear hi hg hs hK6
    go_loopg [9, 10, 11, 12] l1.length (fun g _ _ _ _ wr => ∃ left, left.length = g ∧ KRel w w5 b1 b2 w5.heap.size l1 l2 (strV l1) left b1 wr)
    case atStart => exact ⟨_, by simp [strV], HK6.out⟩
    case round =>
      obtain ⟨left, hlen, hK⟩ := hrel
      have hnd := hK.it.nodup
      have hit := hK.it
      have HL := Lib.hid hlen
      have HK := Lib.hid hK
      clear hlen hK
      go_wp2_with (at_next; refine wpList_next_str rfl _ rfl rfl hit ?_ ?_)
      · intro hnil
        obtain ⟨wo, rfl⟩ : ∃ wo : World, wo = wr := ⟨_, rfl⟩
        have hm2o := HK.out.m2
        have hm1o := HK.out.m1
        have hb5o := HK.out.bel
        have hso := hb5o.size
        have B0o := Lib.hid (HR5.out.bel.trans (hb5o.mono HR5.out.bel.size))
        have B5o := Lib.hid hb5o
        have HM2o := Lib.hid hm2o
        have HM1o := Lib.hid hm1o
        clear hnil hnd hit hm2o hm1o hb5o HL HK
        go_wp2_with (at_range; refine wpList_range_str 44 9 9 rfl _ rfl (by kernel_rfl) HM2o.out rfl ?_; intro w6 hi hg hs)
        go_frame
        have hK6 : KRel w wo b1 b2 wo.heap.size l1 l2 (strV l2) (strV l2) b2 w6 := ⟨hi, HM1o.out.of_block (hg.block _ HM1o.out.lt (fun e => by cases e)), HM2o.out.of_block (hg.block _ HM2o.out.lt (fun e => by cases e)), (Below.refl _ _).grown hg (Nat.le_refl _) (fun k hk => by cases hk)⟩
        have HK6 := Lib.hid hK6
        clear hi hg hs hK6
        go_loopg [13, 14, 15, 16, 17, 100, 113] l2.length (fun g _ _ _ _ _ _ _ wr => ∃ left, left.length = g ∧ KRel w wo b1 b2 wo.heap.size l1 l2 (strV l2) left b2 wr)
        case atStart => exact ⟨_, by simp [strV], HK6.out⟩
        case round =>
          obtain ⟨left, hlen, hK⟩ := hrel
          have hnd := hK.it.nodup
          have hit := hK.it
          have HL := Lib.hid hlen
          have HK := Lib.hid hK
          clear hlen hK
          go_wp2_with (at_next; refine wpList_next_str rfl _ rfl rfl hit ?_ ?_)
          · intro hnil
            clear hnil hnd hit
            go_wp2
            go_ret
            exact ⟨rfl, B0o.out.trans (HK.out.bel.mono B0o.out.size)⟩
          · intro x vv w7 hin hit2 hg2 hs2 hen
            obtain ⟨y, rfl, hy⟩ := iter_str hit hin
            have hKn := HK.out.next (Nat.le_refl _) (by omega) (by omega) hit2 hg2
            have hme := adel_length hnd hin
            have hb07 : Below w.heap.size w w7 := B0o.out.trans (hKn.bel.mono B0o.out.size)
            have hsy : aget s1.files x = some y := by rw [← HH2.out x]; exact hy
            obtain ⟨hlk, -⟩ := look_str hKn.m1 x
            have HKn := Lib.hid hKn
            have HME := Lib.hid hme
            have HB07 := Lib.hid hb07
            have HSY := Lib.hid hsy
            clear hnd hit hin hit2 hg2 hs2 hy hKn hme hb07 hsy
            by_cases hA : aget l1 x = some y
            · rw [hA] at hlk
              clear hA
              simp only [Option.getD_some, Option.isSome_some] at hlk
              go_wp2
              go_roundg (adel left x).length
              case measure => have := HME.out; have := HL.out; omega
              case rel => exact ⟨_, rfl, HKn.out⟩
            · rcases HC.out.is x y HSY.out with h | ⟨hxo, he2, hd2⟩
              · exact absurd (by rw [HH1.out x]; exact h) hA
              · obtain ⟨old, hoo⟩ : ∃ old, old = (aget l1 x).getD ⟨#[]⟩ := ⟨_, rfl⟩
                obtain ⟨had, hh⟩ : ∃ had, had = (aget l1 x).isSome := ⟨_, rfl⟩
                have hdx : had = true → (old.toList == y.toList) = false := by
                  intro h
                  rw [beq_eq_false_iff_ne, toList_data, toList_data]
                  intro e
                  have e' := bytes_eq e
                  rw [hh] at h
                  obtain ⟨u, hu⟩ := Option.isSome_iff_exists.1 h
                  rw [hu] at hoo hA
                  exact hA (by rw [← e', hoo]; rfl)
                have hold : (aget s.files o.path).getD ByteArray.empty = old := by rw [← hxo, ← HH1.out x, hoo]; rfl
                rw [← hoo, ← hh] at hlk
                rw [hold] at hd2
                have hxp : (x.toList == o.path.toList) = true := by rw [hxo]; simp
                have hbox : w7.heap[w.heap.size]? = _ := (HKn.out.bel.block _ (Nat.lt_of_lt_of_le (lt_of_block HR5.out.box) B5o.out.size)).trans ((B5o.out.block _ (lt_of_block HR5.out.box)).trans HR5.out.box)
                have c0 : w7.cell? ⟨w.heap.size, 0, none⟩ = some (.int .i64 o.d) := by rw [cell_of_block hbox]; rfl
                have c1 : w7.cell? ⟨w.heap.size, 1, none⟩ = some (.string o.path) := by rw [cell_of_block hbox]; rfl
                have c3 : w7.cell? ⟨w.heap.size, 3, none⟩ = some (.slice o.a o.b.size o.cap) := by rw [cell_of_block hbox]; rfl
                have hcv : ∀ n, (convert 41 9 (.slice o.a o.b.size o.cap)).run Tryd.prog (w7.drewN n) = .ok (.string o.b) (w7.drewN n) := fun n =>
                  str_of_bytes (HOB.out.kept (w' := w7.drewN n) (S := fun _ => False) ⟨HB07.out.os, HB07.out.tape, HB07.out.output, HB07.out.size, fun i hi _ => HB07.out.block i hi⟩ fun _ _ => id)
                have hcv0 := hcv 0
                rw [World.drewN_zero] at hcv0
                clear hA hoo hh hxo hold he hbox
                rcases hd2 with ⟨hd, n, hy⟩ | ⟨hd, n, hy⟩
                · have hP : ∀ W, Calls Tryd.prog 20 #[.string o.b, .string y] W fun e w' => e = .returned (.bool true) ∧ W = w' := fun W => (Tryd.strings_HasPrefix o.b y W).mono fun _ _ ⟨h1, h2⟩ => ⟨by rw [h1, show Lib.hasPrefix o.b.data.toList y.data.toList = true by rw [hp_iff, hy, extract_list]; exact List.take_prefix _ _], h2.symm⟩
                  rw [hd] at c0
                  have HP := Lib.hid hP
                  clear hy hd hP hcv
                  rcases he2 with rfl | rfl
                  all_goals cases had
                  all_goals try have hdx' := hdx rfl
                  all_goals clear hdx
                  all_goals
                    go_wp2_with (go_at_call 20; refine (HP.out _).mono ?_; rintro e w' ⟨rfl, rfl⟩)
                    go_roundg (adel left x).length
                    case measure => have := HME.out; have := HL.out; omega
                    case rel => exact ⟨_, rfl, HKn.out⟩
                · have hy1 : Lib.hasPrefix y.data.toList old.data.toList = true := by rw [hp_iff, hy, ByteArray.data_append, Array.toList_append]; exact List.prefix_append _ _
                  have hy2 : y.extract old.size y.size = o.b.extract 0 n := by
                    rw [hy]
                    exact tail_append _ _
                  have hls : old.size ≤ y.size := by rw [hy, ByteArray.size_append]; omega
                  have hP1 : ∀ W, Calls Tryd.prog 20 #[.string y, .string old] W fun e w' => e = .returned (.bool true) ∧ w' = W := fun W => (Tryd.strings_HasPrefix y old W).mono fun _ _ ⟨h1, h2⟩ => ⟨by rw [h1, hy1], h2⟩
                  have hP2 : ∀ W, Calls Tryd.prog 20 #[.string o.b, .string (y.extract old.size y.size)] W fun e w' => e = .returned (.bool true) ∧ w' = W := fun W => (Tryd.strings_HasPrefix o.b (y.extract old.size y.size) W).mono fun _ _ ⟨h1, h2⟩ => ⟨by rw [h1, hy2, show Lib.hasPrefix o.b.data.toList (o.b.extract 0 n).data.toList = true by rw [hp_iff, extract_list]; exact List.take_prefix _ _], h2⟩
                  rw [hd] at c0
                  have HP1 := Lib.hid hP1
                  have HP2 := Lib.hid hP2
                  clear hy hd hP1 hP2 hy1 hy2
                  rcases he2 with rfl | rfl
                  all_goals cases had
                  all_goals try have hdx' := hdx rfl
                  all_goals clear hdx
                  all_goals
                    go_wp2
                    go_quiet (first | (go_at_call 20; (with_reducible exact Calls.quiet_of_same (HP1.out _))) | (go_at_call 20; (with_reducible exact Calls.quiet_of_same (HP2.out _))))
                    go_wp2
                    go_roundg (adel left x).length
                    case measure => have := HME.out; have := HL.out; omega
                    case rel => exact ⟨_, rfl, HKn.out.drew _⟩
      · intro x vv w7 hin hit2 hg2 hs2 hen
        obtain ⟨d, rfl, hd⟩ := iter_str hit hin
        have hKn := HK.out.next (Nat.le_refl _) hlt1 hlt2' hit2 hg2
        obtain ⟨y, hy, hxy⟩ := HC.out.was x d (by rw [← HH1.out x]; exact hd)
        have hy2 : aget l2 x = some y := by rw [HH2.out x]; exact hy
        obtain ⟨hlk, hlk2⟩ := look_str hKn.m2 x
        rw [hy2] at hlk hlk2
        simp only [Option.getD_some, Option.isSome_some] at hlk hlk2
        have hme := adel_length hnd hin
        have c1 : w7.cell? ⟨w.heap.size, 1, none⟩ = some (.string o.path) := by
          rw [hKn.bel.cell (p := ⟨w.heap.size, 1, none⟩) (lt_of_block HR5.out.box)]
          exact HR5.out.cells.2.1
        have HKn := Lib.hid hKn
        have HME := Lib.hid hme
        clear hnd hit hin hit2 hg2 hs2 hd hKn hme hy hy2
        cases edy : (d.toList == y.toList) with
        | true =>
          have edy' : (d.toList != y.toList) = false := by simp [bne, edy]
          clear hxy
          go_wp2
          go_roundg (adel left x).length
          case measure => have := HME.out; have := HL.out; omega
          case rel => exact ⟨_, rfl, HKn.out⟩
        | false =>
          have edy' : (d.toList != y.toList) = true := by simp [bne, edy]
          have hxp : (x.toList == o.path.toList) = true := by
            rcases hxy with h | h
            · rw [h] at edy; simp at edy
            · rw [h]; simp
          have hxp' : (x.toList != o.path.toList) = false := by simp [bne, hxp]
          clear hxy
          go_wp2
          go_roundg (adel left x).length
          case measure => have := HME.out; have := HL.out; omega
          case rel => exact ⟨_, rfl, HKn.out⟩
end Go.Proofs.YthchfkjdbfhnhaaDoor
