/- The last lines of bytes: the program's. -/
import Derived.Test.YtofkdmmoheffbaaGreatDoorHistR
namespace Go.Proofs.YtofkdmmoheffbaaGreatDoor
open Go Go.RowKit Go.Shelf Go.Lany
attribute [local go_sem] Oper.semAt_some
set_option maxRecDepth 100000
def countP (l : List Ln) : Nat := (l.filter fun x => proper x.2).length
theorem countP_snoc (l : List Ln) (x : Ln) : countP (l ++ [x]) = countP l + if proper x.2 then 1 else 0 := by
  unfold countP
  rw [List.filter_append, List.length_append]
  cases h : proper x.2 <;> simp [h]
theorem countP_cons (l : List Ln) (x : Ln) : countP (x :: l) = (if proper x.2 then 1 else 0) + countP l := by
  unfold countP
  cases h : proper x.2 <;> simp [h]; omega
theorem countP_lines (L : List UInt8) (p : Nat) (t : Int) : countP (linesAt L p) = (parseT L t).length := by
  induction hn : L.length using Nat.strongRecOn generalizing L p t with
  | _ n ih =>
    subst hn
    by_cases h : L = []
    · rw [h, linesAt_nil, parseT_nil]; rfl
    · have hr := rest_length h
      rw [linesAt_cons p h, countP_cons]
      cases hs : stampL (first L) with
      | some k => rw [parseT_stamp t h hs, ih _ hr _ _ (k : Int) rfl, show proper (first L) = false by simp [proper, hs]]; simp
      | none =>
        by_cases he : first L = []
        · rw [parseT_empty t h he, ih _ hr _ _ 0 rfl, show proper (first L) = false by simp [proper, he]]; simp
        · rw [parseT_line t h hs he, ih _ hr _ _ 0 rfl, show proper (first L) = true by simp [proper, hs, he], List.length_cons]; simp; omega
theorem skip_at (pre : List Ln) (x : Ln) : ∀ (L : List UInt8) (p m : Nat), pre ++ [x] <+: linesAt L p → (∀ j, j < pre.length → countP (pre.take j) < m) → countP pre = m → skipL m L = L.drop (x.1 - p) := by
  induction pre with
  | nil =>
    intro L p m hp _ hm
    have hm0 : m = 0 := hm.symm
    rw [hm0, skipL_zero]
    by_cases h : L = []
    · rw [h]; simp
    · rw [linesAt_cons p h] at hp
      have := (List.cons_prefix_cons.1 hp).1
      rw [this]; simp
  | cons y pre ih =>
    intro L p m hp hj hm
    by_cases h : L = []
    · rw [h, linesAt_nil] at hp; simp at hp
    · rw [linesAt_cons p h] at hp
      obtain ⟨rfl, hp'⟩ := List.cons_prefix_cons.1 hp
      have h0 := hj 0 (by simp)
      have hm0 : m ≠ 0 := by omega
      rw [countP_cons] at hm
      rw [skipL_step h hm0]
      have hx := linesAt_mem (hp'.mem (List.mem_append_right _ (List.mem_singleton.2 rfl)))
      have hc : countP pre = if proper (first L) then m - 1 else m := by
        cases hpr : proper (first L)
        · rw [hpr] at hm; simp at hm ⊢; exact hm
        · rw [hpr] at hm; simp at hm ⊢; omega
      rw [ih (rest L) (p + (first L).length + 1) _ hp' ?_ hc, rest_eq, List.drop_drop]
      · congr 1; omega
      · intro j hjl
        have := hj (j + 1) (by simpa using hjl)
        rw [List.take_succ_cons, countP_cons] at this
        cases hpr : proper (first L)
        · rw [hpr] at this; simp at this ⊢; exact this
        · rw [hpr] at this; simp at this ⊢; omega
theorem up_block {W w4 : World} {k : Nat} {o : Obj} (h : w4.heap[k]? = W.heap[k]?) (hk : W.heap[k]? = some o) (N : Nat) : (w4.alloc (.cells #[.int .i64 (N : Int)] 3)).heap[k]? = some o :=
  (get_alloc w4 _ (lt_of_block (h.trans hk))).trans (h.trans hk)
theorem up_one {w : World} {k : Nat} {o : Obj} (h : w.heap[k]? = some o) : (w.alloc (.cells #[.int .i64 0] 3)).heap[k]? = some o := (get_alloc w _ (lt_of_block h)).trans h
structure LRel (W7 : World) (A M : Nat) (l : List Ln) (W : World) : Prop where
  t : Turns (fun k => k = A) W7 W
  box : W.heap[A]? = some (.cells #[.int .i64 (countP l : Int)] 3 (0, 0))
  le : countP l ≤ M
  lt : ∀ j, j < l.length → countP (l.take j) < M
structure LEnd (W7 : World) (A R M : Nat) (L : List UInt8) (l : List Ln) (W : World) : Prop where
  ex : ∃ v l' x, l = l' ++ [x] ∧ countP l' = M ∧ (∀ j, j < l'.length → countP (l'.take j) < M) ∧ W.heap[R]? = some (.cells #[v] 37 (0, 0)) ∧ OwnU8 W7.heap.size W v (L.drop x.1)
  t : Turns (fun k => k = A ∨ k = R) W7 W
theorem grown_turns {w0 W W' : World} {S : Nat → Prop} {row : Option Nat} (t : Turns S w0 W) (hg : W.grownBy W' row) (hr : ∀ r, row = some r → w0.heap.size ≤ r) : Turns S w0 W' :=
  ⟨hg.os.trans t.os, hg.tape.trans t.tape, hg.output.trans t.output, Nat.le_trans t.size hg.size, fun k hk hs => (hg.block k (Nat.lt_of_lt_of_le hk t.size) fun e => by have := hr k e.symm; omega).trans (t.block k hk hs)⟩
theorem LRel.own {W7 : World} {A M : Nat} (hA : A < W7.heap.size) {α : Type} (f : List α → List Ln) : OwnFrom W7.heap.size (fun pre => LRel W7 A M (f pre)) := fun pre W W' row h hg hr =>
  ⟨grown_turns h.t hg fun r e => (hr r e).1, (hg.block A (lt_of_block h.box) fun e => by have := (hr A e.symm).1; omega).trans h.box, h.le, h.lt⟩
theorem LEnd.own {W7 : World} {A R M : Nat} {L : List UInt8} (hR : R < W7.heap.size) {α : Type} (f : List α → List Ln) : OwnFrom W7.heap.size (fun pre => LEnd W7 A R M L (f pre)) := fun pre W W' row h hg hr => by
  obtain ⟨v, l', x, h1, h2, h3, h4, h5⟩ := h.ex
  refine ⟨⟨v, l', x, h1, h2, h3, (hg.block R (lt_of_block h4) fun e => by have := (hr R e.symm).1; omega).trans h4, ?_⟩, grown_turns h.t hg fun r e => (hr r e).1⟩
  refine ⟨h5.1, h5.2.imp id ?_⟩
  rintro ⟨g, cap, cur, e, hB, hh, r⟩
  refine ⟨g, cap, cur, e, hB, (hg.block g (lt_of_block hh) fun e' => ?_).trans hh, r⟩
  obtain ⟨-, o, h6, h7⟩ := hr g e'.symm
  rw [hh] at h6
  cases h6
  cases h7
def LastPost (L : List UInt8) (w : World) (e : Ending) (w' : World) : Prop := ∃ v, e = .returned v ∧ Bytes (fun k => w.heap.size ≤ k) w' v (bs L) ∧ Below w.heap.size w w'
set_option maxHeartbeats 4000000 in
theorem last_at {w : World} {v : Value} {s : ByteArray} (h : Bytes (fun k => k < w.heap.size) w v s) (hs : s.size ≤ 1099511627776) (n : Int) (hn : -9223372036854775808 ≤ n ∧ n ≤ 9223372036854775807) (hev : EvS w) :
    Calls Tryz.prog 30 #[v, .int .i64 n] w (LastPost (lastL s.data.toList n) w) := by
  obtain ⟨a, cap, rfl⟩ := h.len
  have hl : s.data.toList.length = s.size := by simp
  obtain ⟨W3, hW3⟩ : ∃ W3, W3 = ((w.alloc (.cells #[.slice a s.size cap] 37)).alloc (.cells #[.int .i64 n] 3)).alloc (.cells #[.slice none 0 0] 37) := ⟨_, rfl⟩
  have hsz : W3.heap.size = w.heap.size + 3 := by rw [hW3]; simp
  have hbw : Below w.heap.size w W3 := by rw [hW3]; exact (((Below.refl _ _).alloc (Nat.le_refl _) _).alloc (by simp) _).alloc (by simp; omega) _
  have hB : W3.heap[w.heap.size]? = some (.cells #[.slice a s.size cap] 37 (0, 0)) := by rw [hW3, get_alloc _ _ (by simp; omega), get_alloc _ _ (by simp)]; exact get_new _ _
  have hN : W3.heap[w.heap.size + 1]? = some (.cells #[.int .i64 n] 3 (0, 0)) := by
    have := get_new (w.alloc (.cells #[.slice a s.size cap] 37)) (.cells #[.int .i64 n] 3)
    rw [size_alloc] at this
    rw [hW3, get_alloc _ _ (by simp), this]
  have hR : W3.heap[w.heap.size + 1 + 1]? = some (.cells #[.slice none 0 0] 37 (0, 0)) := by
    have := get_new ((w.alloc (.cells #[.slice a s.size cap] 37)).alloc (.cells #[.int .i64 n] 3)) (.cells #[.slice none 0 0] 37)
    rw [size_alloc, size_alloc] at this
    rw [hW3]; exact this
  have hby3 : Bytes (fun k => k < w.heap.size) W3 (.slice a s.size cap) s := h.below hbw
  have HBYW := Lib.hid h
  have HEVW := Lib.hid hev
  have hpr := parse_at (w := W3) (hby3.mono fun k _ h => by omega) hs (hev.below hbw)
  obtain ⟨L, hL⟩ : ∃ L, L = s.data.toList := ⟨_, rfl⟩
  rw [← hL] at hl hpr ⊢
  have hpl := parseT_length_le L 0
  rw [hl] at hpl
  obtain ⟨N, hNe⟩ : ∃ N, N = (parseL L).length := ⟨_, rfl⟩
  have hNl : N ≤ s.size := by rw [hNe]; exact hpl
  have hn1 := hn.1
  have hn2 := hn.2
  have cB := cell0 hB
  have cN := cell0 hN
  have cR := cell0 hR
  have fR := free_of_block hR 0
  have HLS := Lib.hid hL
  have HLEN := Lib.hid hl
  have HNE := Lib.hid hNe
  have HW3 := Lib.hid hW3
  have HSZ := Lib.hid hsz
  have HBW := Lib.hid hbw
  have HB := Lib.hid hB
  have HN := Lib.hid hN
  have HR := Lib.hid hR
  have HBY := Lib.hid hby3
  clear h hL hl hpl hNe hn hW3 hsz hbw hB hN hR hby3
  refine (callsIn_wide (n := 6)).1 ?_
  refine callsIn_of_wp_marks Tryz.func30 rfl trivial ?_ rfl
  simp only [Tryz.ntmps30, List.size_toArray, List.length_cons, List.length_nil, Nat.reduceAdd, Nat.reduceSub, Array.replicate_succ, Array.replicate_zero, List.push_toArray, List.append_toArray, List.nil_append, List.cons_append]
  by_cases h0 : n ≤ 0
  · have HE : Hid (lastL L n = []) := Lib.hid (by unfold lastL; rw [if_pos h0])
    gi_wp2_with (refine ⟨trivial, ?_⟩; gi_at_call 25; rw [← HW3.out]; refine (callsIn_wide.2 hpr).mono ?_; rintro e w4 ⟨v4, rfl, hr4, hb4⟩; obtain ⟨a4, c4, rfl⟩ := hr4.form; rw [← HNE.out]; have q0 := up_block (hb4.block _ (lt_of_block HB.out)) HB.out N; have q1 := up_block (hb4.block _ (lt_of_block HN.out)) HN.out N; have q2 := up_block (hb4.block _ (lt_of_block HR.out)) HR.out N; have e0 := cell0 q0; have d0 := cell0 (up_one q0); have e1 := cell0 q1; have e2 := cell0 q2; have f2 := free_of_block q2 0; have hz4 : w.heap.size + 3 ≤ w4.heap.size := HSZ.out ▸ hb4.size; have HB4 := Lib.hid hb4; have Q0 := Lib.hid q0; have Q1 := Lib.hid q1; have Q2 := Lib.hid q2; clear hr4 hb4 q0 q1 q2)
    have hset := set_block Q2.out 0 (.slice none 0 0)
    have HS := Lib.hid hset
    refine leave_marks (base := w.heap.size) [] _ (Marks.nil _ _) fun W' h1 h2 => ?_
    have hc := cell0 ((h1 _ (by simp)).trans HS.out)
    refine ⟨.slice none 0 0, by simp [results, Tryz.f30, go_sem, hc], _, rfl, ?_, ?_⟩
    · rw [HE.out]; exact bytes_nil _ _
    · exact (((HBW.out.trans (HB4.out.mono (by rw [HSZ.out]; omega))).alloc (by omega) _).setCell (by show w.heap.size ≤ w.heap.size + 1 + 1; omega) _).trans (h2.mono (Nat.le_refl _))
  · by_cases hle : (N : Int) ≤ n
    · have HE : Hid (lastL L n = L) := Lib.hid (by rw [lastL_pos h0, ← HNE.out, show N - n.toNat = 0 by omega, skipL_zero])
      gi_wp2_with (refine ⟨trivial, ?_⟩; gi_at_call 25; rw [← HW3.out]; refine (callsIn_wide.2 hpr).mono ?_; rintro e w4 ⟨v4, rfl, hr4, hb4⟩; obtain ⟨a4, c4, rfl⟩ := hr4.form; rw [← HNE.out]; have q0 := up_block (hb4.block _ (lt_of_block HB.out)) HB.out N; have q1 := up_block (hb4.block _ (lt_of_block HN.out)) HN.out N; have q2 := up_block (hb4.block _ (lt_of_block HR.out)) HR.out N; have e0 := cell0 q0; have d0 := cell0 (up_one q0); have e1 := cell0 q1; have e2 := cell0 q2; have f2 := free_of_block q2 0; have hz4 : w.heap.size + 3 ≤ w4.heap.size := HSZ.out ▸ hb4.size; have HB4 := Lib.hid hb4; have Q0 := Lib.hid q0; have Q1 := Lib.hid q1; have Q2 := Lib.hid q2; clear hr4 hb4 q0 q1 q2)
      have HC2 := Lib.hid (And.intro HB4.out HBY.out)
      have hby5 : Bytes (fun k => k < w.heap.size) (w4.alloc (.cells #[.int .i64 (N : Int)] 3)) (.slice a s.size cap) s := (HBY.out.below (HB4.out)).below ((Below.refl _ _).alloc (Nat.le_refl _) _)
      have hcl := clone_any hby5 (by omega)
      refine ⟨trivial, ?_⟩
      refine (callsIn_wide.2 hcl).mono ?_
      rintro e w6 ⟨v6, rfl, hv6, hb6⟩
      obtain ⟨a6, c6, rfl⟩ := hv6.len
      have q6 := (hb6.block _ (lt_of_block Q2.out)).trans Q2.out
      have e6 := cell0 q6
      have f6 := free_of_block q6 0
      have Q6 := Lib.hid q6
      have HV6 := Lib.hid hv6
      have HB6 := Lib.hid hb6
      clear hby5 hcl hv6 hb6 q6
      gi_wp2
      have hset := set_block Q6.out 0 (.slice a6 s.size c6)
      have HS := Lib.hid hset
      have hb7 : Below w.heap.size w w6 := ((HBW.out.trans (HB4.out.mono (by rw [HSZ.out]; omega))).alloc (by omega) _).trans (HB6.out.mono (by simp; omega))
      refine leave_marks (base := w.heap.size) [] _ (Marks.nil _ _) fun W' h1 h2 => ?_
      have hc := cell0 ((h1 _ (by simp)).trans HS.out)
      refine ⟨.slice a6 s.size c6, by simp [results, Tryz.f30, go_sem, hc], _, rfl, ?_, ?_⟩
      · rw [HE.out, HLS.out]
        have hv : Bytes (fun k => w4.heap.size + 1 ≤ k) w6 (.slice a6 s.size c6) s := HV6.out.mono fun k _ h => by simpa using h
        rcases hv with h | ⟨b, off, sp, cp, h3, h4, h5⟩
        · exact .inl h
        · refine .inr ⟨b, off, sp, cp, h3, h4, h5.imp id ?_⟩
          rintro ⟨h5, h6, cells, e, fr, h7, h8⟩
          exact ⟨h5, by omega, cells, e, fr, (h1 b (by simp)).trans ((get_other _ _ _ (by omega)).trans h7), h8⟩
      · exact (hb7.setCell (by show w.heap.size ≤ w.heap.size + 1 + 1; omega) _).trans (h2.mono (Nat.le_refl _))
    · gi_wp2_with (first
        | (refine ⟨trivial, ?_⟩; gi_at_call 25; rw [← HW3.out]; refine (callsIn_wide.2 hpr).mono ?_; rintro e w4 ⟨v4, rfl, hr4, hb4⟩; obtain ⟨a4, c4, rfl⟩ := hr4.form; rw [← HNE.out]; have q0 := up_block (hb4.block _ (lt_of_block HB.out)) HB.out N; have q1 := up_block (hb4.block _ (lt_of_block HN.out)) HN.out N; have q2 := up_block (hb4.block _ (lt_of_block HR.out)) HR.out N; have e0 := cell0 q0; have d0 := cell0 (up_one q0); have e1 := cell0 q1; have e2 := cell0 q2; have f2 := free_of_block q2 0; have hz4 : w.heap.size + 3 ≤ w4.heap.size := HSZ.out ▸ hb4.size; have HB4 := Lib.hid hb4; have Q0 := Lib.hid q0; have Q1 := Lib.hid q1; have Q2 := Lib.hid q2; clear hr4 hb4 q0 q1 q2)
        | (refine ⟨trivial, ?_⟩; gi_at_call 51; refine (callsIn_wide.2 (lines_at a s.size cap _)).mono ?_; rintro e w7 ⟨rfl, rfl⟩))
      obtain ⟨W7, hW7⟩ : ∃ W7, W7 = ((w4.alloc (.cells #[.int .i64 (N : Int)] 3)).alloc (.cells #[.int .i64 0] 3)).alloc (.cells #[.slice a s.size cap] 37) := ⟨_, rfl⟩
      rw [← hW7]
      have hz7 : W7.heap.size = w4.heap.size + 3 := by rw [hW7]; simp
      have hb7 : Below w4.heap.size w4 W7 := by rw [hW7]; exact (((Below.refl _ _).alloc (Nat.le_refl _) _).alloc (by simp) _).alloc (by simp; omega) _
      have up : ∀ k o, (w4.alloc (.cells #[.int .i64 (N : Int)] 3)).heap[k]? = some o → W7.heap[k]? = some o := fun k o h => by
        have hk := lt_of_block h
        rw [hW7, get_alloc _ _ (by rw [size_alloc]; omega), get_alloc _ _ hk]; exact h
      have g0 := up _ _ Q0.out
      have g1 := up _ _ Q1.out
      have g2 := up _ _ Q2.out
      have g3 := up _ _ (get_new w4 _)
      have g4 : W7.heap[w4.heap.size + 1]? = some (.cells #[.int .i64 0] 3 (0, 0)) := by
        have := get_new (w4.alloc (.cells #[.int .i64 (N : Int)] 3)) (.cells #[.int .i64 0] 3)
        rw [size_alloc] at this
        rw [hW7, get_alloc _ _ (by simp), this]
      have hX : W7.cell? ⟨w4.heap.size + 1 + 1, 0, none⟩ = some (.slice a s.size cap) := by rw [hW7]; go_simp
      have hw7 : Below w.heap.size w W7 := (HBW.out.trans (HB4.out.mono (by rw [HSZ.out]; omega))).trans (hb7.mono (by omega))
      have hBY : Bytes (fun k => k < w.heap.size ∨ k = w4.heap.size + 1 + 1) W7 (.slice a s.size cap) s := ((HBY.out.below HB4.out).below hb7).mono fun k _ h => .inl h
      have hev7 := hev.below hw7
      obtain ⟨M, hM⟩ : ∃ M, M = N - n.toNat := ⟨_, rfl⟩
      have hMi : (M : Int) = N - n := by omega
      have hMs : M ≤ s.size := by omega
      have hMN : M < N := by omega
      have HE : Hid (lastL L n = skipL M L) := Lib.hid (by rw [lastL_pos (by omega), ← HNE.out, hM])
      have HZ7 := Lib.hid hz7
      have HW7 := Lib.hid hw7
      have HEV7 := Lib.hid hev7
      have G0 := Lib.hid g0
      have G1 := Lib.hid g1
      have G2 := Lib.hid g2
      have G3 := Lib.hid g3
      have HMI := Lib.hid hMi
      have HM := Lib.hid hM
      have hM0 : 0 < M := by omega
      clear hz7 hw7 hev7 g0 g1 g2 g3 hW7 up hev hb7 Q0 Q1 Q2 hMi hM
      have h00 : LRel W7 (w4.heap.size + 1) M (vals ([] : List (LnM s.data.toList))) W7 := ⟨Turns.refl _ _, g4, Nat.zero_le _, fun j hj => absurd hj (Nat.not_lt_zero _)⟩
      clear g4
      refine range_lines (by decide) rfl hX hBY (.inr rfl) (fun k hk => by rw [HZ7.out]; omega) (by omega) (fun pre => LRel W7 (w4.heap.size + 1) M (vals pre)) (fun c pre W => c = .ret ∧ LEnd W7 (w4.heap.size + 1) (w.heap.size + 1 + 1) M s.data.toList (vals pre) W) (LRel.own (by rw [HZ7.out]; omega) _) (fun c pre W W' row h hg hr => ⟨h.1, LEnd.own (by rw [HZ7.out]; omega) vals pre W W' row h.2 hg hr⟩) h00 (fun x t => (t.setIfInBounds 7 (.int .i64 (x.1 : Int))).setIfInBounds 8 (.string (bs x.2))) ?assign ?body ?done ?stop
      case assign =>
        intro l x W K hK
        gi_wp2
        simpa using hK
      case body =>
        intro l pre x W hG hpl
        obtain ⟨x, hxm⟩ := x
        have hmem := linesAt_mem hxm
        have hsl : s.data.toList.length = s.size := by simp
        have hWs := hG.t.size
        have hz7 := HZ7.out
        have b0 := (hG.t.block w.heap.size (by omega) (by omega)).trans G0.out
        have b1 := (hG.t.block (w.heap.size + 1) (by omega) (by omega)).trans G1.out
        have b2 := (hG.t.block (w.heap.size + 1 + 1) (by omega) (by omega)).trans G2.out
        have b3 := (hG.t.block w4.heap.size (by omega) (by omega)).trans G3.out
        have c0 := cell0 b0
        have c1 := cell0 b1
        have c3 := cell0 b3
        have hbA := hG.box
        have cA := cell0 hbA
        have hle := hG.le
        have hvl : (vals pre).length = pre.length := by simp [vals]
        have hbW : Below w.heap.size w W := HW7.out.trans (hG.t.below HW7.out.size fun k hk e => by omega)
        have hbyW := HBYW.out.below hbW
        have hevW := HEVW.out.below hbW
        have hstamp := stamp_at (bs x.2) (by rw [bs_size]; omega) W hevW
        rw [stampB_bs] at hstamp
        have HG := Lib.hid hG
        have HA := Lib.hid hbA
        have HB2 := Lib.hid b2
        clear hG b0 b1 b2 b3 hbA hevW hz7
        obtain ⟨C, hC⟩ : ∃ C, C = countP (vals pre) := ⟨_, rfl⟩
        rw [← hC] at cA hle HA
        have HC := Lib.hid hC
        clear hC
        by_cases hk : C = M
        · have heq : (((C : Nat) : Int) == ((N : Int) - n)) = true := by rw [beq_iff_eq, hk]; exact HMI.out
          obtain ⟨b, off, cap', e, hcap, -, -⟩ := bytes_get HBY.out (by omega)
          cases e
          have hpt := bytes_part hbyW (p := x.1) (m := s.size - x.1) (D := s.data.toList.drop x.1) (by rw [List.take_of_length_le (by rw [List.length_drop, hsl]; exact Nat.le_refl _)]) (by rw [List.length_drop, hsl]) (by omega)
          have hcl := clone_row hpt (by rw [bs_size, List.length_drop]; omega)
          have hlt : x.1 < s.size := by omega
          clear hbyW hpt
          gi_wp2
          refine ⟨trivial, ?_⟩
          refine (CallsIn.inRound l (callsIn_wide.2 hcl)).mono ?_
          rintro e w6 ⟨v6, rfl, hv6, hb6⟩
          have ho6 : OwnU8 W.heap.size w6 v6 (s.data.toList.drop x.1) := by rw [bs_size] at hv6; exact hv6
          obtain ⟨a6, c6, rfl⟩ := ho6.form
          have q6 := (hb6.block _ (lt_of_block HB2.out)).trans HB2.out
          have e6 := cell0 q6
          have f6 := free_of_block q6 0
          have Q6 := Lib.hid q6
          have HO6 := Lib.hid ho6
          have HB6 := Lib.hid hb6
          have hz6 := hb6.size
          clear hcl hv6 hb6 q6 ho6 cA c0 c1 c3
          have HDL := Lib.hid (show (s.data.toList.drop x.1).length = s.size - x.1 by rw [List.length_drop, hsl])
          gi_wp2
          have hS : Step W7.heap.size (w4.heap.size + 1) (w.heap.size + 1 + 1) W (w6.setCell ⟨w.heap.size + 1 + 1, 0, none⟩ (.slice a6 (s.size - x.1) c6)) := (Step.of_below HB6.out).set (.inr rfl) _
          have hz7 := HZ7.out
          refine ⟨hS.keeps (by omega) (by omega), rfl, ⟨.slice a6 (s.size - x.1) c6, vals pre, x, vals_snoc _ _, HC.out.symm.trans hk, ?_, ?_, ?_⟩, ?_⟩
          · intro j hj
            exact HG.out.lt j hj
          · rw [set_block Q6.out]; rfl
          · have h7 := HO6.out
            rw [HDL.out] at h7
            refine ⟨h7.1, h7.2.imp id ?_⟩
            rintro ⟨g, cp, cur, e, hB, hh, r⟩
            exact ⟨g, cp, cur, e, by omega, (get_other _ _ _ (by omega)).trans hh, r⟩
          · exact Turns.step (HG.out.t.mono fun k _ h => .inl h) hS
        · have hne : (((C : Nat) : Int) == ((N : Int) - n)) = false := by rw [beq_eq_false_iff_ne]; intro e; have := HMI.out; omega
          have hCM : C < M := by omega
          have hfin : ∀ W', Step W7.heap.size (w4.heap.size + 1) (w.heap.size + 1 + 1) W W' → W'.heap[w.heap.size + 1 + 1]? = W.heap[w.heap.size + 1 + 1]? → W'.heap[w4.heap.size + 1]? = some (.cells #[.int .i64 ((C + if proper x.2 then 1 else 0 : Nat) : Int)] 3 (0, 0)) →
              KeepsFrom W7.heap.size W W' ∧ KeepB (fun k => k < w.heap.size ∨ k = w4.heap.size + 1 + 1) W W' ∧ LRel W7 (w4.heap.size + 1) M (vals (pre ++ [⟨x, hxm⟩])) W' := by
            intro W' h1 h2 h3
            have hz7 := HZ7.out
            refine ⟨h1.keeps (by omega) (by omega), h1.keepB (fun k hk => by omega) hWs, ?_, ?_, ?_, ?_⟩
            · have h4 := Turns.step (HG.out.t.mono (T := fun k => k = w4.heap.size + 1 ∨ k = w.heap.size + 1 + 1) fun k _ h => .inl h) h1
              refine ⟨h4.os, h4.tape, h4.output, h4.size, fun k hk hs => ?_⟩
              by_cases hR : k = w.heap.size + 1 + 1
              · subst hR
                exact h2.trans (HG.out.t.block _ hk hs)
              · exact h4.block k hk fun e => e.elim hs hR
            · rw [vals_snoc, countP_snoc, ← HC.out]; exact h3
            · rw [vals_snoc, countP_snoc, ← HC.out]; split <;> omega
            · intro j hj
              rw [vals_snoc] at hj ⊢
              rw [List.length_append, List.length_singleton] at hj
              rcases Nat.lt_succ_iff_lt_or_eq.1 hj with hj | rfl
              · rw [List.take_append_of_le_length (by omega)]; exact HG.out.lt j hj
              · rw [List.take_left, ← HC.out]; exact hCM
          have HFIN := Lib.hid hfin
          have hR2 : w.heap.size + 1 + 1 < W.heap.size := lt_of_block HB2.out
          clear hfin hbyW
          cases hs2 : stampL x.2 with
          | some k =>
            rw [hs2] at hstamp
            have HSP : Hid (proper x.2 = false) := Lib.hid (by simp [proper, hs2])
            clear hs2
            gi_wp2_with (refine ⟨trivial, ?_⟩; gi_at_call 52; refine (CallsIn.inRound l (callsIn_wide.2 hstamp)).mono ?_; rintro e w1 ⟨rfl, hb1⟩; have r1 := (hb1.block _ (lt_of_block HA.out)).trans HA.out; have a1 := cell0 r1; have fa1 := free_of_block r1 0; have R1 := Lib.hid r1; have HB1 := Lib.hid hb1; have hz1 := hb1.size; clear hb1 r1)
            refine HFIN.out _ (Step.of_below HB1.out) (HB1.out.block _ hR2) ?_
            rw [HSP.out]; exact R1.out
          | none =>
            rw [hs2] at hstamp
            by_cases he : x.2 = []
            · have HSP : Hid (proper x.2 = false) := Lib.hid (by simp [proper, he])
              have he' : (bs x.2).toList.isEmpty = true := by rw [ByteArray.toList_eq, bs_list, he]; rfl
              clear hs2 he
              gi_wp2_with (refine ⟨trivial, ?_⟩; gi_at_call 52; refine (CallsIn.inRound l (callsIn_wide.2 hstamp)).mono ?_; rintro e w1 ⟨rfl, hb1⟩; have r1 := (hb1.block _ (lt_of_block HA.out)).trans HA.out; have a1 := cell0 r1; have fa1 := free_of_block r1 0; have R1 := Lib.hid r1; have HB1 := Lib.hid hb1; have hz1 := hb1.size; clear hb1 r1)
              refine HFIN.out _ (Step.of_below HB1.out) (HB1.out.block _ hR2) ?_
              rw [HSP.out]; exact R1.out
            · have HSP : Hid (proper x.2 = true) := Lib.hid (by simp [proper, hs2, he])
              have he' : (bs x.2).toList.isEmpty = false := by
                rw [ByteArray.toList_eq, bs_list]
                cases h : x.2 with
                | nil => exact absurd h he
                | cons _ _ => rfl
              clear hs2 he
              gi_wp2_with (refine ⟨trivial, ?_⟩; gi_at_call 52; refine (CallsIn.inRound l (callsIn_wide.2 hstamp)).mono ?_; rintro e w1 ⟨rfl, hb1⟩; have r1 := (hb1.block _ (lt_of_block HA.out)).trans HA.out; have a1 := cell0 r1; have fa1 := free_of_block r1 0; have R1 := Lib.hid r1; have HB1 := Lib.hid hb1; have hz1 := hb1.size; clear hb1 r1)
              refine HFIN.out _ ((Step.of_below HB1.out).set (.inl rfl) _) ((get_other _ _ _ (by omega)).trans (HB1.out.block _ hR2)) ?_
              rw [HSP.out, set_block R1.out, if_pos rfl]
              rfl
      case done =>
        intro D ys W hD hys hG hK
        exfalso
        have h1 := hG.le
        rw [hys, countP_lines _ 0 0, ← HLS.out] at h1
        have h2 := HNE.out
        unfold parseL at h2
        omega
      case stop =>
        rintro D c pre W hD hp ⟨rfl, hE⟩ hK
        obtain ⟨v, l', x, h1, h2, h3, h4, h5⟩ := hE.ex
        rw [h1, ← HLS.out] at hp
        have hsk := skip_at l' x L 0 M hp h3 h2
        rw [Nat.sub_zero, ← HE.out, HLS.out] at hsk
        rw [← HLS.out] at hsk h5
        rw [← hsk] at h5
        obtain ⟨av, cv, rfl⟩ := h5.form
        have hz7 := HZ7.out
        have hb : Below w.heap.size w W := HW7.out.trans (hE.t.below HW7.out.size fun k hk e => by omega)
        have H5 := Lib.hid h5
        have H4 := Lib.hid h4
        have HBB := Lib.hid hb
        have HK := Lib.hid hK
        clear hE h1 h2 h3 h4 h5 hb hK hsk hp
        refine wpIn_ret ?_
        dsimp only [Exit.inBlock, Exit.then]
        refine leave_marks (base := w.heap.size) [D] _ ⟨by simp, fun D' h => ?_⟩ fun W' h1 h2 => ?_
        · rw [List.mem_singleton] at h
          subst h
          exact ⟨by omega, HK.out⟩
        · have hne : w.heap.size + 1 + 1 ∉ [D] := by rw [List.mem_singleton]; omega
          have hc := cell0 ((h1 _ hne).trans H4.out)
          refine ⟨.slice av (lastL L n).length cv, by simp [results, Tryz.f30, go_sem, hc], _, rfl, ?_, HBB.out.trans h2⟩
          have h6 := H5.out
          have h7 : OwnU8 W7.heap.size W' (.slice av (lastL L n).length cv) (lastL L n) := by
            refine ⟨h6.1, h6.2.imp id ?_⟩
            rintro ⟨g, cp, cur, e, hB, hh, r⟩
            refine ⟨g, cp, cur, e, hB, (h1 g ?_).trans hh, r⟩
            rw [List.mem_singleton]
            rintro rfl
            rw [HK.out] at hh
            cases hh
          exact h7.bytes.mono fun k _ h => by omega
end Go.Proofs.YtofkdmmoheffbaaGreatDoor
