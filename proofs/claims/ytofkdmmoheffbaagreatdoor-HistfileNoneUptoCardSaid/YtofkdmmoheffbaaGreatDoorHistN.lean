/- Going through the lines of bytes. -/
import Derived.Test.YtofkdmmoheffbaaGreatDoorHistM
import Derived.Test.YtofkdmmoheffbaaGreatDoorIterB
namespace Go.Proofs.YtofkdmmoheffbaaGreatDoor
open Go Go.RowKit Go.Shelf Go.Lany
attribute [local go_sem] Oper.semAt_some
set_option maxRecDepth 100000
abbrev Ln := Nat × List UInt8
def encLn (x : Ln) : Array Value := #[.int .i64 (x.1 : Int), .string (bs x.2)]
/-- The lines of bytes, and where they begin. -/
def linesAt (L : List UInt8) (p : Nat) : List Ln := if h : L = [] then [] else (p, first L) :: linesAt (rest L) (p + (first L).length + 1)
termination_by L.length
decreasing_by exact rest_length h
theorem linesAt_nil (p : Nat) : linesAt [] p = [] := by rw [linesAt]; simp
theorem linesAt_cons {L : List UInt8} (p : Nat) (h : L ≠ []) : linesAt L p = (p, first L) :: linesAt (rest L) (p + (first L).length + 1) := by rw [linesAt, dif_neg h]
/-- A line of these bytes. -/
abbrev LnM (L : List UInt8) := {x : Ln // x ∈ linesAt L 0}
def encLnM (L : List UInt8) (x : LnM L) : Array Value := encLn x.val
def vals {L : List UInt8} (l : List (LnM L)) : List Ln := l.map (·.val)
theorem vals_snoc {L : List UInt8} (l : List (LnM L)) (x : LnM L) : vals (l ++ [x]) = vals l ++ [x.val] := by simp [vals]
theorem linesAt_mem {L : List UInt8} {p : Nat} {x : Ln} (h : x ∈ linesAt L p) : p ≤ x.1 ∧ x.1 + x.2.length ≤ p + L.length ∧ x.1 < p + L.length := by
  induction hn : L.length using Nat.strongRecOn generalizing L p with
  | _ n ih =>
    subst hn
    by_cases hl : L = []
    · rw [hl, linesAt_nil] at h; cases h
    · rw [linesAt_cons p hl] at h
      have h1 := first_length L
      have h2 := rest_length hl
      have h3 : 0 < L.length := List.length_pos_iff.2 hl
      rcases List.mem_cons.1 h with rfl | h
      · exact ⟨Nat.le_refl _, by show p + (first L).length ≤ _; omega, by show p < _; omega⟩
      · have h4 := ih _ h2 h rfl
        have h5 : (rest L).length = L.length - ((first L).length + 1) := by rw [rest_eq, List.length_drop]
        refine ⟨by omega, ?_, ?_⟩
        · by_cases h6 : (first L).length + 1 ≤ L.length
          · omega
          · have : rest L = [] := List.eq_nil_of_length_eq_zero (by omega)
            rw [this, linesAt_nil] at h; cases h
        · by_cases h6 : (first L).length + 1 ≤ L.length
          · omega
          · have : rest L = [] := List.eq_nil_of_length_eq_zero (by omega)
            rw [this, linesAt_nil] at h; cases h
theorem linesAt_length_le (L : List UInt8) (p : Nat) : (linesAt L p).length ≤ L.length := by
  induction hn : L.length using Nat.strongRecOn generalizing L p with
  | _ n ih =>
    subst hn
    by_cases hl : L = []
    · rw [hl, linesAt_nil]; simp
    · rw [linesAt_cons p hl, List.length_cons]
      have := ih _ (rest_length hl) (rest L) (p + (first L).length + 1) rfl
      have := rest_length hl
      omega
theorem linesAt_drop {L : List UInt8} {p : Nat} (h : p < L.length) : linesAt (L.drop p) p = (p, first (L.drop p)) :: linesAt (L.drop (p + (first (L.drop p)).length + 1)) (p + (first (L.drop p)).length + 1) := by
  have hne : L.drop p ≠ [] := by
    intro e
    have := congrArg List.length e
    rw [List.length_drop] at this
    simp at this
    omega
  rw [linesAt_cons p hne, rest_eq, List.drop_drop]
  rfl
theorem first_drop_le {L : List UInt8} {p : Nat} : (first (L.drop p)).length ≤ L.length - p := by
  have := first_length (L.drop p)
  rwa [List.length_drop] at this
theorem first_take (L : List UInt8) : first L = L.take (first L).length := by
  unfold first
  induction L with
  | nil => rfl
  | cons c L ih =>
    by_cases h : (c != 10) = true
    · rw [List.takeWhile_cons, if_pos h, List.length_cons, List.take_succ_cons, ← ih]
    · rw [List.takeWhile_cons, if_neg h]; rfl
theorem first_get {L : List UInt8} {i : Nat} {x : UInt8} (h : (first L)[i]? = some x) : L[i]? = some x := by
  rw [first_take, List.getElem?_take] at h
  split at h
  · exact h
  · cases h
theorem index_nl {w : World} {b o n c : Nat} {L : List UInt8} (hn : L.length = n) (hc : ∀ (i : Nat) (x : UInt8), L[i]? = some x → w.cell? ⟨b, o + i, none⟩ = some (.int .u8 (x.toNat : Int))) :
    Calls Tryz.prog 77 #[.slice (some ⟨b, o, none⟩) n c, .int .u8 10] w fun e w' => e = .returned (.int .i64 (if 10 ∈ L then ((first L).length : Int) else -1)) ∧ w = w' := by
  have h := Tryz.bytes_IndexByte b o n c (L.map fun x => (x.toNat : Int)) 10 w (by simpa using hn) (fun i hi => by
    rw [← hn] at hi
    have e : L[i]? = some L[i] := List.getElem?_eq_getElem hi
    rw [hc i _ e, List.getD_eq_getElem?_getD, List.getElem?_map, e]
    rfl)
  refine h.mono fun e w' ⟨h1, h2⟩ => ⟨?_, h2.symm⟩
  rw [h1]
  have : Lib.bytesOf (L.map fun x => (x.toNat : Int)) = L := by
    unfold Lib.bytesOf
    rw [List.map_map]
    refine (List.map_congr_left (g := id) fun x _ => ?_).trans (by simp)
    show ((x.toNat : Int)).toNat.toUInt8 = x
    simp
  rw [this, show ((10 : Int)).toNat.toUInt8 = 10 from rfl, indexByte_first]
set_option maxHeartbeats 2000000 in
theorem lines_in (n : Nat) (hn : 4 ≤ n) (l Bx b off cap : Nat) (L : List UInt8) (hcap : L.length ≤ cap) (hL : L.length ≤ 140737488355328) (K : Nat → Prop) (hb : K b) (hbx : K Bx) (J Jx : List (LnM L) → World → Prop)
    (hY : ∀ pre x W, J pre W → pre.length < (linesAt L 0).length → YieldAt Fence.wide (n - 1) Tryz.prog l (encLnM L x) W fun e W' =>
      (e = .returned (.bool true) ∧ J (pre ++ [x]) W' ∧ KeepB K W W') ∨ (e = .returned (.bool false) ∧ Jx (pre ++ [x]) W'))
    (W : World) (hBx : W.cell? ⟨Bx, 0, none⟩ = some (.slice (some ⟨b, off, none⟩) L.length cap)) (cells : Array Value) (e0 : TypeId) (fr : Nat × Nat) (hbk : W.heap[b]? = some (.cells cells e0 fr)) (hc : ∀ (i : Nat) (x : UInt8), L[i]? = some x → cells[off + i]? = some (Value.int .u8 (x.toNat : Int))) (h0 : J [] W) :
    CallsIn Fence.wide n Tryz.prog 76 #[.func (.yield l) #[] #[], .pointer (some ⟨Bx, 0, none⟩)] W fun e W' => (∃ v, e = .returned v) ∧
      ((∃ ys, vals ys = linesAt L 0 ∧ J ys W') ∨ (∃ pre, vals pre <+: linesAt L 0 ∧ Jx pre W')) := by
  refine callsIn_of_wp Tryz.func76 rfl trivial ?_ rfl
  simp only [Tryz.ntmps76, List.size_toArray, List.length_cons, List.length_nil, Nat.reduceAdd, Nat.reduceSub, Array.replicate_succ, Array.replicate_zero, List.push_toArray, List.append_toArray, List.nil_append, List.cons_append]
  gi_wp2
  gi_loopw [3] (fun i wr => ∃ (p : Nat) (pre : List (LnM L)), p ≤ L.length + 1 ∧ i = .int .i64 p ∧ vals pre ++ linesAt (L.drop p) p = linesAt L 0 ∧ J pre wr ∧ KeepB K W wr)
    (fun i _ => L.length + 1 - (intOf i).toNat)
  case atStart => exact ⟨0, [], Nat.zero_le _, rfl, rfl, h0, keepB_refl _ _⟩
  case round =>
    obtain ⟨p, pre, hp, rfl, hpre, hJs, hnx⟩ := hrel
    have cbx : wr.cell? ⟨Bx, 0, none⟩ = some (.slice (some ⟨b, off, none⟩) L.length cap) := (World.cell?_of_block (hnx Bx hbx)).trans hBx
    have cb : ∀ (i : Nat) (x : UInt8), (L.drop p)[i]? = some x → wr.cell? ⟨b, (off + p) + i, none⟩ = some (.int .u8 (x.toNat : Int)) := fun i x hx => by
      rw [List.getElem?_drop] at hx
      rw [World.cell?_of_block (hnx b hb), cell_of_block hbk, Nat.add_assoc, hc _ x hx]
    have HCB := Lib.hid cb
    have HNX := Lib.hid hnx
    have HPRE := Lib.hid hpre
    clear hnx cb hpre
    by_cases hlt : p < L.length
    · have hD := linesAt_drop hlt
      have hfl := first_drop_le (L := L) (p := p)
      obtain ⟨D, hDe⟩ : ∃ D, D = L.drop p := ⟨_, rfl⟩
      have hDl : D.length = L.length - p := by rw [hDe, List.length_drop]
      rw [← hDe] at hD hfl HCB
      obtain ⟨m, hm⟩ : ∃ m, m = (first D).length := ⟨_, rfl⟩
      rw [← hm] at hD hfl
      have hix := index_nl (c := cap - p) hDl HCB.out
      have HDE := Lib.hid hDe
      have HM := Lib.hid hm
      have HD := Lib.hid hD
      clear hDe hm hD
      have hcv : (convert 37 9 (.slice (some ⟨b, off + p, none⟩) m (cap - p))).run Tryz.prog wr = .ok (.string (bs (first D))) wr := by
        have hbs : (bs (first D)).size = m := by rw [bs_size, HM.out]
        have hB : Bytes (fun _ => True) wr (.slice (some ⟨b, off + p, none⟩) m (cap - p)) (bs (first D)) := by
          refine .inr ⟨b, off + p, none, cap - p, by omega, by rw [hbs], .inr ⟨rfl, trivial, cells, e0, fr, (HNX.out b hb).trans hbk, fun i hi => ?_⟩⟩
          have hx : D[i]? = some (bs (first D))[i] := by
            have h1 : (first D)[i]? = some (bs (first D))[i] := by
              rw [List.getElem?_eq_getElem (by rw [← bs_size]; exact hi)]
              rfl
            exact first_get h1
          have := HCB.out i _ hx
          rw [World.cell?_of_block (HNX.out b hb), cell_of_block hbk] at this
          exact this
        exact str_of_bytes hB
      have hlen : pre.length < (linesAt L 0).length := by
        rw [← HPRE.out, ← HDE.out, HD.out]
        simp [vals]
      obtain ⟨X, hX⟩ : ∃ X : LnM L, X.val = (p, first D) := ⟨⟨(p, first D), by rw [← HPRE.out, ← HDE.out, HD.out]; simp⟩, rfl⟩
      obtain ⟨fn, tmps, assign, body, hy, hR⟩ := hY pre X wr hJs hlen
      have hne : vals (pre ++ [X]) ++ linesAt (L.drop (p + m + 1)) (p + m + 1) = linesAt L 0 := by
        rw [← HPRE.out, ← HDE.out, HD.out, vals_snoc, hX, List.append_assoc]
        rfl
      unfold encLnM at hy
      rw [hX] at hy
      clear hX
      have HNE := Lib.hid hne
      clear hlen hne hJs
      unfold encLn at hy
      by_cases h10 : 10 ∈ D
      · rw [if_pos h10, ← HM.out] at hix
        gi_wp2_with (refine ⟨trivial, fun _ => by omega, ?_⟩; refine (callsIn_wide.2 hix).mono ?_; rintro e w1 ⟨rfl, rfl⟩)
        refine ⟨fun _ => by omega, ?_⟩
        refine hR.mono ?_
        rintro e W3 (⟨rfl, hJ3, hk3⟩ | ⟨rfl, hJx3⟩)
        · have HK3 := Lib.hid hk3
          clear hk3
          gi_wp2
          go_roundw
          case rel => exact ⟨p + m + 1, pre ++ [X], by omega, by go_num, HNE.out, hJ3, keepB_t HNX.out HK3.out⟩
          case measure => simp [intOf]; omega
        · gi_wp2
          refine bodyPost_ret (results_none rfl _ _ _) rfl ?_
          exact ⟨⟨_, rfl⟩, .inr ⟨_, ⟨_, HNE.out⟩, hJx3⟩⟩
      · have hm' : m = D.length := by rw [HM.out, first_all h10]
        rw [if_neg h10] at hix
        have hpm : (p + m : Nat) = L.length := by omega
        have HNE2 := Lib.hid (by have := HNE.out; rw [hpm] at this; exact this)
        rw [show m = L.length - p by omega] at hcv
        clear hm' hpm
        gi_wp2_with (refine ⟨trivial, fun _ => by omega, ?_⟩; refine (callsIn_wide.2 hix).mono ?_; rintro e w1 ⟨rfl, rfl⟩)
        refine ⟨fun _ => by omega, ?_⟩
        refine hR.mono ?_
        rintro e W3 (⟨rfl, hJ3, hk3⟩ | ⟨rfl, hJx3⟩)
        · have HK3 := Lib.hid hk3
          clear hk3
          gi_wp2
          go_roundw
          case rel => exact ⟨L.length + 1, pre ++ [X], Nat.le_refl _, by go_num, HNE2.out, hJ3, keepB_t HNX.out HK3.out⟩
          case measure => simp [intOf]; omega
        · gi_wp2
          refine bodyPost_ret (results_none rfl _ _ _) rfl ?_
          exact ⟨⟨_, rfl⟩, .inr ⟨_, ⟨_, HNE.out⟩, hJx3⟩⟩
    · gi_wp2
      go_end0
      have hnil : L.drop p = [] := List.drop_eq_nil_of_le (by omega)
      have := HPRE.out
      rw [hnil, linesAt_nil, List.append_nil] at this
      exact ⟨⟨_, rfl⟩, .inl ⟨_, this, hJs⟩⟩
set_option maxHeartbeats 1000000 in
theorem lines_nil_in (n : Nat) (l Bx cap : Nat) (a : Option Addr) {α : Type} (J : List α → World → Prop) (W : World) (hBx : W.cell? ⟨Bx, 0, none⟩ = some (.slice a 0 cap)) (h0 : J [] W) :
    CallsIn Fence.wide n Tryz.prog 76 #[.func (.yield l) #[] #[], .pointer (some ⟨Bx, 0, none⟩)] W fun e W' => (∃ v, e = .returned v) ∧ J [] W' := by
  refine callsIn_of_wp Tryz.func76 rfl trivial ?_ rfl
  simp only [Tryz.ntmps76, List.size_toArray, List.length_cons, List.length_nil, Nat.reduceAdd, Nat.reduceSub, Array.replicate_succ, Array.replicate_zero, List.push_toArray, List.append_toArray, List.nil_append, List.cons_append]
  gi_wp2
  gi_loopw [3] (fun i wr => i = .int .i64 0 ∧ J [] wr ∧ wr.cell? ⟨Bx, 0, none⟩ = some (.slice a 0 cap)) (fun _ _ => 0)
  case atStart => exact ⟨rfl, h0, hBx⟩
  case round =>
    obtain ⟨rfl, hJs, hBx'⟩ := hrel
    gi_wp2
    go_end0
    exact ⟨⟨_, rfl⟩, hJs⟩
/-- Going through bytes: all lines, in order; or the first ones. -/
theorem lines_stops (n : Nat) (hn : 4 ≤ n) (Bx : Nat) (v : Value) (s : ByteArray) (hs : s.size ≤ 140737488355328) (w : World) {K : Nat → Prop} (hc : w.cell? ⟨Bx, 0, none⟩ = some v) (hI : Bytes K w v s) (hx : K Bx) :
    SeqStopsK Fence.wide n Tryz.prog 76 #[.pointer (some ⟨Bx, 0, none⟩)] (encLnM s.data.toList) (KeepB K) (fun ys => vals ys = linesAt s.data.toList 0) (fun pre => vals pre <+: linesAt s.data.toList 0) (linesAt s.data.toList 0).length w := fun l J Jx W hW _ _ hY h0 => by
  have hc' := (hW.cell (p := ⟨Bx, 0, none⟩) (World.block_lt_of_cell? _ _ hc)).trans hc
  have hl : s.data.toList.length = s.size := by simp
  by_cases hz : s.size = 0
  · have he : s.data.toList = [] := List.eq_nil_of_length_eq_zero (by omega)
    obtain ⟨a, cap, rfl⟩ := hI.len
    rw [hz] at hc'
    exact (lines_nil_in n l Bx cap a J W hc' h0).mono fun e W' ⟨he', hj⟩ => ⟨he', .inl ⟨[], by rw [he, linesAt_nil]; rfl, hj⟩⟩
  · rcases hI with ⟨rfl, h⟩ | ⟨b, off, sp, cap, hcap, rfl, h⟩
    · exact absurd h hz
    · rcases h with h | ⟨rfl, hb, cells, e0, fr, hbk, hcs⟩
      · exact absurd h hz
      · rw [← hl] at hc'
        refine lines_in n hn l Bx b off cap s.data.toList (by omega) (by omega) K hb hx J Jx hY W hc' cells e0 fr ((hW.block b (lt_of_block hbk)).trans hbk) ?_ h0
        intro i x hi
        have hlt := (List.getElem?_eq_some_iff.1 hi).1
        rw [hl] at hlt
        have e : s.data.toList[i]? = some s[i] := by rw [List.getElem?_eq_getElem (by rw [hl]; exact hlt)]; rfl
        rw [e] at hi
        cases hi
        exact hcs i hlt
theorem lines_at (a : Option Addr) (n c : Nat) (w : World) : Calls Tryz.prog 51 #[.slice a n c] w fun e w' => e = .returned (.func (.func 76) #[] #[.pointer (some ⟨w.heap.size, 0, none⟩)]) ∧ w' = w.alloc (.cells #[.slice a n c] 37) := by
  go_enter Tryz.func51, Tryz.ntmps51
  go_wp2
  go_ret
  exact ⟨rfl, rfl⟩
theorem range_lines {Q : Exit → Act → World → Prop} {T : Array Value} {ds : List Deferred} {w : World} {g : Operand} {p q : Tmp} {asg body : Code} {n B : Nat} (hn : 5 ≤ n) (hg : Act.eval { tmps := T, defers := ds } g = .func (.func 76) #[] #[.pointer (some ⟨B, 0, none⟩)])
    {v : Value} {s : ByteArray} {K : Nat → Prop} (hc : w.cell? ⟨B, 0, none⟩ = some v) (hI : Bytes K w v s) (hx : K B) (hK : ∀ k, K k → k < w.heap.size) (hlen : s.size ≤ 140737488355328)
    (I : List (LnM s.data.toList) → World → Prop) (Ix : Code → List (LnM s.data.toList) → World → Prop) (hO : OwnFrom w.heap.size I) (hOx : ∀ c, OwnFrom w.heap.size (Ix c)) (h0 : I [] w) (upd : Ln → Array Value → Array Value)
    (hassign : ∀ (l : Nat) (x : Ln) (W : World) (K : Act → World → Prop), K { tmps := upd x ((T.setIfInBounds p (.int .i64 (x.1 : Int))).setIfInBounds q (.string (bs x.2))), defers := [] } W →
      asg.wpIn (Fence.wide.inRound l) (n - 1 - 1) Tryz.prog (Exit.then K (fun _ _ _ => False)) { tmps := (T.setIfInBounds p (.int .i64 (x.1 : Int))).setIfInBounds q (.string (bs x.2)), defers := [] } W)
    (hbody : ∀ (l : Nat) (pre : List (LnM s.data.toList)) (x : LnM s.data.toList) (W : World), I pre W → pre.length < (linesAt s.data.toList 0).length →
      body.wpIn (Fence.wide.inRound l) (n - 1 - 1) Tryz.prog (ownPostG w.heap.size (KeepB K) I Ix (pre ++ [x]) W) { tmps := upd x.val ((T.setIfInBounds p (.int .i64 (x.val.1 : Int))).setIfInBounds q (.string (bs x.val.2))), defers := [] } W)
    (hdone : ∀ D ys W, w.heap.size ≤ D → vals ys = linesAt s.data.toList 0 → I ys W → W.heap[D]? = some (.deferred (some [])) → Q .normal { tmps := T, defers := { target := .collected D, args := #[] } :: ds } W)
    (hstop : ∀ D c pre W, w.heap.size ≤ D → vals pre <+: linesAt s.data.toList 0 → Ix c pre W → W.heap[D]? = some (.deferred (some [])) → c.wpIn Fence.wide n Tryz.prog Q { tmps := T, defers := { target := .collected D, args := #[] } :: ds } W) :
    (Code.rangeFunc g #[p, q] asg body).wpIn Fence.wide n Tryz.prog Q { tmps := T, defers := ds } w := by
  refine wpIn_rangeFunc_ownG (F := Fence.wide) rfl (by omega) (gf := 76) (lb := #[.pointer (some ⟨B, 0, none⟩)]) hg trivial (enters_of Tryz.func76 (by kernel_rfl) rfl)
    (lines_stops (n - 1) (by omega) B v s hlen w hc hI hx) keepB_t (keepB_b hK) (Below.refl _ _) (fun _ => rfl)
    I Ix hO hOx h0 (fun x => { tmps := upd x.val ((T.setIfInBounds p (.int .i64 (x.val.1 : Int))).setIfInBounds q (.string (bs x.val.2))), defers := [] }) (fun l x W K hK => by simpa [encLnM, encLn] using hassign l x.val W K hK) hbody ?_ ?_
  · intro D xs W hD hv h hk
    exact hdone D xs W hD hv h hk
  · intro D c pre W hD hp h hk
    exact hstop D c pre W hD hp h hk
end Go.Proofs.YtofkdmmoheffbaaGreatDoor
