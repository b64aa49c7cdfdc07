/- What is wrong ahead of a call (looks), with reading a path (there), with writing it (free). -/
import Derived.Test.YtofkdmmoheffbaaGreatDoorDir
namespace Go.Proofs.YtofkdmmoheffbaaGreatDoor
open Go Go.RowKit Go.Lany
set_option maxRecDepth 100000
def IntPost (n : Int) (w : World) (e : Ending) (w' : World) : Prop := e = .returned (.int .i64 n) ∧ Below w.heap.size w w'
def looksE (s : FsSt) (ps : List ByteArray) : Int := if s.down then 22 else if ps.all goodB then 0 else 23
theorem looks_nil {w : World} {f m c : Nat} {F : Nat → Prop} {s : FsSt} (h : FsAt w f m c F s) : Calls Tryz.prog 53 #[fsPtr f, .slice none 0 0] w (IntPost (looksE s []) w) := by
  obtain ⟨c0, c1, c2, c3, c4, c5, fz⟩ := h.cells
  unfold looksE
  cases hd : s.down with
  | true =>
    rw [hd] at c5
    go_enter Tryz.func53, Tryz.ntmps53
    go_wp2_with (go_at_call 31; refine (none_at h).mono ?_; rintro e w' ⟨rfl, rfl⟩)
    go_ret
    exact ⟨rfl, Below.refl _ _⟩
  | false =>
    rw [hd] at c5
    go_enter Tryz.func53, Tryz.ntmps53
    go_wp2_with (go_at_call 31; refine (none_at h).mono ?_; rintro e w' ⟨rfl, rfl⟩)
    refine wp_loop_once ?_
    go_wp2
    go_ret
    exact ⟨rfl, Below.refl _ _⟩
set_option maxHeartbeats 1000000 in
theorem looks_at {w : World} {f m c : Nat} {F : Nat → Prop} {s : FsSt} (h : FsAt w f m c F s) (ps : List ByteArray) (b off cap n : Nat) (hn : n = ps.length) (hmax : n ≤ 1000000)
    (hc : ∀ i, i < n → w.cell? ⟨b, off + i, none⟩ = some (.string (ps.getD i ByteArray.empty))) :
    Calls Tryz.prog 53 #[fsPtr f, .slice (some ⟨b, off, none⟩) n cap] w (IntPost (looksE s ps) w) := by
  obtain ⟨c0, c1, c2, c3, c4, c5, fz⟩ := h.cells
  have hml := h.ml
  have HC := Lib.hid hc
  have HN := Lib.hid hn
  clear hc hn
  cases hd : s.down with
  | true =>
    have e : looksE s ps = 22 := by unfold looksE; rw [hd]; rfl
    rw [e]; clear e
    rw [hd] at c5
    go_enter Tryz.func53, Tryz.ntmps53
    go_wp2_with (go_at_call 31; refine (none_at h).mono ?_; rintro e w' ⟨rfl, rfl⟩)
    go_ret
    exact ⟨rfl, Below.refl _ _⟩
  | false =>
    have E : Hid (looksE s ps = if ps.all goodB then 0 else 23) := Lib.hid (by unfold looksE; rw [hd]; rfl)
    rw [hd] at c5
    go_enter Tryz.func53, Tryz.ntmps53
    go_wp2_with (go_at_call 31; refine (none_at h).mono ?_; rintro e w' ⟨rfl, rfl⟩)
    clear c0 c1 c2 c3 c4 c5 fz
    go_loopw [6, 15] (fun _ i wr => ∃ k : Nat, k ≤ n ∧ i = .int .i64 k ∧ Below w.heap.size w wr ∧ ∀ j, j < k → goodB (ps.getD j ByteArray.empty) = true) (fun _ i _ => n - (intOf i).toNat)
    case atStart => exact ⟨0, Nat.zero_le _, rfl, Below.refl _ _, fun j h => by omega⟩
    case round =>
      obtain ⟨k, hk, rfl, hbl, hall⟩ := hrel
      have HA := Lib.hid hall
      clear hall
      by_cases hlt : k < n
      · obtain ⟨x, hx⟩ : ∃ x, x = ps.getD k ByteArray.empty := ⟨_, rfl⟩
        have hc0 := HC.out k hlt
        have hcell : wr.cell? ⟨b, off + k, none⟩ = some (.string x) := by rw [hx, hbl.cell (World.block_lt_of_cell? _ _ hc0), hc0]
        have HX := Lib.hid hx
        clear hx hc0
        have hmr : Ml wr := hml.below hbl
        cases hg : goodB x with
        | false =>
          have HG := Lib.hid hg
          have cg : Calls Tryz.prog 81 #[.string x] wr (BoolPost false wr) := by have := good_any x wr hmr; rwa [hg] at this
          clear hg
          go_wp2_with (go_at_call 81; refine cg.mono ?_; rintro e w1 ⟨rfl, hb1⟩)
          go_ret
          refine ⟨ret_int ?_, hbl.trans (hb1.mono hbl.size)⟩
          rw [E.out, if_neg]
          intro hc
          have := List.all_eq_true.1 hc x (by rw [HX.out, List.getD_eq_getElem?_getD, List.getElem?_eq_getElem (by rw [← HN.out]; exact hlt)]; exact List.getElem_mem _)
          rw [HG.out] at this; cases this
        | true =>
          have HG := Lib.hid hg
          have cg : Calls Tryz.prog 81 #[.string x] wr (BoolPost true wr) := by have := good_any x wr hmr; rwa [hg] at this
          clear hg
          go_wp2_with (go_at_call 81; refine cg.mono ?_; rintro e w1 ⟨rfl, hb1⟩)
          go_roundw
          case rel =>
            refine ⟨k + 1, by omega, by go_num, hbl.trans (hb1.mono hbl.size), fun j hj => ?_⟩
            rcases Nat.lt_succ_iff_lt_or_eq.1 hj with h | h
            · exact HA.out j h
            · subst h; rw [← HX.out]; exact HG.out
          case measure => simp [intOf]; omega
      · obtain rfl : k = n := by omega
        go_wp2
        go_ret
        refine ⟨ret_int ?_, hbl⟩
        rw [E.out, if_pos]
        rw [List.all_eq_true]
        intro x hx
        obtain ⟨j, hj, rfl⟩ := List.mem_iff_getElem.1 hx
        have := HA.out j (by rw [HN.out]; exact hj)
        rwa [List.getD_eq_getElem?_getD, List.getElem?_eq_getElem hj] at this
def isFile (s : FsSt) (p : ByteArray) : Bool := (aget s.files p).isSome
def thereE (s : FsSt) (p : ByteArray) : Int := if dirB (akeys s.files) p ⟨#[]⟩ then 24 else if isFile s p then 0 else 4
theorem get_isSome {w : World} {F : Nat → Prop} {vs : List (ByteArray × Value)} {fs : List (ByteArray × ByteArray)} (h : Both (Bytes F w) vs fs) (p : ByteArray) : (aget vs p).isSome = (aget fs p).isSome := by
  rcases h.get p with ⟨a, b⟩ | ⟨x, y, a, b, _⟩ <;> rw [a, b] <;> rfl
theorem zeroB (w : World) : (zeroValue 37).run Tryz.prog w = .ok (.slice none 0 0) w := by kernel_rfl
theorem look_ok {w : World} {m : Nat} {vs : List (ByteArray × Value)} (hm : MapOf w m vs) (p : ByteArray) {b : Bool} (hb : (aget vs p).isSome = b) :
    ∃ v, (Instr.lookup 47 (.map (some m)) (.string p) true).run Tryz.prog w = .ok (.tuple #[v, .bool b]) w :=
  ⟨_, by rw [hm.lookup (P := Tryz.prog) (k := 9) (e := 37) (by kernel_rfl) (by kernel_rfl) (zeroB w) p true, if_pos rfl, hb]⟩
theorem look_okN {w : World} {m : Nat} {vs : List (ByteArray × Value)} (hm : MapOf w m vs) (p : ByteArray) {b : Bool} (hb : (aget vs p).isSome = b) :
    ∃ v, ∀ n, (Instr.lookup 47 (.map (some m)) (.string p) true).run Tryz.prog (w.drewN n) = .ok (.tuple #[v, .bool b]) (w.drewN n) :=
  ⟨_, fun n => by rw [MapOf.lookup (P := Tryz.prog) (k := 9) (e := 37) (show MapOf (w.drewN n) m vs from hm) (by kernel_rfl) (by kernel_rfl) (zeroB _) p true, if_pos rfl, hb]⟩
set_option maxHeartbeats 1000000 in
theorem there_at {w : World} {f m c : Nat} {F : Nat → Prop} {s : FsSt} (h : FsAt w f m c F s) (p : ByteArray) (hp : p.size ≤ 140737488351232) :
    Calls Tryz.prog 56 #[fsPtr f, .string p] w (IntPost (thereE s p) w) := by
  obtain ⟨vs, hm, hb⟩ := h.map
  have hsome := get_isSome hb p
  have hd := dir_at h p ⟨#[]⟩ hp
  unfold thereE isFile
  rw [← hsome]
  cases e0 : dirB (akeys s.files) p ⟨#[]⟩ with
  | true =>
    rw [e0] at hd
    clear hsome hm hb e0
    go_enter Tryz.func56, Tryz.ntmps56
    go_wp2_with (go_at_call 83; refine hd.mono ?_; rintro e w1 ⟨rfl, hb1⟩)
    go_ret
    exact ⟨rfl, hb1⟩
  | false =>
    rw [e0] at hd
    clear hsome hb e0
    cases e1 : (aget vs p).isSome with
    | true =>
      go_enter Tryz.func56, Tryz.ntmps56
      go_wp2_with (go_at_call 83; refine hd.mono ?_; rintro e w1 ⟨rfl, hb1⟩; obtain ⟨c0, -, -, -, -, -, -⟩ := (h.below hb1).cells; obtain ⟨v, hlk⟩ := look_ok (hm.kept (S := fun _ => False) (Turns.of_below hb1) id) p e1)
      go_ret
      exact ⟨rfl, hb1⟩
    | false =>
      go_enter Tryz.func56, Tryz.ntmps56
      go_wp2_with (go_at_call 83; refine hd.mono ?_; rintro e w1 ⟨rfl, hb1⟩; obtain ⟨c0, -, -, -, -, -, -⟩ := (h.below hb1).cells; obtain ⟨v, hlk⟩ := look_ok (hm.kept (S := fun _ => False) (Turns.of_below hb1) id) p e1)
      go_ret
      exact ⟨rfl, hb1⟩
/-- Is a proper beginning of the path, ending before a slash, a file (but for one)? -/
def byteAt (p : ByteArray) (i : Nat) : UInt8 := p.data.getD i 0
theorem byteAt_of {p : ByteArray} {i : Nat} (h : i < p.size) : p[i] = byteAt p i := by
  unfold byteAt
  have h' : i < p.data.size := h
  rw [Array.getD_eq_getD_getElem?, Array.getElem?_eq_getElem h']; rfl
def overB (s : FsSt) (p but : ByteArray) (i : Nat) : Bool := (byteAt p i == 47) && !((p.extract 0 i).toList == but.toList) && isFile s (p.extract 0 i)
def freeE (s : FsSt) (p but : ByteArray) : Int := if dirB (akeys s.files) p but then 24 else if (List.range p.size).any (fun i => decide (1 ≤ i) && overB s p but i) then 24 else 0
theorem next_all {T : Nat → Bool} {k n : Nat} (h : ∀ j, 1 ≤ j → j < k → j < n → T j = false) (hk : T k = false) : ∀ j, 1 ≤ j → j < k + 1 → j < n → T j = false := by
  intro j h1 h2 h3
  rcases Nat.lt_succ_iff_lt_or_eq.1 h2 with h' | h'
  · exact h j h1 h' h3
  · subst h'; exact hk
theorem no_over {T : Nat → Bool} {k n : Nat} (h : ∀ j, 1 ≤ j → j < k → j < n → T j = false) (hk : ¬ k < n) : ((List.range n).any fun i => decide (1 ≤ i) && T i) = false := by
  rw [List.any_eq_false]
  intro i hi
  have hi' := List.mem_range.1 hi
  by_cases h1 : 1 ≤ i
  · rw [h i h1 (by omega) hi']; simp
  · simp [h1]
theorem is_over {T : Nat → Bool} {k n : Nat} (h1 : 1 ≤ k) (hk : k < n) (ht : T k = true) : ((List.range n).any fun i => decide (1 ≤ i) && T i) = true := by
  rw [List.any_eq_true]
  exact ⟨k, List.mem_range.2 hk, by rw [ht]; simp [h1]⟩
set_option maxHeartbeats 1000000 in
theorem free_at {w : World} {f m c : Nat} {F : Nat → Prop} {s : FsSt} (h : FsAt w f m c F s) (p but : ByteArray) (hp : p.size ≤ 140737488351232) :
    Calls Tryz.prog 84 #[fsPtr f, .string p, .string but] w (IntPost (freeE s p but) w) := by
  obtain ⟨vs, hm, hb⟩ := h.map
  have hd := dir_at h p but hp
  cases e0 : dirB (akeys s.files) p but with
  | true =>
    have e : freeE s p but = 24 := by unfold freeE; rw [e0]; rfl
    rw [e]; clear e
    rw [e0] at hd
    clear hm hb e0
    go_enter Tryz.func84, Tryz.ntmps84
    go_wp2_with (go_at_call 83; refine hd.mono ?_; rintro e w1 ⟨rfl, hb1⟩)
    go_ret
    exact ⟨rfl, hb1⟩
  | false =>
    have E : Hid (freeE s p but = if (List.range p.size).any (fun i => decide (1 ≤ i) && overB s p but i) then 24 else 0) := Lib.hid (by unfold freeE; rw [e0]; rfl)
    rw [e0] at hd
    clear e0
    go_enter Tryz.func84, Tryz.ntmps84
    go_wp2_with (go_at_call 83; refine hd.mono ?_; rintro e w1 ⟨rfl, hb1⟩)
    go_loopw [7] (fun i wr => ∃ k : Nat, 1 ≤ k ∧ k ≤ p.size + 1 ∧ i = .int .i64 k ∧ Below w.heap.size w wr ∧ ∀ j, 1 ≤ j → j < k → j < p.size → overB s p but j = false) (fun i _ => p.size - (intOf i).toNat)
    case atStart => exact ⟨1, Nat.le_refl _, by omega, rfl, hb1, fun j h1 h2 h3 => by omega⟩
    case round =>
      obtain ⟨k, hk1, hk, rfl, hbl, hall⟩ := hrel
      have HA := Lib.hid hall
      clear hall
      by_cases hlt : k < p.size
      · by_cases h47 : p[k] = 47
        · have h47' : ((p[k].toNat : Int) != 47) = false := by rw [h47]; rfl
          have HB : Hid (byteAt p k = 47) := Lib.hid (by rw [← byteAt_of hlt, h47])
          clear h47
          cases eb : ((p.extract 0 k).toList == but.toList) with
          | true =>
            go_wp2
            go_roundw
            case rel => exact ⟨k + 1, by omega, by omega, by go_num, hbl, next_all HA.out (by unfold overB; rw [eb]; simp)⟩
            case measure => simp [intOf]; omega
          | false =>
            cases ef : isFile s (p.extract 0 k) with
            | true =>
              have e1 : (aget vs (p.extract 0 k)).isSome = true := (get_isSome hb _).trans ef
              obtain ⟨v, hlk⟩ := look_okN (hm.kept (S := fun _ => False) (Turns.of_below hbl) id) _ e1
              obtain ⟨c0, -, -, -, -, -, -⟩ := (h.below hbl).cells
              have hki : (k : Int) ≤ (p.size : Int) := by omega
              have hk0 : (0 : Int) ≤ (k : Int) := by omega
              go_wp2
              go_quiet (fail)
              go_wp2
              go_ret
              refine ⟨ret_int ?_, below_drewN hbl _⟩
              rw [E.out, if_pos]
              exact is_over hk1 hlt (by unfold overB; rw [eb, ef, HB.out]; rfl)
            | false =>
              have e1 : (aget vs (p.extract 0 k)).isSome = false := (get_isSome hb _).trans ef
              obtain ⟨v, hlk⟩ := look_okN (hm.kept (S := fun _ => False) (Turns.of_below hbl) id) _ e1
              obtain ⟨c0, -, -, -, -, -, -⟩ := (h.below hbl).cells
              have hki : (k : Int) ≤ (p.size : Int) := by omega
              have hk0 : (0 : Int) ≤ (k : Int) := by omega
              go_wp2
              go_quiet (fail)
              go_wp2
              go_roundw
              case rel => exact ⟨k + 1, by omega, by omega, by go_num, below_drewN hbl _, next_all HA.out (by unfold overB; rw [ef]; simp)⟩
              case measure => simp [intOf]; omega
        · have h47' : ((p[k].toNat : Int) != 47) = true := by
            simp only [bne_iff_ne, ne_eq]
            intro e
            exact h47 (UInt8.toNat_inj.1 (by have : p[k].toNat = 47 := by omega
                                             rw [this]; rfl))
          have HB : Hid (byteAt p k ≠ 47) := Lib.hid (by rw [← byteAt_of hlt]; exact h47)
          clear h47
          go_wp2
          go_roundw
          case rel => exact ⟨k + 1, by omega, by omega, by go_num, hbl, next_all HA.out (by unfold overB; rw [show (byteAt p k == 47) = false from by simpa using HB.out]; rfl)⟩
          case measure => simp [intOf]; omega
      · go_wp2
        go_ret
        refine ⟨ret_int ?_, hbl⟩
        rw [E.out, if_neg (by rw [no_over HA.out hlt]; simp)]
def isDir (s : FsSt) (p : ByteArray) : Bool := dirB (akeys s.files) p ⟨#[]⟩ && ((p.toList == [47]) || goodB p)
end Go.Proofs.YtofkdmmoheffbaaGreatDoor
