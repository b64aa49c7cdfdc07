/- The simulated file system's calls, continued: Is; write, Write and Append. -/
import Derived.Test.YtofkdmmoheffbaaGreatDoorFsD
import Derived.Deep.RegionHeld3
import Derived.Deep.DeepCutAuto
import Derived.KernelRfl
namespace Go.Proofs.YtofkdmmoheffbaaGreatDoor
open Go Go.RowKit Go.Lany
set_option maxRecDepth 100000
def FsSt.longB (s : FsSt) (p old b : ByteArray) : Bool :=
  (freeE s p ⟨#[]⟩ == 0) && (decide (1048576 < (old.size : Int) + (b.size : Int)) || (!isFile s p && decide (4096 ≤ (s.files.length : Int))))
def FsSt.writeE (s : FsSt) (p old b : ByteArray) : Int := if s.longB p old b then 3 else freeE s p ⟨#[]⟩
def minLen (b : ByteArray) (keep : Int) : Nat := if (b.size : Int) ≤ keep then b.size else keep.toNat
def FsSt.put (s : FsSt) (p b : ByteArray) : FsSt := { s with files := aput s.files p b }
def FsSt.write (s : FsSt) (p old b : ByteArray) : Int × FsSt :=
  if looksE s [p] = 0 then
    if s.call.1.2.1 = 1 then (20, s.call.2)
    else if s.call.1.2.1 = 0 then (if s.call.2.writeE p old b = 0 then (0, s.call.2.put p (old ++ b)) else (s.call.2.writeE p old b, s.call.2))
    else (ansOf s.call.1.2.1, (if s.call.2.writeE p old b = 0 then s.call.2.put p (old ++ b.extract 0 (minLen b s.call.1.2.2)) else s.call.2).fall s.call.1.2.1)
  else (looksE s [p], s)
def Grow (F : Nat → Prop) (n k : Nat) : Prop := F k ∨ n ≤ k
def WritePost (f m c : Nat) (F : Nat → Prop) (w : World) (r : Int × FsSt) (e : Ending) (w' : World) : Prop :=
  e = .returned (.int .i64 r.1) ∧ FsAt w' f m c (Grow F w.heap.size) r.2 ∧ Turns (Own3 f m c) w w'
/-- What the free's call leaves: the fault's own cells, the state. -/
structure Mid (f m c : Nat) (F : Nat → Prop) (w w3 : World) (s : FsSt) (bx : Nat) (x0 x1 x2 : Int) : Prop where
  at_ : FsAt w3 f m c F s
  t : Turns (Own3 f m c) w w3
  b0 : w3.cell? ⟨bx, 0, none⟩ = some (.int .i64 x0)
  b1 : w3.cell? ⟨bx, 1, none⟩ = some (.int .i64 x1)
  b2 : w3.cell? ⟨bx, 2, none⟩ = some (.int .i64 x2)
  new : w.heap.size ≤ bx
theorem mid_of {f m c : Nat} {F : Nat → Prop} {w w1 w2 w3 : World} {s : FsSt} {x0 x1 x2 : Int} (h2 : FsAt w2 f m c F s) (t1 : Below w.heap.size w w1) (t2 : Turns (Own3 f m c) w1 w2)
    (t3 : Below (w2.alloc (.cells #[.int .i64 x0, .int .i64 x1, .int .i64 x2] 49)).heap.size (w2.alloc (.cells #[.int .i64 x0, .int .i64 x1, .int .i64 x2] 49)) w3) : Mid f m c F w w3 s w2.heap.size x0 x1 x2 := by
  have ha : Below w2.heap.size w2 (w2.alloc (.cells #[.int .i64 x0, .int .i64 x1, .int .i64 x2] 49)) := (Below.refl _ _).alloc (Nat.le_refl _) _
  have hn := get_new w2 (.cells #[.int .i64 x0, .int .i64 x1, .int .i64 x2] 49)
  have hb : w3.heap[w2.heap.size]? = some (.cells #[.int .i64 x0, .int .i64 x1, .int .i64 x2] 49) := (t3.block _ (by simp)).trans hn
  refine ⟨(h2.below ha).below t3, ((Turns.lift t1 t2).trans (Turns.of_below ha)).trans (Turns.of_below t3), ?_, ?_, ?_, ?_⟩
  · rw [cell_of_block hb]; rfl
  · rw [cell_of_block hb]; rfl
  · rw [cell_of_block hb]; rfl
  · exact Nat.le_trans t1.size t2.size
theorem len_at {w : World} {f m c : Nat} {F : Nat → Prop} {s : FsSt} (h : FsAt w f m c F s) (ty : TypeId) : (Builtin.len_ #[47] ty #[.map (some m)]).run Tryz.prog w = .ok (.int .i64 s.files.length) w := by
  obtain ⟨vs, hm, hb⟩ := h.map
  rw [← hb.length]
  exact hm.len (k := 9) (e := 37) (by kernel_rfl) _ ty rfl
theorem look_is {w : World} {f m c : Nat} {F : Nat → Prop} {s : FsSt} (h : FsAt w f m c F s) (p : ByteArray) :
    ∃ v, (Instr.lookup 47 (.map (some m)) (.string p) true).run Tryz.prog w = .ok (.tuple #[v, .bool (isFile s p)]) w := by
  obtain ⟨vs, hm, hb⟩ := h.map
  exact look_ok hm p (get_isSome hb p)
theorem grow_of {w w' : World} {f m c : Nat} {F : Nat → Prop} {s : FsSt} (h : FsAt w' f m c F s) (hl : Ml w) : FsAt w' f m c (Grow F w.heap.size) s :=
  h.mono (fun k _ hk => .inl hk) (fun e => e.elim h.far (fun e => by
    obtain ⟨n, hn⟩ := hl
    have := World.block_lt_of_cell? _ _ hn
    simp only at this
    omega))
theorem zero_of {n : Int} (h : (n == 0) = true) : (0 : Int) = n := by have := eq_of_beq h; exact this.symm
theorem min_len {b : ByteArray} {x : Int} (h : 0 ≤ x) : min (b.size : Int) x = (minLen b x : Int) ∧ minLen b x ≤ b.size := by
  unfold minLen
  by_cases h1 : x < (b.size : Int)
  · rw [if_neg (by omega)]; omega
  · rw [if_pos (by omega)]; omega
theorem Bytes.take {F : Nat → Prop} {w : World} {a : Option Addr} {cap : Nat} {bs : ByteArray} (h : Bytes F w (.slice a bs.size cap) bs) {k : Nat} (hk : k ≤ bs.size) : Bytes F w (.slice a k cap) (bs.extract 0 k) := by
  have he : (bs.extract 0 k).size = k := by simp [hk]
  rcases h with ⟨h, h0⟩ | ⟨b, off, sp, cap', hcap, e, h⟩
  · obtain ⟨rfl, _, rfl⟩ := Value.slice.inj h
    obtain rfl : k = 0 := by omega
    exact .inl ⟨rfl, he⟩
  · obtain ⟨rfl, _, rfl⟩ := Value.slice.inj e
    refine .inr ⟨b, off, sp, cap, by omega, by rw [he], ?_⟩
    rcases h with h | ⟨hsp, h2, cells, e, fr, h3, h4⟩
    · exact .inl (by omega)
    · refine .inr ⟨hsp, h2, cells, e, fr, h3, fun i hi => ?_⟩
      rw [he] at hi
      rw [h4 i (by omega)]
      congr 3
      rw [ByteArray.getElem_extract]
      simp
theorem Bytes.cap {F : Nat → Prop} {w : World} {a : Option Addr} {n cap : Nat} {bs : ByteArray} (h : Bytes F w (.slice a n cap) bs) : bs.size ≤ cap := by
  rcases h with ⟨h, h0⟩ | ⟨b, off, sp, cap', hcap, e, h⟩
  · obtain ⟨_, _, rfl⟩ := Value.slice.inj h; omega
  · obtain ⟨_, _, rfl⟩ := Value.slice.inj e; exact hcap
theorem keep_pos {s : FsSt} (h : 0 ≤ s.keep) : 0 ≤ s.call.1.2.2 := by
  unfold FsSt.call
  by_cases h1 : s.left = 0
  · rw [if_pos h1]; exact Int.le_refl _
  · rw [if_neg h1]
    by_cases h2 : 0 < wrap64 (s.left - 1)
    · rw [if_pos h2]; exact Int.le_refl _
    · rw [if_neg h2]; exact h
theorem long_size {s : FsSt} {p old b : ByteArray} (h : s.longB p old b = false) (hf : (freeE s p ⟨#[]⟩ == 0) = true) : old.size + b.size ≤ 140737488355328 := by
  unfold FsSt.longB at h
  rw [hf] at h
  simp only [Bool.true_and, Bool.or_eq_false_iff, decide_eq_false_iff_not] at h
  omega
theorem concat_two {w : World} {G : Nat → Prop} {v1 v2 : Value} {x y : ByteArray} (h1 : Bytes G w v1 x) (h2 : Bytes G w v2 y) (hs : x.size + y.size ≤ 140737488355328) :
    Calls Tryz.prog 27 #[.slice (some ⟨w.heap.size, 0, none⟩) 2 2] (w.alloc (.cells #[v1, v2] 37)).drew fun e w' => ∃ v, e = .returned v ∧ Bytes (From w.heap.size) w' v (x ++ y) ∧ Below w.heap.size w w' := by
  have hb : Below w.heap.size w (w.alloc (.cells #[v1, v2] 37)).drew := ((Below.refl _ _).alloc (Nat.le_refl _) _).drew
  have hcat : cat [x, y] = x ++ y := by simp [cat]
  refine (concat_any (G := G) [x, y] 2 w.heap.size 0 2 rfl (by decide) (by rw [hcat]; simpa using hs) ?_).mono ?_
  · intro i z hz
    rcases i with _ | _ | i
    · cases hz; exact ⟨v1, by show (w.alloc (.cells #[v1, v2] 37)).cell? _ = _; rw [cell_of_block (get_new w _)]; rfl, h1.below hb⟩
    · cases hz; exact ⟨v2, by show (w.alloc (.cells #[v1, v2] 37)).cell? _ = _; rw [cell_of_block (get_new w _)]; rfl, h2.below hb⟩
    · simp at hz
  · rintro e w' ⟨v, rfl, hv, hb'⟩
    rw [hcat] at hv
    exact ⟨v, rfl, hv.mono fun k _ hk => by have hk' : w.heap.size + 1 ≤ k := by simpa using hk
                                            unfold From; omega, hb.trans (hb'.mono (by simp))⟩
theorem put_at {w : World} {f m c : Nat} {F : Nat → Prop} {s : FsSt} (h : FsAt w f m c F s) (p : ByteArray) {u : Value} {bs : ByteArray} (hu : Bytes F w u bs) :
    ∃ w', (Instr.mapUpdate 47 (.map (some m)) (.string p) u).run Tryz.prog w = .ok () w' ∧ FsAt w' f m c F (s.put p bs) ∧ w.grownBy w' (some m) := by
  obtain ⟨vs, hm, hb⟩ := h.map
  obtain ⟨w', h1, h2, h3, h4⟩ := hm.store (P := Tryz.prog) (t := 47) (k := 9) (e := 37) (by kernel_rfl) (by kernel_rfl) p u
  exact ⟨w', h1, h.mapped h3 ⟨_, h2, hb.put p hu⟩, h3⟩
theorem new_ne {w w3 : World} {f m c bx : Nat} {F : Nat → Prop} {s s1 : FsSt} {x0 x1 x2 : Int} (h : FsAt w f m c F s) (hm : Mid f m c F w w3 s1 bx x0 x1 x2) : some bx ≠ some m := by
  intro e
  have := Option.some.inj e
  have h1 := h.lt.2.1
  have h2 := hm.new
  omega
set_option maxHeartbeats 4000000 in
theorem write_at {w : World} {f m c : Nat} {F G : Nat → Prop} {s : FsSt} (h : FsAt w f m c F s) (p : ByteArray) (vo vb : Value) (old b : ByteArray) (more : Bool) (ho : Bytes G w vo old) (hb : Bytes G w vb b)
    (hos : old.size ≤ 140737488355328) (hbs : b.size ≤ 140737488355328) (hk : 0 ≤ s.keep) :
    Calls Tryz.prog 59 #[fsPtr f, .string p, vo, vb, .bool more] w (WritePost f m c F w (s.write p old b)) := by
  obtain ⟨ao, co, rfl⟩ := ho.len
  obtain ⟨ab, cb, rfl⟩ := hb.len
  have hlk := looks_one h p
  have HO := Lib.hid ho
  have HB := Lib.hid hb
  clear ho hb
  go_enter Tryz.func59, Tryz.ntmps59
  go_upto_region 7 with (first
    | (go_at_call 53; refine hlk.mono ?_; rintro e w1 ⟨rfl, hb1⟩; have h1 := h.below hb1; have T1 := Lib.hid hb1)
    | (go_at_call 55; refine (call_at h1).mono ?_; rintro e w2 ⟨rfl, h2, t2⟩; have T2 := Lib.hid t2; have h2' := h2.below ((Below.refl _ _).alloc (Nat.le_refl _) (.cells #[.int .i64 s.call.1.1, .int .i64 s.call.1.2.1, .int .i64 s.call.1.2.2] 49)))
    | (go_at_call 84; refine (free_at h2' p ⟨#[]⟩ (good_size (eq_zero (by assumption : (looksE s [p] != 0) = false)) (.head _))).mono ?_; rintro e w3 ⟨rfl, hb3⟩; have hmid := mid_of h2 T1.out T2.out hb3; have HM := Lib.hid hmid; obtain ⟨c0, -, -, -, -, -, -⟩ := hmid.at_.cells; obtain ⟨vl, hlv⟩ := look_is hmid.at_ p; have hln := len_at hmid.at_ 3; clear hmid hb3 h2' h2 t2 h1 hb1 T1 T2))
  · have e0 : ¬ looksE s [p] = 0 := ne_zero (by assumption)
    have eR : s.write p old b = (looksE s [p], s) := by unfold FsSt.write; rw [if_neg e0]
    go_ret
    rw [eR]
    exact ⟨rfl, grow_of (h.below hb1) h.ml, Turns.of_below T1.out⟩
  · have e0 : looksE s [p] = 0 := eq_zero (by assumption)
    have E0 := Lib.hid e0
    have hx : 0 ≤ s.call.1.2.2 := keep_pos hk
    clear e0 hlk hk
    obtain ⟨s1, hs1⟩ : ∃ s1, s1 = s.call.2 := ⟨_, rfl⟩
    obtain ⟨x0, hx0⟩ : ∃ x, x = s.call.1.1 := ⟨_, rfl⟩
    obtain ⟨x1, hx1⟩ : ∃ x, x = s.call.1.2.1 := ⟨_, rfl⟩
    obtain ⟨x2, hx2⟩ : ∃ x, x = s.call.1.2.2 := ⟨_, rfl⟩
    rw [← hs1] at HM hlv hln ⊢
    rw [← hx0, ← hx1, ← hx2] at HM ⊢
    rw [← hx2] at hx
    have EW : Hid (s.write p old b = if x1 = 1 then (20, s1) else if x1 = 0 then (if s1.writeE p old b = 0 then (0, s1.put p (old ++ b)) else (s1.writeE p old b, s1))
      else (ansOf x1, (if s1.writeE p old b = 0 then s1.put p (old ++ b.extract 0 (minLen b x2)) else s1).fall x1)) := Lib.hid (by unfold FsSt.write; rw [if_pos E0.out, ← hs1, ← hx1, ← hx2])
    clear hs1 hx0 hx1 hx2
    go_cut [15, 58] (fun _ v wc => v = .bool (s1.longB p old b) ∧ wc = w3)
    case first =>
      have HH := Lib.hid (show s1.longB p old b = ((freeE s1 p ⟨#[]⟩ == 0) && (decide (1048576 < (old.size : Int) + (b.size : Int)) || (!isFile s1 p && decide (4096 ≤ (s1.files.length : Int))))) from rfl)
      cases eF : (freeE s1 p ⟨#[]⟩ == 0) with
      | false =>
        rw [eF] at HH
        go_wp2
        go_meet
        exact ⟨by rw [HH.out]; rfl, rfl⟩
      | true =>
        rw [eF] at HH
        cases eS : decide (1048576 < (old.size : Int) + (b.size : Int)) with
        | true =>
          rw [eS] at HH
          go_wp2
          go_meet
          exact ⟨by rw [HH.out]; rfl, rfl⟩
        | false =>
          rw [eS] at HH
          cases eI : isFile s1 p with
          | true =>
            rw [eI] at HH
            go_wp2
            go_meet
            exact ⟨by rw [HH.out]; rfl, rfl⟩
          | false =>
            rw [eI] at HH
            go_wp2
            go_meet
            exact ⟨by rw [HH.out]; rfl, rfl⟩
    case rest =>
      obtain ⟨rfl, rfl⟩ := hcut
      have hmid := HM.out
      obtain ⟨bx, hbx⟩ : ∃ bx, bx = w2.heap.size := ⟨_, rfl⟩
      rw [← hbx] at HM hmid ⊢
      obtain ⟨hat, -, b0, b1, b2, -⟩ := hmid
      clear hbx hlv hln
      have hans := fun (g : World) (hg : FsAt g f m c F s1) => answers_at hg x0 x1 x2
      by_cases k1 : x1 = 1
      · subst k1
        have EW1 : Hid (s.write p old b = (20, s1)) := Lib.hid (by rw [EW.out, if_pos rfl])
        clear EW
        cases eL : s1.longB p old b with
        | true =>
          go_wp2
          go_ret
          rw [EW1.out]
          exact ⟨rfl, grow_of HM.out.at_ h.ml, HM.out.t⟩
        | false =>
          go_wp2
          go_ret
          rw [EW1.out]
          exact ⟨rfl, grow_of HM.out.at_ h.ml, HM.out.t⟩
      · have k1' : (x1 == 1) = false := by simpa using k1
        by_cases k0 : x1 = 0
        · subst k0
          have EW1 : Hid (s.write p old b = if s1.writeE p old b = 0 then (0, s1.put p (old ++ b)) else (s1.writeE p old b, s1)) := Lib.hid (by rw [EW.out, if_neg k1, if_pos rfl])
          clear EW k1 k1'
          cases eL : s1.longB p old b with
          | true =>
            have EW2 : Hid (s.write p old b = (3, s1)) := Lib.hid (by rw [EW1.out]; unfold FsSt.writeE; rw [eL]; rfl)
            clear EW1
            go_wp2
            go_ret
            rw [EW2.out]
            exact ⟨rfl, grow_of HM.out.at_ h.ml, HM.out.t⟩
          | false =>
            cases eF : (freeE s1 p ⟨#[]⟩ == 0) with
            | false =>
              have EW2 : Hid (s.write p old b = (freeE s1 p ⟨#[]⟩, s1)) := Lib.hid (by rw [EW1.out, show s1.writeE p old b = freeE s1 p ⟨#[]⟩ by unfold FsSt.writeE; rw [eL]; rfl, if_neg (by simpa using eF)])
              clear EW1
              go_wp2
              go_ret
              rw [EW2.out]
              exact ⟨rfl, grow_of HM.out.at_ h.ml, HM.out.t⟩
            | true =>
              have EW2 : Hid (s.write p old b = (0, s1.put p (old ++ b))) := Lib.hid (by rw [EW1.out, show s1.writeE p old b = freeE s1 p ⟨#[]⟩ by unfold FsSt.writeE; rw [eL]; rfl, if_pos (by simpa using eF)])
              clear EW1
              have hsz : old.size + b.size ≤ 140737488355328 := long_size eL eF
              have hcc := concat_two (HO.out.kept3 h HM.out.t) (HB.out.kept3 h HM.out.t) hsz
              clear hsz
              go_upto_region 16 with fail
              go_cut [] (fun wx => FsAt wx f m c (Grow F w.heap.size) (s1.put p (old ++ b)) ∧ Turns (Own3 f m c) w wx)
              case first =>
                go_region_held3 (fun w' => w'.cell? ⟨f, 0, none⟩ = some (.map (some m))) (first | assumption | go_keep)
                  (first | (go_at_call 27; refine hcc.mono ?_; rintro e w5 ⟨u, rfl, hu5, hb5⟩; have c5 := cell_later hb5 c0; obtain ⟨w6, hst, h6, hg6⟩ := put_at (grow_of (HM.out.at_.below hb5) h.ml) p (hu5.mono fun k _ hk => .inr (Nat.le_trans HM.out.t.size hk)); have c6 := h6.cells.1; have H6 := Lib.hid (And.intro h6 ((HM.out.t.trans (Turns.of_below hb5)).trans (map3 hg6)))))
                all_goals
                  go_wp2
                  go_meet
                  exact H6.out
              case rest =>
                obtain ⟨h6, t6⟩ := hcut
                go_wp2
                go_ret
                rw [EW2.out]
                exact ⟨ret_int (zero_of eF), h6, t6⟩
        · have k0' : (x1 != 0) = true := by simpa using k0
          have EW1 : Hid (s.write p old b = (ansOf x1, (if s1.writeE p old b = 0 then s1.put p (old ++ b.extract 0 (minLen b x2)) else s1).fall x1)) := Lib.hid (by rw [EW.out, if_neg k1, if_neg k0])
          clear EW k1 k0
          cases eL : s1.longB p old b with
          | true =>
            have EW2 : Hid (s.write p old b = (ansOf x1, s1.fall x1)) := Lib.hid (by rw [EW1.out]; unfold FsSt.writeE; rw [eL]; rfl)
            clear EW1
            go_wp2_with (go_at_call 54; refine (hans _ HM.out.at_).mono ?_; rintro e w4 ⟨rfl, h4, t4⟩)
            go_ret
            rw [EW2.out]
            exact ⟨rfl, grow_of h4 h.ml, HM.out.t.trans (Own1.three t4)⟩
          | false =>
            cases eF : (freeE s1 p ⟨#[]⟩ == 0) with
            | false =>
              have EW2 : Hid (s.write p old b = (ansOf x1, s1.fall x1)) := Lib.hid (by rw [EW1.out, show s1.writeE p old b = freeE s1 p ⟨#[]⟩ by unfold FsSt.writeE; rw [eL]; rfl, if_neg (by simpa using eF)])
              clear EW1
              go_wp2_with (go_at_call 54; refine (hans _ HM.out.at_).mono ?_; rintro e w4 ⟨rfl, h4, t4⟩)
              go_ret
              rw [EW2.out]
              exact ⟨rfl, grow_of h4 h.ml, HM.out.t.trans (Own1.three t4)⟩
            | true =>
              have EW2 : Hid (s.write p old b = (ansOf x1, (s1.put p (old ++ b.extract 0 (minLen b x2))).fall x1)) := Lib.hid (by rw [EW1.out, show s1.writeE p old b = freeE s1 p ⟨#[]⟩ by unfold FsSt.writeE; rw [eL]; rfl, if_pos (by simpa using eF)])
              clear EW1
              have hsz : old.size + b.size ≤ 140737488355328 := long_size eL eF
              obtain ⟨hmn, hmk⟩ := min_len (b := b) hx
              obtain ⟨k, hk⟩ : ∃ k, k = minLen b x2 := ⟨_, rfl⟩
              rw [← hk] at hmn hmk
              rw [← hk] at EW2
              have hcc := concat_two (HO.out.kept3 h HM.out.t) ((HB.out.kept3 h HM.out.t).take hmk) (by rw [ByteArray.size_extract]; omega)
              have hkc : (k : Int) ≤ (cb : Int) := by have := HB.out.cap; omega
              have hk0 : (0 : Int) ≤ (k : Int) := by omega
              clear hsz hk hx hmk
              go_upto_region 13 with fail
              go_cut [] (fun wx => FsAt wx f m c (Grow F w.heap.size) (s1.put p (old ++ b.extract 0 k)) ∧ Turns (Own3 f m c) w wx ∧ wx.cell? ⟨bx, 0, none⟩ = some (.int .i64 x0) ∧ wx.cell? ⟨bx, 1, none⟩ = some (.int .i64 x1) ∧ wx.cell? ⟨bx, 2, none⟩ = some (.int .i64 x2))
              case first =>
                go_region_held3 (fun w' => w'.cell? ⟨f, 0, none⟩ = some (.map (some m)) ∧ w'.cell? ⟨bx, 2, none⟩ = some (.int .i64 x2)) (first | exact ⟨by assumption, by assumption⟩ | go_keep)
                  (first | (go_at_call 27; refine hcc.mono ?_; rintro e w5 ⟨u, rfl, hu5, hb5⟩; have c5 := cell_later hb5 c0; have q0 := cell_later hb5 b0; have q1 := cell_later hb5 b1; have q2 := cell_later hb5 b2; obtain ⟨w6, hst, h6, hg6⟩ := put_at (grow_of (HM.out.at_.below hb5) h.ml) p (hu5.mono fun k _ hk => .inr (Nat.le_trans HM.out.t.size hk)); have c6 := h6.cells.1; have r0 := hg6.cell q0 (new_ne h HM.out); have r1 := hg6.cell q1 (new_ne h HM.out); have r2 := hg6.cell q2 (new_ne h HM.out); have H6 := Lib.hid (And.intro h6 (And.intro ((HM.out.t.trans (Turns.of_below hb5)).trans (map3 hg6)) (And.intro r0 (And.intro r1 r2)))); clear r0 r1 q0 q1))
                all_goals
                  go_wp2
                  go_meet
                  exact H6.out
              case rest =>
                obtain ⟨h6, t6, b0, b1, b2⟩ := hcut
                have hans6 := answers_at h6 x0 x1 x2
                go_wp2_with (go_at_call 54; refine hans6.mono ?_; rintro e w7 ⟨rfl, h7, t7⟩)
                go_ret
                rw [EW2.out]
                exact ⟨rfl, h7, t6.trans (Own1.three t7)⟩
end Go.Proofs.YtofkdmmoheffbaaGreatDoor
