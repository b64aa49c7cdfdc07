/- The simulated file system's List. -/
import Derived.Test.YthchfkjdbfhnhaaGreatDoorFsE
import Derived.Test.YthchfkjdbfhnhaaGreatDoorListP
namespace Go.Proofs.YthchfkjdbfhnhaaGreatDoor
open Go Go.RowKit Go.Lany
set_option maxRecDepth 100000
def ListPost (f m c : Nat) (F : Nat → Prop) (w : World) (r : List ByteArray × Int × FsSt) (e : Ending) (w' : World) : Prop :=
  ∃ v, e = .returned (.tuple #[v, .int .i64 r.2.1]) ∧ Strs (From w.heap.size) w' v r.1 ∧ FsAt w' f m c F r.2.2 ∧ Turns (Own3 f m c) w w'
/-- While the files are gone through: the names so far are those of the files that have come. -/
structure ListRel (f m c : Nat) (F : Nat → Prop) (s : FsSt) (vs : List (ByteArray × Value)) (d : ByteArray) (w5 : World) (nm r g : Nat) (wr : World) (left ms : List (ByteArray × Value)) : Prop where
  len : left.length = g
  it : IterOf wr r m vs left
  below : Below w5.heap.size w5 wr
  map : MapOf wr nm ms
  fresh : w5.heap.size ≤ nm ∧ nm ≠ r ∧ w5.heap.size ≤ r
  apart : nm ≠ m
  sound : ∀ x, x ∈ akeys ms → ∃ p ∈ akeys vs, inDir d p = true ∧ nameOf d p = x
  size : ms.length + left.length ≤ vs.length
  whole : ∀ p ∈ akeys vs, inDir d p = true → p ∈ akeys left ∨ nameOf d p ∈ akeys ms
theorem dir_size {d : ByteArray} (h : badDir d = false) : d.size ≤ 140737488351232 := by
  unfold badDir at h
  cases e : (d.toList == [47]) with
  | true =>
    have : d.data.size = 1 := by
      have := eq_of_beq e
      rw [ByteArray.toList_eq] at this
      have := congrArg List.length this
      simpa using this
    have h2 : d.size = d.data.size := rfl
    omega
  | false =>
    rw [e] at h
    simp at h
    unfold goodB at h
    simp at h
    omega
theorem cut_len (l : List UInt8) : (Lib.cut l [47]).1.length ≤ l.length := by
  unfold Lib.cut
  split
  · simp
    omega
  · simp
theorem rest_size (d p : ByteArray) : (restOf d p).size ≤ p.size := by
  unfold restOf Lib.trimPrefix
  show (List.toArray _).size ≤ p.data.size
  split
  · simp
  · simp
theorem name_size (d p : ByteArray) : (nameOf d p).size ≤ p.size + 1 := by
  have h1 := rest_size d p
  have h2 := cut_len (restOf d p).data.toList
  have h3 : (restOf d p).data.toList.length = (restOf d p).size := by simp
  unfold nameOf
  split
  · rw [ByteArray.size_append]
    show (List.toArray _).size + 1 ≤ _
    simp only [List.size_toArray]
    omega
  · show (List.toArray _).size ≤ _
    simp only [List.size_toArray]
    omega
theorem name_sizes {f m c : Nat} {F : Nat → Prop} {s : FsSt} {vs : List (ByteArray × Value)} {d : ByteArray} {w5 wr : World} {nm r g : Nat} {left ms : List (ByteArray × Value)} (h : ListRel f m c F s vs d w5 nm r g wr left ms)
    (hk : ∀ k ∈ akeys vs, k.size ≤ 1024) : ∀ k ∈ akeys ms, k.size ≤ 1000000 := by
  intro k hks
  obtain ⟨p, hp, _, rfl⟩ := h.sound k hks
  have := hk p hp
  have := name_size d p
  omega
theorem list_whole {f m c : Nat} {F : Nat → Prop} {s : FsSt} {vs : List (ByteArray × Value)} {d : ByteArray} {w5 wr : World} {nm r g : Nat} {ms : List (ByteArray × Value)} (h : ListRel f m c F s vs d w5 nm r g wr [] ms) : rise (akeys ms) = listOf (akeys vs) d := by
  refine rise_same h.map.nodup (nodup_uniq _) fun x => ?_
  rw [mem_uniq, List.mem_map]
  constructor
  · intro hx
    obtain ⟨p, hp, h1, h2⟩ := h.sound x hx
    exact ⟨p, List.mem_filter.2 ⟨hp, h1⟩, h2⟩
  · rintro ⟨p, hp, rfl⟩
    obtain ⟨h1, h2⟩ := List.mem_filter.1 hp
    rcases h.whole p h1 h2 with h3 | h3
    · simp [akeys] at h3
    · exact h3
theorem left_in {f m c : Nat} {F : Nat → Prop} {s : FsSt} {vs : List (ByteArray × Value)} {d : ByteArray} {w5 wr : World} {nm r g : Nat} {left ms : List (ByteArray × Value)} (h : ListRel f m c F s vs d w5 nm r g wr left ms) {x : ByteArray} {v : Value} (hx : (x, v) ∈ left) : x ∈ akeys vs := by
  obtain ⟨es, clock, seen, c0, a1, a2, a3, a4, a5, a6⟩ := h.it
  have h1 : (Value.string x, v) ∈ left.map (fun p => (Value.string p.1, p.2)) := List.mem_map.2 ⟨_, hx, rfl⟩
  rw [← a6] at h1
  obtain ⟨e, he, heq⟩ := List.mem_map.1 h1
  have h2 : (e.key, e.val) ∈ es.toList.map (fun e => (e.key, e.val)) := List.mem_map.2 ⟨e, (List.mem_filter.1 he).1, rfl⟩
  rw [heq, a3] at h2
  obtain ⟨p, hp, hpe⟩ := List.mem_map.1 h2
  simp only [Prod.mk.injEq] at hpe
  exact List.mem_map.2 ⟨p, hp, Value.string.inj hpe.1⟩
/-- One file further, nothing laid. -/
theorem list_next {f m c : Nat} {F : Nat → Prop} {s : FsSt} {vs : List (ByteArray × Value)} {d : ByteArray} {w5 wr w7 : World} {nm r g : Nat} {left ms : List (ByteArray × Value)} (h : ListRel f m c F s vs d w5 nm r g wr left ms) {x : ByteArray} {v : Value} (hx : (x, v) ∈ left)
    (hi : IterOf w7 r m vs (adel left x)) (hg : wr.grownBy w7 (some r)) (hin : inDir d x = true → nameOf d x ∈ akeys ms) : ListRel f m c F s vs d w5 nm r (adel left x).length w7 (adel left x) ms := by
  have hl := adel_length h.it.nodup hx
  refine ⟨rfl, hi, h.below.grown hg h.below.size (fun k hk => by cases hk; exact h.fresh.2.2), h.map.kept (S := fun k => k = r) (Turns.of_grown hg fun k e => (Option.some.inj e).symm) h.fresh.2.1, h.fresh, h.apart, h.sound, by have := h.size; omega, fun p hp hd => ?_⟩
  rcases h.whole p hp hd with h1 | h1
  · by_cases e : p = x
    · subst e; exact .inr (hin hd)
    · left
      have : aget (adel left x) p = aget left p := by rw [aget_adel, if_neg e]
      rw [mem_akeys] at h1 ⊢
      rw [this]; exact h1
  · exact .inr h1
theorem list_map {f m c : Nat} {F : Nat → Prop} {s : FsSt} {vs : List (ByteArray × Value)} {d : ByteArray} {w5 wr w7 : World} {nm r g nd : Nat} {left ms : List (ByteArray × Value)} (h : ListRel f m c F s vs d w5 nm r g wr left ms) (hg : wr.grownBy w7 (some r)) : MapOf (w7.drewN nd) nm ms :=
  h.map.kept (S := fun k => k = r) ((Turns.of_grown hg fun k e => (Option.some.inj e).symm).drewN nd) h.fresh.2.1
/-- One file further, its name laid. -/
theorem list_put {f m c : Nat} {F : Nat → Prop} {s : FsSt} {vs : List (ByteArray × Value)} {d : ByteArray} {w5 wr w7 w8 : World} {nm r g nd : Nat} {left ms : List (ByteArray × Value)} (h : ListRel f m c F s vs d w5 nm r g wr left ms) {x nn : ByteArray} {v u : Value} (hx : (x, v) ∈ left) (hin : inDir d x = true)
    (hi : IterOf w7 r m vs (adel left x)) (hg : wr.grownBy w7 (some r)) (hn : nameOf d x = nn) (h8 : MapOf w8 nm (aput ms nn u)) (hg8 : (w7.drewN nd).grownBy w8 (some nm)) : ListRel f m c F s vs d w5 nm r (adel left x).length w8 (adel left x) (aput ms nn u) := by
  have hl := adel_length h.it.nodup hx
  have t8 : Turns (fun k => k = nm) w7 w8 := ((Turns.refl _ w7).drewN nd).trans (Turns.of_grown hg8 fun k e => (Option.some.inj e).symm)
  have hmem : ∀ y, y ∈ akeys (aput ms nn u) ↔ y = nn ∨ y ∈ akeys ms := by
    intro y
    rw [mem_akeys, mem_akeys, aget_aput]
    by_cases e : y = nn
    · simp [e]
    · simp [e]
  have hmm := h.apart
  refine ⟨rfl, hi.kept t8 (fun e => hmm e.symm) (fun e => h.fresh.2.1 e.symm), (h.below.grown hg h.below.size (fun k hk => by cases hk; exact h.fresh.2.2)).trans (t8.below (Nat.le_trans h.below.size hg.size) fun k hk e => by have := h.fresh.1; omega), h8, h.fresh, h.apart, fun y hy => ?_, ?_, fun p hp hd => ?_⟩
  · rcases (hmem y).1 hy with rfl | h1
    · exact ⟨x, left_in h hx, hin, hn⟩
    · exact h.sound y h1
  · have := h.size
    rw [length_aput]
    split <;> omega
  · by_cases e : p = x
    · subst e; exact .inr ((hmem _).2 (.inl hn))
    · rcases h.whole p hp hd with h1 | h1
      · left
        have : aget (adel left x) p = aget left p := by rw [aget_adel, if_neg e]
        rw [mem_akeys] at h1 ⊢
        rw [this]; exact h1
      · exact .inr ((hmem _).2 (.inr h1))
def DirCut (d : ByteArray) (w5 : World) (v : Value) (wc : World) : Prop := v = .string (dirOf d) ∧ wc = w5
set_option maxHeartbeats 4000000 in
theorem list_at {w : World} {f m c : Nat} {F : Nat → Prop} {s : FsSt} (h : FsAt w f m c F s) (d : ByteArray) (hks : ∀ k ∈ akeys s.files, k.size ≤ 1024) (hlen : s.files.length ≤ 4096) :
    Calls Tryz.prog 14 #[fsPtr f, .string d] w (ListPost f m c F w (s.list d)) := by
  have hlk := looks_nil h
  have hmm := @run_makeMap Tryz.prog
  go_enter Tryz.func14, Tryz.ntmps14
  go_upto_region 4 with (go_at_call 36; refine hlk.mono ?_; rintro e w1 ⟨rfl, hb1⟩; have h1 := h.below hb1; have T1 := Lib.hid hb1)
  · have e0 : ¬ looksE s [] = 0 := ne_zero (by assumption)
    have eR : s.list d = ([], looksE s [], s) := by unfold FsSt.list; rw [if_neg e0]
    go_ret2
    rw [eR]
    exact ⟨_, rfl, .inl ⟨rfl, rfl⟩, h1, Turns.of_below T1.out⟩
  · have e0 : looksE s [] = 0 := eq_zero (by assumption)
    have E0 := Lib.hid e0
    clear e0 hlk
    go_cut [28] (fun v wc => v = .bool (badDir d) ∧ Below w1.heap.size w1 wc)
    case first =>
      cases e1 : (d.toList == [47]) with
      | true =>
        have hbd : Hid (badDir d = false) := Lib.hid (by unfold badDir; rw [e1]; rfl)
        have e1' : (d.toList != [47]) = false := by simp [bne, e1]
        go_wp2
        go_meet
        exact ⟨by rw [hbd.out], Below.refl _ _⟩
      | false =>
        have hbd : Hid (badDir d = !goodB d) := Lib.hid (by unfold badDir; rw [e1]; rfl)
        have e1' : (d.toList != [47]) = true := by simp [bne, e1]
        go_wp2_with (go_at_call 41; refine (good_any d _ h1.ml).mono ?_; rintro e w2 ⟨rfl, hb2⟩)
        go_meet
        exact ⟨by rw [hbd.out], hb2⟩
    case rest =>
      obtain ⟨rfl, hb2⟩ := hcut
      have h2 := h1.below hb2
      have T2 := Lib.hid (T1.out.trans (hb2.mono T1.out.size))
      clear hb2 T1 h1 hb1
      go_upto_region 14 with (first
        | (go_at_call 38; refine (call_at h2).mono ?_; rintro e w3 ⟨rfl, h3, t3⟩; have T3 := Lib.hid t3; clear t3)
        | (go_at_call 37; refine (answers_at h3 _ _ _).mono ?_; rintro e w4 ⟨rfl, h4, t4⟩; have T4 := Lib.hid ((Turns.lift T2.out T3.out).trans (Own1.three t4)); obtain ⟨c0, -, -, -, -, -, -⟩ := h4.cells; obtain ⟨vl, hlv⟩ := look_is h4 d; clear t4 h3 T3)
        | (go_at_call 42; refine (dir_at h4 d ⟨#[]⟩ (dir_size (by assumption))).mono ?_; rintro e w5 ⟨rfl, hb5⟩; have h5 := h4.below hb5; have T5 := Lib.hid (T4.out.trans (Turns.of_below hb5)); obtain ⟨c5, -, -, -, -, -, -⟩ := h5.cells; clear hb5))
      · have e1 : badDir d = true := by assumption
        have eR : s.list d = ([], 23, s) := by unfold FsSt.list; rw [if_pos E0.out, if_pos e1]
        go_ret2
        rw [eR]
        exact ⟨_, rfl, .inl ⟨rfl, rfl⟩, h2, Turns.of_below T2.out⟩
      · have e1 : badDir d = false := by assumption
        have e2 : ¬ ansOf s.call.1.2.1 = 0 := ne_zero (by assumption)
        have eR : s.list d = ([], ansOf s.call.1.2.1, s.after) := by unfold FsSt.list; rw [if_pos E0.out, e1, if_neg (by decide), if_neg e2]
        go_ret2
        rw [eR]
        exact ⟨_, rfl, .inl ⟨rfl, rfl⟩, h4, T4.out⟩
      · have e1 : badDir d = false := by assumption
        have e2 : ansOf s.call.1.2.1 = 0 := eq_zero (by assumption)
        have e3 : isFile s.after d = true := by assumption
        have eR : s.list d = ([], 24, s.after) := by unfold FsSt.list; rw [if_pos E0.out, e1, if_neg (by decide), if_pos e2, if_pos e3]
        go_ret2
        rw [eR]
        exact ⟨_, rfl, .inl ⟨rfl, rfl⟩, h4, T4.out⟩
      · have e1 : badDir d = false := by assumption
        have e2 : ansOf s.call.1.2.1 = 0 := eq_zero (by assumption)
        have e3 : isFile s.after d = false := by assumption
        have e4 : dirB (akeys s.after.files) d ⟨#[]⟩ = false := by
          have : (!dirB (akeys s.after.files) d ⟨#[]⟩) = true := by assumption
          simpa using this
        have eR : s.list d = ([], 4, s.after) := by unfold FsSt.list; rw [if_pos E0.out, e1, if_neg (by decide), if_pos e2, e3, if_neg (by decide), e4, if_neg (by decide)]
        go_ret2
        rw [eR]
        exact ⟨_, rfl, .inl ⟨rfl, rfl⟩, h5, T5.out⟩
      · have e1 : badDir d = false := by assumption
        have e2 : ansOf s.call.1.2.1 = 0 := eq_zero (by assumption)
        have e3 : isFile s.after d = false := by assumption
        have e4 : dirB (akeys s.after.files) d ⟨#[]⟩ = true := by
          have : (!dirB (akeys s.after.files) d ⟨#[]⟩) = false := by assumption
          simpa using this
        have eR : Hid (s.list d = (listOf (akeys s.after.files) (dirOf d), 0, s.after)) := Lib.hid (by unfold FsSt.list; rw [if_pos E0.out, e1, if_neg (by decide), if_pos e2, e3, if_neg (by decide), e4, if_pos rfl])
        have hds := dir_size e1
        have T5' := T5
        clear e1 e2 e3 e4 hlv T4 T2 E0 h2 T5 c0
        go_upto_if 51 with fail
        go_cut [1] (fun v wc => DirCut d w5 v wc)
        case first =>
          go_wp2
          · go_meet
            exact ⟨by unfold dirOf; rw [show (d.toList == [47]) = false by simpa using (by assumption : (!(d.toList == [47])) = true)]; rfl, rfl⟩
          · go_meet
            exact ⟨by unfold dirOf; rw [show (d.toList == [47]) = true by simpa using (by assumption : (!(d.toList == [47])) = false)]; rfl, rfl⟩
        case rest =>
          obtain ⟨rfl, rfl⟩ := hcut
          obtain ⟨dd, hdd⟩ : ∃ dd, dd = dirOf d := ⟨_, rfl⟩
          rw [← hdd] at eR ⊢
          have HDD := Lib.hid hdd
          clear hdd
          obtain ⟨vs, hm5, hb5⟩ := h5.map
          have hkv : akeys vs = akeys s.files := by rw [hb5.akeys]; exact congrArg _ (after_files s)
          have hlv : vs.length = s.files.length := by rw [hb5.length]; exact congrArg _ (after_files s)
          have eR2 : Hid (s.list d = (listOf (akeys vs) dd, 0, s.after)) := Lib.hid (by rw [eR.out, hkv, after_files])
          have HK : Hid (∀ k ∈ akeys vs, k.size ≤ 1024) := Lib.hid (by rw [hkv]; exact hks)
          have HL : Hid (vs.length ≤ 4096) := Lib.hid (by rw [hlv]; exact hlen)
          clear hkv hlv hks hlen eR hb5
          have hmA := hm5.of_block (w' := wc.alloc (.map #[] 0)) (get_alloc wc _ hm5.lt)
          have hmN : MapOf (wc.alloc (.map #[] 0)) wc.heap.size [] := MapOf.made wc
          have c6 : (wc.alloc (.map #[] 0)).cell? ⟨f, 0, none⟩ = some (.map (some m)) := cell_later ((Below.refl _ _).alloc (Nat.le_refl _) _) c5
          go_wp2_with (at_range; refine wpList_range_str 38 9 30 rfl _ rfl (by kernel_rfl) hmA rfl ?_; intro w6 hi hg hs)
          go_frame
          rw [show (wc.alloc (.map #[] 0)).heap.size = wc.heap.size + 1 from size_alloc _ _] at hi ⊢
          obtain ⟨r, hr⟩ : ∃ r, r = wc.heap.size + 1 := ⟨_, rfl⟩
          obtain ⟨nm, hnm⟩ : ∃ nm, nm = wc.heap.size := ⟨_, rfl⟩
          rw [← hr] at hi ⊢
          rw [← hnm] at hmN ⊢
          have hb6 : Below wc.heap.size wc w6 := ((Below.refl _ _).alloc (Nat.le_refl _) _).grown hg (by simp) (fun k hk => by cases hk)
          have hmN6 : MapOf w6 nm [] := hmN.kept (S := fun _ => False) (Turns.of_grown hg fun k e => by cases e) id
          have HR := Lib.hid hr
          have HNM := Lib.hid hnm
          have HS := Lib.hid hs
          clear hr hnm hs hmA hmN c6
          go_loopg [11] vs.length (fun g _ wr => ∃ left ms, ListRel f m c F s vs dd wc nm r g wr left ms)
          case atStart => exact ⟨vs, [], rfl, hi, hb6, hmN6, by have := HR.out; have := HNM.out; omega, by have := HNM.out; have := hm5.lt; omega, by simp [akeys], by simp, fun p hp _ => .inl hp⟩
          case round =>
            obtain ⟨left, ms, hrel⟩ := hrel
            have hit := hrel.it
            have hml : Ml wr := h5.ml.below hrel.below
            have HREL := Lib.hid hrel
            clear hrel hi hb6 hmN6 hg
            go_wp2_with (at_next; refine wpList_next_str rfl _ rfl rfl hit ?_ ?_)
            · intro hnil
              subst hnil
              have hk1 := keysT wr nm
              have hk2 := sortedT HREL.out.map (by have := HREL.out.size; have := HL.out; omega) (name_sizes HREL.out HK.out)
              clear hit hml
              go_wp2_with (first
                | (go_at_call 46; refine hk1.mono ?_; rintro e w8 ⟨rfl, rfl⟩)
                | (go_at_call 45; refine hk2.mono ?_; rintro e w8 ⟨u, rfl, hu, hb8⟩; have HU := Lib.hid hu; clear hu))
              go_ret2
              rw [eR2.out]
              have hbb : Below wc.heap.size wc w8 := HREL.out.below.trans (hb8.mono HREL.out.below.size)
              refine ⟨_, rfl, ?_, h5.below hbb, T5'.out.trans (Turns.of_below hbb)⟩
              rw [show (listOf (akeys vs) dd, (0 : Int), s.after).1 = listOf (akeys vs) dd from rfl, ← list_whole HREL.out]
              exact HU.out.mono fun k _ hk => Nat.le_trans (Nat.le_trans T5'.out.size HREL.out.below.size) hk
            · intro x v w7 hin hit7 hg7 hs7 hen
              have hcp : ∀ w', Calls Tryz.prog 43 #[.string x, .string dd] w' fun e w'' => e = .returned (.tuple #[.string (restOf dd x), .bool (inDir dd x)]) ∧ w' = w'' := fun w' => (Tryz.strings_CutPrefix x dd w').mono fun _ _ ⟨a, b⟩ => ⟨a, b.symm⟩
              have hx : x.size ≤ 1024 := HK.out x (left_in HREL.out hin)
              have hml7 : Ml w7 := hml.kept (S := fun k => k = r) (Turns.of_grown hg7 fun k e => (Option.some.inj e).symm) (fun e => by
                have h1 := h5.ml
                obtain ⟨n, hn⟩ := h1
                have h2 := World.block_lt_of_cell? _ _ hn
                have h3 := HREL.out.fresh.2.2
                simp only at h2
                omega)
              have hr7 := list_next HREL.out hin hit7 hg7
              have HIN := Lib.hid hin
              clear hin hs7 hml hit
              cases ei : inDir dd x with
              | false =>
                rw [ei] at hcp
                have HR7 := Lib.hid (hr7 (fun e => by rw [ei] at e; cases e))
                clear hr7
                go_wp2_with (go_at_call 43; refine (hcp _).mono ?_; rintro e w' ⟨rfl, rfl⟩)
                go_roundg (adel left x).length
                case measure => have := HREL.out.len; have := adel_length HREL.out.it.nodup HIN.out; omega
                case rel => exact ⟨_, _, HR7.out⟩
              | true =>
                have HIND := Lib.hid ei
                rw [ei] at hcp
                obtain ⟨k0, hk0⟩ := hml7
                have hrs : (restOf dd x).size < 4294967281 := by have := rest_size dd x; omega
                have hct := Tryz.strings_Cut (restOf dd x) ⟨#[47]⟩ k0 w7 hrs hk0
                cases ed : (Lib.cut (restOf dd x).data.toList [47]).2.2 with
                | false =>
                  rw [show (⟨#[47]⟩ : ByteArray).data.toList = [47] from rfl, ed] at hct
                  have hnm : Hid (nameOf dd x = ⟨(Lib.cut (restOf dd x).data.toList [47]).1.toArray⟩) := Lib.hid (by unfold nameOf; rw [ed]; rfl)
                  generalize (⟨(Lib.cut (restOf dd x).data.toList [47]).1.toArray⟩ : ByteArray) = nn at hct hnm
                  generalize (⟨(Lib.cut (restOf dd x).data.toList [47]).2.1.toArray⟩ : ByteArray) = n2 at hct
                  clear hr7 ed ei hk0
                  go_wp2_with (first
                    | (go_at_call 43; refine (hcp _).mono ?_; rintro e w' ⟨rfl, rfl⟩)
                    | (go_at_call 44; refine hct.mono ?_; rintro e w' ⟨rfl, nd, rfl⟩; have hmp := list_map (nd := nd) HREL.out hg7)
                    | (at_mapUpdate; refine wpList_store_str 76 9 4 rfl _ _ _ rfl (by kernel_rfl) (by kernel_rfl) hmp rfl nn rfl (.bool true) rfl ?_; intro w8 hm8 hg8 hs8))
                  go_roundg (adel left x).length
                  case measure => have := HREL.out.len; have := adel_length HREL.out.it.nodup HIN.out; omega
                  case rel => exact ⟨_, _, list_put HREL.out HIN.out HIND.out hit7 hg7 hnm.out hm8 hg8⟩
                | true =>
                  rw [show (⟨#[47]⟩ : ByteArray).data.toList = [47] from rfl, ed] at hct
                  have hnm : Hid (nameOf dd x = ⟨(Lib.cut (restOf dd x).data.toList [47]).1.toArray⟩ ++ slash) := Lib.hid (by unfold nameOf; rw [ed]; rfl)
                  have hl : (⟨(Lib.cut (restOf dd x).data.toList [47]).1.toArray⟩ : ByteArray).size ≤ 1024 := by
                    have h2 := cut_len (restOf dd x).data.toList
                    have h3 := rest_size dd x
                    have h4 : (restOf dd x).data.toList.length = (restOf dd x).size := by simp
                    show (List.toArray _).size ≤ _
                    simp only [List.size_toArray]
                    omega
                  generalize (⟨(Lib.cut (restOf dd x).data.toList [47]).1.toArray⟩ : ByteArray) = nn at hct hnm hl
                  generalize (⟨(Lib.cut (restOf dd x).data.toList [47]).2.1.toArray⟩ : ByteArray) = n2 at hct
                  clear hr7 ed ei hk0
                  go_wp2_with (first
                    | (go_at_call 43; refine (hcp _).mono ?_; rintro e w' ⟨rfl, rfl⟩)
                    | (go_at_call 44; refine hct.mono ?_; rintro e w' ⟨rfl, nd, rfl⟩; have hmp := list_map (nd := nd) HREL.out hg7)
                    | (at_mapUpdate; refine wpList_store_str 76 9 4 rfl _ _ _ rfl (by kernel_rfl) (by kernel_rfl) hmp rfl (nn ++ slash) rfl (.bool true) rfl ?_; intro w8 hm8 hg8 hs8))
                  go_roundg (adel left x).length
                  case measure => have := HREL.out.len; have := adel_length HREL.out.it.nodup HIN.out; omega
                  case rel => exact ⟨_, _, list_put HREL.out HIN.out HIND.out hit7 hg7 hnm.out hm8 hg8⟩
end Go.Proofs.YthchfkjdbfhnhaaGreatDoor
