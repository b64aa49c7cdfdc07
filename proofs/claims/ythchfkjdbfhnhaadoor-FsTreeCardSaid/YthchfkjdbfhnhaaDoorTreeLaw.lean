/- No file is below a file, and each directory's list has just the first names of what is below it: the law. -/
import Derived.Test.YthchfkjdbfhnhaaDoorScript
import Derived.Test.YthchfkjdbfhnhaaDoorClone
import Derived.Test.YthchfkjdbfhnhaaDoorRange
import Derived.Test.YthchfkjdbfhnhaaDoorRise
import Derived.Laws.Cover1
namespace Go.Proofs.YthchfkjdbfhnhaaDoor
open Go Go.RowKit Go.Shelf Go.Lany
attribute [local go_sem] Oper.semAt_some
set_option maxRecDepth 100000
theorem Tree.oneV {s : FsSt} (h : Tree s) (hw : s.Wf) (o : OpV) : Tree (s.oneV o).2 := h.one hw _ _ _ _ _ _ _
theorem Tree.runV {s : FsSt} (h : Tree s) (hw : s.Wf) (l : List OpV) : Tree (s.runV l) := by
  induction l generalizing s with
  | nil => exact h
  | cons o l ih => exact ih (h.oneV hw o) (hw.oneV o)
theorem Wf.still {s t : FsSt} (hw : s.Wf) (h : Still s t) (hk : 0 ≤ t.keep) : t.Wf := hw.same h.files hk
theorem infoS : (Tryd.prog.info? 9).map (fun i => (i.zero, i.size, i.bytes)) = some (some (.string ⟨#[]⟩), 1, 16) := by kernel_rfl
/-- Where the law stands behind the paths. -/
structure TRel (w : World) (f m c A B0 B1 D : Nat) (s0 : FsSt) (v : Value) (L : List ByteArray) (wr : World) : Prop where
  st : ∃ t, Still s0 t ∧ FsAt wr f m c (fun k => w.heap.size ≤ k ∧ k < A) t
  box : wr.heap[A]? = some (.cells #[v] 30 (0, 0))
  strs : Strs (fun k => B0 ≤ k ∧ k < B1) wr v L
  mark : wr.heap[D]? = some (.deferred (some []))
  bel : Below w.heap.size w wr
  big : B1 ≤ wr.heap.size
theorem TRel.below {w : World} {f m c A B0 B1 D : Nat} {s0 : FsSt} {v : Value} {L : List ByteArray} {wr w' : World} (h : TRel w f m c A B0 B1 D s0 v L wr) (t : Below wr.heap.size wr w') : TRel w f m c A B0 B1 D s0 v L w' := by
  obtain ⟨u, h1, h2⟩ := h.st
  exact ⟨⟨u, h1, h2.below t⟩, (t.block _ (lt_of_block h.box)).trans h.box, h.strs.below t, (t.block _ (lt_of_block h.mark)).trans h.mark, h.bel.trans (t.mono h.bel.size), Nat.le_trans h.big t.size⟩
theorem TRel.own3 {w : World} {f m c A B0 B1 D : Nat} {s0 t : FsSt} {v : Value} {L : List ByteArray} {wr w' : World} (h : TRel w f m c A B0 B1 D s0 v L wr) (hA : w.heap.size ≤ A) (hB : A < B0) (hD : B0 ≤ D) (hs : Still s0 t) (h2 : FsAt w' f m c (fun k => w.heap.size ≤ k ∧ k < A) t) (tt : Turns (Own3 f m c) wr w') :
    TRel w f m c A B0 B1 D s0 v L w' := by
  have hlo : ∀ k, Own3 f m c k → w.heap.size ≤ k ∧ k < A := by
    obtain ⟨i1, i2, i3⟩ := h2.inF
    rintro k (rfl | rfl | rfl)
    · exact i1
    · exact i2
    · exact i3
  exact ⟨⟨t, hs, h2⟩, (tt.block _ (lt_of_block h.box) fun e => by have := hlo _ e; omega).trans h.box, h.strs.kept tt (fun k hk e => by have := hlo _ e; omega), (tt.block _ (lt_of_block h.mark) fun e => by have := hlo _ e; omega).trans h.mark, h.bel.trans (tt.below h.bel.size fun k hk e => by have := hlo _ e; omega), Nat.le_trans h.big tt.size⟩
set_option maxHeartbeats 8000000 in
theorem fsTree_any {w : World} (hml : Ml w) {v : Value} {l : List OpV} (hS : Script w.heap.size w v l) (hl : l.length ≤ 140737488351232) : Calls Tryd.prog 4 #[v] w (BoolPost true w) := by
  obtain ⟨i0, hi, hz0, hz1, hz2⟩ := info_parts infoS
  have hwf := FsSt.Wf.zero.runV l
  have htr := Tree.zero.runV FsSt.Wf.zero l
  have hst := Still.begun (s := FsSt.zero.runV l)
  have hrun := run_at hml hS hl
  have HI := Lib.hid hi
  have HZ0 := Lib.hid hz0
  have HZ1 := Lib.hid hz1
  have HZ2 := Lib.hid hz2
  have HWF := Lib.hid hwf
  have HTR := Lib.hid htr
  have HST := Lib.hid hst
  have HML := Lib.hid hml
  clear hS hwf htr hst hml hi hz0 hz1 hz2
  refine (callsIn_wide (n := 6)).1 ?_
  refine callsIn_of_wp_marks Tryd.func4 rfl trivial ?_ rfl
  simp only [Tryd.ntmps4, List.size_toArray, List.length_cons, List.length_nil, Nat.reduceAdd, Nat.reduceSub, Array.replicate_succ, Array.replicate_zero, List.push_toArray, List.append_toArray, List.nil_append, List.cons_append]
  gi_wp2_with (first
    | (refine ⟨trivial, ?_⟩; gi_at_call 11; refine (callsIn_wide.2 hrun).mono ?_; rintro e w1 ⟨f, m, c, rfl, h1, t1⟩; have T1 := Lib.hid t1; clear t1 hrun)
    | (refine ⟨trivial, ?_⟩; gi_at_call 8; refine (callsIn_wide.2 (begun_any h1.ml)).mono ?_; rintro e w2 ⟨rfl, t2⟩; have h2 := h1.below t2; have T2 := Lib.hid (T1.out.trans (t2.mono T1.out.size)); clear t2 h1 T1)
    | (refine ⟨trivial, ?_⟩; gi_at_call 12; refine (callsIn_wide.2 (restart_at h2)).mono ?_; rintro e w3 ⟨rfl, h3, t3⟩; have T3 := Lib.hid (Own1.three (m := m) (c := c) t3); clear t3)
    | (refine ⟨trivial, ?_⟩; gi_at_call 13; refine (callsIn_wide.2 (setFault_at h3 0 0 0)).mono ?_; rintro e w4 ⟨rfl, h4, t4⟩; have T4 := Lib.hid (T3.out.trans (Own1.three (m := m) (c := c) t4)); clear t4 T3 h3 h2))
  obtain ⟨s4, hs4⟩ : ∃ s4, s4 = ((FsSt.zero.runV l).restart.snd.setFault 0 0 0).snd := ⟨_, rfl⟩
  obtain ⟨s0, hs0⟩ : ∃ s0, s0 = FsSt.zero.runV l := ⟨_, rfl⟩
  have hw4 : s4.Wf := by rw [hs4]; exact HWF.out.restart.setFault 0 0 0
  have hst : Still s0 s4 := by rw [hs0, hs4]; exact HST.out.1
  rw [← hs4] at h4
  rw [← hs0] at HWF HTR
  have hP := paths_at (h4.below ((Below.refl _ _).alloc (Nat.le_refl _) (.cells #[.slice none 0 0] 30))) hw4
  rw [hst.files] at hP
  have H4 := Lib.hid h4
  have HW4 := Lib.hid hw4
  have HST4 := Lib.hid hst
  clear h4 hw4 hst hs4 hs0 HST
  refine ⟨trivial, ?_⟩
  refine (callsIn_wide.2 hP).mono ?_
  rintro e w5 ⟨B, vz, rfl, hcb, hvz, t5⟩
  clear hP
  have hA5 : w5.heap[w4.heap.size]? = some (.cells #[.slice none 0 0] 30 (0, 0)) := (t5.block _ (by simp)).trans (get_new _ _)
  have hs5 := t5.size
  rw [size_alloc] at hs5
  have HVZ : Hid (Strs (fun k => w4.heap.size + 1 ≤ k ∧ k < w5.heap.size) w5 vz (rise (akeys s0.files))) := Lib.hid (hvz.mono fun k hk h => ⟨by simpa [From] using h, hk⟩)
  have HCB := Lib.hid hcb
  have h05 : Gather w5 w4.heap.size w5.heap.size [] w5 := ⟨⟨_, hA5, World.ownsRow_nil _ _ _ _⟩, Turns.refl _ _⟩
  have hlt4 := H4.out.lt
  have hin4 : w.heap.size ≤ f ∧ w.heap.size ≤ m ∧ w.heap.size ≤ c := H4.out.inF
  have h4g : FsAt w4 f m c (fun k => w.heap.size ≤ k ∧ k < w4.heap.size) s4 := H4.out.mono (fun k hk h => ⟨h, hk⟩) fun h => H4.out.far h.1
  have H5 := Lib.hid (h4g.below (((Below.refl _ _).alloc (Nat.le_refl _) _).trans (t5.mono (by simp))))
  have b04 : Below w.heap.size w w4 := T2.out.trans (T4.out.below T2.out.size fun k hk e => by unfold Own3 at e; omega)
  have hs4 := b04.size
  have B05 := Lib.hid ((b04.alloc hs4 (.cells #[.slice none 0 0] 30)).trans (t5.mono (by rw [size_alloc]; omega)))
  clear h4g b04
  have T5 := Lib.hid t5
  have H05 := Lib.hid h05
  have hlen : (rise (akeys s0.files)).length ≤ 4096 := by rw [rise_length]; have := HWF.out.many; simpa [akeys] using this
  clear hvz hcb t5 h05 hA5
  gi_wp2
  refine range_strs (q := 5) (by decide) rfl HCB.out HVZ.out (fun _ h => h.2) (by omega) (Gather w5 w4.heap.size w5.heap.size) (Gather.own (by omega) (Nat.le_refl _)) H05.out ?assign ?body ?done
  case assign =>
    intro l x W K hK
    gi_wp2
    simpa using hK
  case body =>
    intro l pre x W hG hpl
    obtain ⟨v0, hb0, ho0⟩ := hG.box
    have e0 : W.cell? ⟨w4.heap.size, 0, none⟩ = some v0 := by rw [cell_of_block hb0]; rfl
    have f0 : W.frozen? ⟨w4.heap.size, 0, none⟩ = false := free_of_block hb0 0
    have hsW : w5.heap.size ≤ W.heap.size := hG.t.size
    have HO := Lib.hid (ho0.alloc (.cells #[.string x] 9))
    have HO0 := Lib.hid ho0
    have HB := Lib.hid hb0
    have HG := Lib.hid hG
    clear ho0 hb0 hG
    gi_wp2_with (gi_at_builtin; refine wpListIn_append_own _ rfl _ _ _ rfl w5.heap.size 9 i0 _ 1 16 (by kernel_rfl) HI.out HZ0.out HZ1.out HZ2.out rfl (by decide) v0 pre.length _ rfl HO.out ⟨W.heap.size, 0, none⟩ 1 1 [.string x] rfl rfl ?_ ?_ ?_ ?_ ?_ ?_)
    · intro j u hu
      rcases j with _ | j
      · simp at hu
        rw [← hu]
        simp only [Addr.add, if_true]
        rw [cell_of_block (get_new _ _)]
        rfl
      · simp at hu
    · intro u hu
      simp at hu
      rw [hu]; rfl
    · unfold maxLen; omega
    · omega
    · rw [size_alloc]; omega
    · intro v' w7 hown hg7 _
      obtain ⟨a7, c7, rfl⟩ := row_slice hown
      have hm := HG.out.more (by omega) (Nat.le_refl _) HB.out HO0.out hown hg7
      have hlt7 := hg7.size
      rw [size_alloc] at hlt7
      have hrow : some w4.heap.size ≠ v0.ownBlock := by
        rcases HO0.out.2 with ⟨rfl, _⟩ | ⟨g, cap, cur, rfl, hB, _⟩
        · exact fun e => by cases e
        · exact fun e => by
            have h : w4.heap.size = g := Option.some.inj e
            omega
      have hb7 : w7.heap[w4.heap.size]? = some (.cells #[v0] 30 (0, 0)) := by
        rw [hg7.block _ (by rw [size_alloc]; omega) hrow, get_alloc _ _ (lt_of_block HB.out)]
        exact HB.out
      have e7 : w7.cell? ⟨w4.heap.size, 0, none⟩ = some v0 := by rw [cell_of_block hb7]; rfl
      have f7 : w7.frozen? ⟨w4.heap.size, 0, none⟩ = false := free_of_block hb7 0
      have HM := Lib.hid hm
      clear hown hg7 hm hb7 e0 f0
      gi_wp2
      obtain ⟨m1, m2, m3, m4⟩ := HM.out
      exact ⟨⟨m4, m3⟩, fun k hk => m2 k (by omega) hk.2 (by omega), m1⟩
  case done =>
    intro D W hD hG hK
    obtain ⟨va, hca, hsa⟩ := hG.strs
    have hBW : w5.heap.size ≤ W.heap.size := hG.t.size
    have hf5 := H5.out.kept hG.t (fun k hk e => by omega) (fun e => by have h := Ml.lt HML.out; omega)
    obtain ⟨v', hb', -⟩ := hG.box
    have hvv : v' = va := by
      rw [cell_of_block hb'] at hca
      exact Option.some.inj hca
    rw [hvv] at hb'
    have hR : TRel w f m c w4.heap.size w5.heap.size W.heap.size D s0 va (rise (akeys s0.files)) W :=
      ⟨⟨s4, HST4.out, hf5⟩, hb', hsa.mono fun k hk h => ⟨h, hk⟩, hK, B05.out.trans (hG.t.below B05.out.size fun k hk e => by omega), Nat.le_refl _⟩
    have hri := rise_rising HWF.out.nodup
    have hme : ∀ x ∈ rise (akeys s0.files), x ∈ akeys s0.files := fun x hx => mem_rise.1 hx
    obtain ⟨L, hL⟩ : ∃ L, L = rise (akeys s0.files) := ⟨_, rfl⟩
    rw [← hL] at hR hri hme hlen hsa
    obtain ⟨aa, ca, rfl⟩ := hsa.slice
    have HR := Lib.hid hR
    have HRI := Lib.hid hri
    have HME := Lib.hid hme
    have hsz0 := B05.out.size
    clear hG hK hR hri hme hL hsa hb' hvv hf5 H05 HVZ HCB T5 H5 H4 HW4 HST4 T2 T4 B05 HI HZ0 HZ1 HZ2
    dsimp only [Exit.inBlock, Exit.then]
    gi_wp2
    clear hca
    gi_loopw [7, 40] (fun _ i wr => ∃ k : Nat, k ≤ L.length ∧ i = .int .i64 k ∧ TRel w f m c w4.heap.size w5.heap.size W.heap.size D s0 (.slice aa L.length ca) L wr) (fun _ i _ => L.length - (intOf i).toNat)
    case atStart => exact ⟨0, Nat.zero_le _, rfl, HR.out⟩
    case round =>
      obtain ⟨k, hk, rfl, hr⟩ := hrel
      clear HR
      by_cases hlt : k < L.length
      · obtain ⟨p, hp⟩ : ∃ p, p = L[k] := ⟨_, rfl⟩
        have hmem := HME.out p (by rw [hp]; exact List.getElem_mem _)
        have hgd := HWF.out.good p hmem
        have hpl := good_len hgd
        have hp1 := good_pos hgd
        have hform : ∃ b, aa = some ⟨b, 0, none⟩ ∧ ∀ (i : Nat) (x : ByteArray), L[i]? = some x → wr.cell? ⟨b, i, none⟩ = some (.string x) := by
          rcases hr.strs with ⟨e, e'⟩ | ⟨b, cap, cells, e, _, hb, hc⟩
          · rw [e'] at hlt; simp at hlt
          · cases e
            exact ⟨b, rfl, fun i x hx => by rw [cell_of_block hb]; exact hc i x hx⟩
        obtain ⟨b, rfl, hcell⟩ := hform
        have c0 : wr.cell? ⟨b, k, none⟩ = some (.string p) := hcell k p (by rw [hp]; exact List.getElem?_eq_getElem hlt)
        have hcA : wr.cell? ⟨w4.heap.size, 0, none⟩ = some (.slice (some ⟨b, 0, none⟩) L.length ca) := by rw [cell_of_block hr.box]; rfl
        have HMEM := Lib.hid hmem
        have HGD := Lib.hid hgd
        have HCE := Lib.hid hcell
        have HP := Lib.hid hp
        have HR := Lib.hid hr
        clear hmem hgd hcell hp hr
        by_cases hk0 : k = 0
        case' pos =>
          have hk00 : k ≤ 0 := by omega
          clear hk0
          gi_wp2
        case' neg =>
          have hk1 : 1 ≤ k := by omega
          obtain ⟨q, hq⟩ : ∃ q, q = L[k - 1]'(by omega) := ⟨_, rfl⟩
          have c1 : wr.cell? ⟨b, k - 1, none⟩ = some (.string q) := HCE.out (k - 1) q (by rw [hq]; exact List.getElem?_eq_getElem (by omega))
          have hless : Op.bytesLess q.toList p.toList = true := by rw [hq, HP.out]; exact HRI.out.at (by omega) hlt
          have HQ := Lib.hid hq
          clear hq
          gi_wp2
          clear c1 hless
        all_goals
          clear c0 hcA
          obtain ⟨wo, rfl⟩ : ∃ wo : World, wo = wr := ⟨_, rfl⟩
          gi_loopw [8, 9, 10, 11, 12, 13, 15, 16, 96] (fun at_ _ _ _ _ _ _ _ _ wr => ∃ j : Nat, 1 ≤ j ∧ j ≤ p.size ∧ at_ = .int .i64 j ∧ TRel w f m c w4.heap.size w5.heap.size W.heap.size D s0 (.slice (some ⟨b, 0, none⟩) L.length ca) L wr) (fun at_ _ _ _ _ _ _ _ _ _ => p.size - (intOf at_).toNat)
          case atStart => exact ⟨1, Nat.le_refl _, hp1, rfl, HR.out⟩
          case round =>
            obtain ⟨j, hj1, hjp, rfl, hr⟩ := hrel
            by_cases hlj : j < p.size
            · by_cases h47 : p[j] = 47
              · have hbj : byteAt p j = 47 := by rw [← byteAt_of hlj]; exact h47
                have hq := byte_eq h47
                obtain ⟨t, hst, hft⟩ := hr.st
                obtain ⟨hi1, hi2⟩ := hst.isDir HWF.out HTR.out HMEM.out hj1 hlj hbj
                have hli := hst.list HWF.out HTR.out HMEM.out hj1 hlj hbj
                have hon := name_once HWF.out HTR.out HMEM.out hj1 hlj hbj
                have hsd : (p.extract 0 j).size ≤ 140737488351232 := by rw [ByteArray.size_extract]; omega
                have hIs := is_at hft (p.extract 0 j) hsd
                rw [hi1, hi2] at hIs
                have hks : ∀ x ∈ akeys t.files, x.size ≤ 1024 := fun x hx => good_len (HWF.out.good x (by rw [← hst.files]; exact hx))
                have hmany : t.files.length ≤ 4096 := by rw [hst.files]; exact HWF.out.many
                obtain ⟨rs, hrs⟩ : ∃ rs, rs = p.extract (j + 1) p.size := ⟨_, rfl⟩
                have hsr : rs.size < 4294967281 := by rw [hrs, ByteArray.size_extract]; omega
                obtain ⟨nm0, tl, mo, hnm, hct⟩ : ∃ nm0 tl mo, (firstName rs = (if mo then nm0 ++ slash else nm0) ∧ nm0.size ≤ 1024) ∧ ∀ (W : World) (n : Int), W.cell? ⟨0, 0, none⟩ = some (.int .i64 n) → Calls Tryd.prog 17 #[.string rs, .string ⟨#[47]⟩] W fun e w' => e = .returned (.tuple #[.string nm0, .string tl, .bool mo]) ∧ ∃ k, w' = W.drewN k :=
                  ⟨_, _, _, ⟨rfl, by
                    have h := cut_len rs.data.toList
                    show ((Lib.cut rs.data.toList [47]).1.toArray).size ≤ 1024
                    have h2 : rs.data.toList.length = rs.size := by simp
                    rw [List.size_toArray]
                    rw [hrs, ByteArray.size_extract] at h2
                    rw [hrs] at h
                    rw [hrs]
                    omega⟩, fun W n hn => Tryd.strings_Cut rs ⟨#[47]⟩ n W hsr hn⟩
                obtain ⟨hnm, hn0⟩ := hnm
                rw [← hrs] at hon
                obtain ⟨ls, hls⟩ : ∃ ls, ls = listOf (akeys s0.files) (p.extract 0 j ++ slash) := ⟨_, rfl⟩
                have hll : ls.length ≤ 4096 := by
                  rw [hls]
                  have h1 := list_len (akeys s0.files) (p.extract 0 j ++ slash)
                  have h2 := HWF.out.many
                  have h3 : (akeys s0.files).length = s0.files.length := by simp [akeys]
                  omega
                rw [← hls] at hon hli
                rw [hrs] at hct
                obtain ⟨nm, hnn⟩ : ∃ nm, nm = firstName rs := ⟨_, rfl⟩
                rw [← hnn] at hon hnm
                have HLI := Lib.hid hli
                have HCT := Lib.hid hct
                have HON := Lib.hid hon
                have HIS := Lib.hid hIs
                have HKS := Lib.hid hks
                have HR2 := Lib.hid hr
                have HFT := Lib.hid hft
                have HSA := Lib.hid hst.after
                clear hli hct hon hIs hks hr hft hls hnn hi1 hi2 hst h47 hrs hbj
                have HNM := Lib.hid hnm
                clear hnm
                cases mo
                case' true =>
                  gi_wp2_with (first
                    | (refine ⟨trivial, ?_⟩; gi_at_call 15; refine (callsIn_wide.2 HIS.out).mono ?_; rintro e w6 ⟨rfl, t6⟩; have ht6 := HFT.out.below t6; have hR6 := Lib.hid (HR2.out.below t6); clear t6)
                    | (refine ⟨trivial, ?_⟩; gi_at_call 16; have hL := list_at ht6 (p.extract 0 j) HKS.out hmany; rw [HLI.out] at hL; refine (callsIn_wide.2 hL).mono ?_; rintro e w7 ⟨vl, rfl, hvl, h7, t7⟩; obtain ⟨al, cl, rfl⟩ := hvl.slice; obtain ⟨mm, hmm⟩ := h7.ml; have hR7 := Lib.hid (hR6.out.own3 (by omega) (by omega) (by omega) HSA.out h7 t7); have HVL := Lib.hid hvl; clear hL hvl h7 t7 ht6)
                    | (refine ⟨trivial, ?_⟩; gi_at_call 17; refine (callsIn_wide.2 (HCT.out _ mm hmm)).mono ?_; rintro e w8 ⟨rfl, nn, rfl⟩; clear hmm))
                  rw [show nm0 ++ (⟨#[47]⟩ : ByteArray) = nm from HNM.out.symm]
                case' false =>
                  gi_wp2_with (first
                    | (refine ⟨trivial, ?_⟩; gi_at_call 15; refine (callsIn_wide.2 HIS.out).mono ?_; rintro e w6 ⟨rfl, t6⟩; have ht6 := HFT.out.below t6; have hR6 := Lib.hid (HR2.out.below t6); clear t6)
                    | (refine ⟨trivial, ?_⟩; gi_at_call 16; have hL := list_at ht6 (p.extract 0 j) HKS.out hmany; rw [HLI.out] at hL; refine (callsIn_wide.2 hL).mono ?_; rintro e w7 ⟨vl, rfl, hvl, h7, t7⟩; obtain ⟨al, cl, rfl⟩ := hvl.slice; obtain ⟨mm, hmm⟩ := h7.ml; have hR7 := Lib.hid (hR6.out.own3 (by omega) (by omega) (by omega) HSA.out h7 t7); have HVL := Lib.hid hvl; clear hL hvl h7 t7 ht6)
                    | (refine ⟨trivial, ?_⟩; gi_at_call 17; refine (callsIn_wide.2 (HCT.out _ mm hmm)).mono ?_; rintro e w8 ⟨rfl, nn, rfl⟩; clear hmm))
                  rw [show nm0 = nm from HNM.out.symm]
                all_goals
                  have hR9 : TRel w f m c w4.heap.size w5.heap.size W.heap.size D s0 (.slice (some ⟨b, 0, none⟩) L.length ca) L (w7.drewN nn) := hR7.out.below ⟨rfl, rfl, rfl, Nat.le_refl _, fun _ _ => rfl⟩
                  have hV9 : Strs (From w6.heap.size) (w7.drewN nn) (.slice al ls.length cl) ls := HVL.out.below ⟨rfl, rfl, rfl, Nat.le_refl _, fun _ _ => rfl⟩
                  obtain ⟨w9, hw9⟩ : ∃ w9, w9 = w7.drewN nn := ⟨_, rfl⟩
                  rw [← hw9] at hR9 hV9 ⊢
                  have HR9 := Lib.hid hR9
                  have HV9 := Lib.hid hV9
                  clear hR9 hV9 hw9 hR7 HVL
                  gi_loopw [16, 18, 96] (fun a _ i wr => ∃ q : Nat, q ≤ ls.length ∧ i = .int .i64 q ∧ a = .int .i64 (cntB (ls.take q) nm : Nat) ∧ wr = w9) (fun _ _ i _ => ls.length - (intOf i).toNat)
                  case atStart => exact ⟨0, Nat.zero_le _, rfl, rfl, rfl⟩
                  case round =>
                    obtain ⟨q, hq, rfl, rfl, rfl⟩ := hrel
                    by_cases hlq : q < ls.length
                    · have hform : ∃ b', al = some ⟨b', 0, none⟩ ∧ ∀ (i : Nat) (x : ByteArray), ls[i]? = some x → wr.cell? ⟨b', i, none⟩ = some (.string x) := by
                        rcases HV9.out with ⟨e, e'⟩ | ⟨b', cap, cells, e, _, hb, hc⟩
                        · rw [e'] at hlq; simp at hlq
                        · cases e
                          exact ⟨b', rfl, fun i x hx => by rw [cell_of_block hb]; exact hc i x hx⟩
                      obtain ⟨b', rfl, hcl⟩ := hform
                      obtain ⟨y, hy⟩ : ∃ y, ls[q]? = some y := ⟨_, List.getElem?_eq_getElem hlq⟩
                      have cq := hcl q y hy
                      have hct := cnt_take (x := nm) hy
                      have hcb := cnt_le (ls.take q) nm
                      have hcb2 : (ls.take q).length ≤ 4096 := by rw [List.length_take]; omega
                      have HCT2 := Lib.hid hct
                      clear hcl hy hct
                      cases hyn : (y.toList == nm.toList) with
                      | true =>
                        gi_wp2
                        go_roundw
                        case rel => exact ⟨q + 1, by omega, by go_num, by rw [HCT2.out, hyn, if_pos rfl]; go_num, trivial⟩
                        case measure => simp [intOf]; omega
                      | false =>
                        gi_wp2
                        go_roundw
                        case rel => exact ⟨q + 1, by omega, by go_num, by rw [HCT2.out, hyn]; simp, trivial⟩
                        case measure => simp [intOf]; omega
                    · obtain rfl : q = ls.length := by omega
                      have hcl : cntB (ls.take ls.length) nm = 1 := by rw [List.take_length]; exact HON.out
                      rw [hcl]
                      clear hcl
                      gi_wp2
                      go_roundw
                      case rel => exact ⟨j + 1, by omega, by omega, by go_num, HR9.out⟩
                      case measure => simp [intOf]; omega
              · have hq := byte_ne h47
                have HR2 := Lib.hid hr
                clear hr h47
                gi_wp2
                go_roundw
                case rel => exact ⟨j + 1, by omega, by omega, by go_num, HR2.out⟩
                case measure => simp [intOf]; omega
            · obtain rfl : j = p.size := by omega
              have HR2 := Lib.hid hr
              clear hr
              gi_wp2
              go_roundw
              case rel => exact ⟨k + 1, by omega, by go_num, HR2.out⟩
              case measure => simp [intOf]; omega
      · obtain rfl : k = L.length := by omega
        have HR2 := Lib.hid hr
        clear hr
        gi_wp2
        exact leave_marks (base := w5.heap.size) [D] _ ⟨by simp, fun D' h => by
          rw [List.mem_singleton] at h
          subst h
          exact ⟨hD, HR2.out.mark⟩⟩ fun W' h1 h2 => ⟨.bool true, by simp [results, Tryd.f4, go_sem], rfl, HR2.out.bel.trans (h2.mono (by omega))⟩
end Go.Proofs.YthchfkjdbfhnhaaDoor
