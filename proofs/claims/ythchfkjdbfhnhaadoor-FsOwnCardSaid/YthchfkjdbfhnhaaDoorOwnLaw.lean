/- What is handed in is not kept, and what is answered is nobody's else: the law. -/
import Derived.Test.YthchfkjdbfhnhaaDoorScript
import Derived.Test.YthchfkjdbfhnhaaDoorClone
namespace Go.Proofs.YthchfkjdbfhnhaaDoor
open Go Go.RowKit Go.Lany
set_option maxRecDepth 100000
def pOwn : ByteArray := ⟨#[47, 111, 119, 110]⟩
def sOwn (n : Int) (b : ByteArray) : FsSt := { FsSt.zero with files := [(pOwn, b)], calls := n }
theorem own_good : goodB pOwn = true := by kernel_rfl
theorem own_looks (n : Int) (b : ByteArray) : looksE (sOwn n b) [pOwn] = 0 := by
  unfold looksE
  rw [if_neg (by simp [sOwn, FsSt.zero]), if_pos (by simp [own_good])]
theorem own_write {b : ByteArray} (hb : b.size ≤ 1048576) : FsSt.zero.write pOwn ByteArray.empty b = (0, sOwn 1 b) := by
  have h1 : looksE FsSt.zero [pOwn] = 0 := by
    unfold looksE
    rw [if_neg (by simp [FsSt.zero]), if_pos (by simp [own_good])]
  have h2 : FsSt.zero.call = ((0, 0, 0), { FsSt.zero with calls := 1 }) := by kernel_rfl
  have h3 : freeE { FsSt.zero with calls := 1 } pOwn ⟨#[]⟩ = 0 := by kernel_rfl
  have h4 : ({ FsSt.zero with calls := 1 } : FsSt).writeE pOwn ByteArray.empty b = 0 := by
    unfold FsSt.writeE
    rw [if_neg, h3]
    unfold FsSt.longB
    rw [h3]
    have e1 : decide (1048576 < ((ByteArray.empty.size : Nat) : Int) + (b.size : Int)) = false := decide_eq_false (by
      have : ByteArray.empty.size = 0 := rfl
      omega)
    rw [e1]
    simp [FsSt.zero]
  unfold FsSt.write
  rw [if_pos h1, h2]
  show (if (0 : Int) = 1 then _ else if (0 : Int) = 0 then _ else _) = _
  rw [if_neg (by decide), if_pos rfl, if_pos h4]
  have e2 : ByteArray.empty ++ b = b := ByteArray.empty_append
  rw [e2]
  rfl
theorem own_dir (n : Int) (b : ByteArray) : dirB (akeys (sOwn n b).files) pOwn ⟨#[]⟩ = false := by
  show dirB [pOwn] pOwn ⟨#[]⟩ = false
  kernel_rfl
theorem own_read (n n' : Int) (b : ByteArray) (hn : wrap64 (n + 1) = n') : (sOwn n b).read pOwn = (b, 0, sOwn n' b) := by
  have h2 : (sOwn n b).call = ((0, 0, 0), sOwn n' b) := by
    unfold FsSt.call
    rw [if_pos (show (sOwn n b).left = 0 from rfl)]
    show ((0, 0, 0), sOwn (wrap64 (n + 1)) b) = _
    rw [hn]
  have h3 : (sOwn n b).after = sOwn n' b := by
    unfold FsSt.after
    rw [h2]
    rfl
  unfold FsSt.read
  rw [if_pos (own_looks n b), h2, if_pos (by rfl), h3]
  have h4 : thereE (sOwn n' b) pOwn = 0 := by
    unfold thereE
    rw [own_dir, if_neg (by simp), if_pos]
    simp [isFile, sOwn, aget]
  rw [if_pos h4]
  simp [sOwn, aget]
theorem own_sorted (n : Int) (b : ByteArray) : (sOwn n b).sorted = sOwn n b := by
  have h : rise (akeys (sOwn n b).files) = [pOwn] := by
    show rise [pOwn] = [pOwn]
    simp [rise, ofL]
  unfold FsSt.sorted
  rw [h]
  simp [copyB, aput, dataOf, sOwn, aget]
theorem own_wf {n : Int} {b : ByteArray} (hb : b.size ≤ 1048576) : (sOwn n b).Wf := by
  refine ⟨fun k hk => ?_, by simp [sOwn], fun k x hx => ?_, by simp [sOwn, FsSt.zero], by simp [sOwn, akeys]⟩
  · have : k = pOwn := by simpa [sOwn, akeys] using hk
    rw [this]; exact own_good
  · simp only [sOwn, aget] at hx
    split at hx
    · cases hx; exact hb
    · cases hx
/-- With no file yet, its own blocks are all. -/
theorem FsAt.narrow {w : World} {f m c : Nat} {F : Nat → Prop} {s : FsSt} (h : FsAt w f m c F s) (hf : s.files = []) : FsAt w f m c (Own3 f m c) s := by
  obtain ⟨vs, hm, hb⟩ := h.map
  refine ⟨h.obj, h.cnt, ⟨vs, hm, ?_⟩, ⟨.inl rfl, .inr (.inl rfl), .inr (.inr rfl)⟩, h.far3, h.ml⟩
  rw [hf] at hb ⊢
  cases hb
  exact .nil
/-- A row of bytes that the function writes itself. -/
structure XRow (w0 : World) (a : Option Addr) (n : Nat) (wr : World) : Prop where
  t : Turns (fun j => ∃ p, a = some p ∧ p.block = j) w0 wr
  row : n = 0 ∨ ∃ g cur, a = some ⟨g, 0, none⟩ ∧ wr.heap[g]? = some (.cells cur 5 (0, 0)) ∧ ∀ i, i < n → ∃ y : Int, cur[i]? = some (.int .u8 y)
theorem XRow.at {w0 wr : World} {a : Option Addr} {n k : Nat} (h : XRow w0 a n wr) (hk : k < n) : ∃ g y, a = some ⟨g, 0, none⟩ ∧ wr.cell? ⟨g, k, none⟩ = some (.int .u8 y) ∧ wr.frozen? ⟨g, k, none⟩ = false := by
  rcases h.row with h | ⟨g, cur, e, hb, hc⟩
  · omega
  · obtain ⟨y, hy⟩ := hc k hk
    exact ⟨g, y, e, by rw [cell_of_block hb]; exact hy, free_of_block hb k⟩
theorem XRow.put {w0 wr : World} {g n k : Nat} {y : Int} (h : XRow w0 (some ⟨g, 0, none⟩) n wr) : XRow w0 (some ⟨g, 0, none⟩) n (wr.setCell ⟨g, k, none⟩ (.int .u8 y)) := by
  refine ⟨Turns.setCell (p := ⟨g, k, none⟩) h.t (.inl ⟨⟨g, 0, none⟩, rfl, rfl⟩) _, ?_⟩
  rcases h.row with h | ⟨g', cur, e, hb, hc⟩
  · exact .inl h
  · cases e
    refine .inr ⟨g, cur.setIfInBounds k (.int .u8 y), rfl, set_block hb k _, fun i hi => ?_⟩
    obtain ⟨z, hz⟩ := hc i hi
    rw [Array.getElem?_setIfInBounds]
    by_cases e : k = i
    · subst e
      have := (Array.getElem?_eq_some_iff.1 hz).1
      rw [if_pos rfl, if_pos this]
      exact ⟨y, rfl⟩
    · rw [if_neg e]; exact ⟨z, hz⟩
theorem XRow.of_row {w : World} {base : Nat} {v : Value} {bs : ByteArray} (h : w.ownsRow base 5 1 v bs.size (byteCells bs)) : ∃ a cap, v = .slice a bs.size cap ∧ XRow w a bs.size w ∧ ∀ p, a = some p → base ≤ p.block ∧ p.block < w.heap.size := by
  rcases h.2 with ⟨rfl, h0⟩ | ⟨g, cap, cur, rfl, hg, hb, hc, -, hl, ht⟩
  · exact ⟨none, 0, by rw [h0], ⟨Turns.refl _ _, .inl h0⟩, fun p e => by cases e⟩
  · refine ⟨_, cap, rfl, ⟨Turns.refl _ _, .inr ⟨g, cur, rfl, hb, fun i hi => ?_⟩⟩, fun p e => by cases e; exact ⟨hg, lt_of_block hb⟩⟩
    have := bc_get hi
    rw [← ht, List.getElem?_take, if_pos (by omega)] at this
    exact ⟨_, by simpa using this⟩
theorem XRow.restart {w0 wr w1 : World} {a : Option Addr} {n : Nat} {S : Nat → Prop} (h : XRow w0 a n wr) (t : Turns S wr w1) (hs : ∀ p, a = some p → ¬ S p.block) : XRow w1 a n w1 := by
  refine ⟨Turns.refl _ _, h.row.imp id ?_⟩
  rintro ⟨g, cur, e, hb, hc⟩
  exact ⟨g, cur, e, (t.block g (lt_of_block hb) (hs _ e)).trans hb, hc⟩
set_option maxHeartbeats 8000000 in
theorem fsOwn_any {w : World} (hml : Ml w) {vb v : Value} {b : ByteArray} {l : List OpV} (hb : Bytes (fun k => k < w.heap.size) w vb b) (hbs : b.size ≤ 140737488351232) (hS : Script w.heap.size w v l) (hl : l.length ≤ 140737488351232) :
    Calls Tryd.prog 6 #[vb, v] w (BoolPost true w) := by
  obtain ⟨ab, capb, rfl⟩ := hb.len
  obtain ⟨sa, caps, rfl⟩ := hS.form
  have hg := hml.lt
  by_cases hbig : 1048576 < (b.size : Int)
  · have HB := Lib.hid hb
    have HS := Lib.hid hS
    clear hb hS
    go_enter Tryd.func6, Tryd.ntmps6
    go_wp2_with (first
      | (go_at_call 21; refine (new_at hml).mono ?_; rintro e w1 ⟨f, m, c, rfl, h1, t1⟩; have hm1 := h1.ml; clear h1)
      | (go_at_call 8; refine (begun_any hm1).mono ?_; rintro e w2 ⟨rfl, t2⟩; replace hm1 := hm1.below t2; replace t1 := t1.trans (t2.mono t1.size); clear t2))
    go_ret
    exact ⟨rfl, t1⟩
  · have HB := Lib.hid hb
    have HS := Lib.hid hS
    clear hb hS
    go_enter Tryd.func6, Tryd.ntmps6
    go_wp2_with (first
      | (go_at_call 21; refine (new_at hml).mono ?_; rintro e w1 ⟨f, m, c, rfl, h1, t1⟩)
      | (go_at_call 8; refine (begun_any h1.ml).mono ?_; rintro e w2 ⟨rfl, t2⟩; have hfw : w.heap.size ≤ f ∧ w.heap.size ≤ m ∧ w.heap.size ≤ c := h1.inF; have h2 := (h1.below t2).narrow rfl; have T1 := Lib.hid t1; have T2 := Lib.hid t2; have H2 := Lib.hid h2; have HB2 := Lib.hid ((HB.out.below t1).below t2); clear h1 h2 t1 t2)
      | (at_builtin; refine wpList_append_bytes rfl _ _ rfl w2.heap.size _ _ 0 ByteArray.empty b _ rfl rfl (World.ownsRow_nil _ _ _ _) HB2.out (by omega) (Nat.le_refl _) ?_; intro v3 w3 hown3 hg3))
    have hg3' : w2.grownBy w3 none := hg3
    rw [ByteArray.empty_append, Nat.zero_add] at hown3
    obtain ⟨a3, c3, rfl, hx3, ha3⟩ := XRow.of_row hown3
    have hb3 := bytes_of_row hown3
    have b23 : Below w2.heap.size w2 w3 := (Below.refl _ _).grown hg3' (Nat.le_refl _) (fun k e => by cases e)
    have b03 : Below w.heap.size w w3 := (T1.out.trans (T2.out.mono T1.out.size)).trans (b23.mono (Nat.le_trans T1.out.size T2.out.size))
    have h3 := H2.out.below b23
    have hlt2 := H2.out.lt
    have hle2 := b23.size
    have hW := Write_at h3 pOwn _ b hb3 (by omega) (by decide)
    rw [own_write (by omega)] at hW
    have HX3 := Lib.hid hx3
    have HA3 := Lib.hid ha3
    have B03 := Lib.hid b03
    clear hg3 hg3' hown3 hx3 ha3 hb3 b23 b03 h3
    refine hW.mono ?_
    rintro e w4 ⟨rfl, h4, t4⟩
    have hx4 := HX3.out.restart t4 fun p hp ho => by
      have := (HA3.out p hp).1
      unfold Own3 at ho
      omega
    have H4 := Lib.hid h4
    have T4 := Lib.hid t4
    clear hW h4 t4
    go_wp2
    go_loopw [37] (fun i wr => ∃ k : Nat, k ≤ b.size ∧ i = .int .i64 k ∧ XRow w4 a3 b.size wr) (fun i _ => b.size - (intOf i).toNat)
    case atStart => exact ⟨0, Nat.zero_le _, rfl, hx4⟩
    case round =>
      obtain ⟨k, hk, rfl, hx⟩ := hrel
      clear hx4
      by_cases hlt : k < b.size
      · obtain ⟨g, y, rfl, hy, hfr⟩ := hx.at hlt
        have HX := Lib.hid hx
        clear hx
        go_wp2
        go_roundw
        case rel => exact ⟨k + 1, by omega, by go_num, HX.out.put⟩
        case measure => simp [intOf]; omega
      · obtain rfl : k = b.size := by omega
        obtain ⟨w5, rfl⟩ : ∃ w5 : World, w5 = wr := ⟨_, rfl⟩
        have h5 : FsAt w5 f m c (fun i => Grow (Own3 f m c) w3.heap.size i ∧ i < w5.heap.size) (sOwn 1 b) := by
          have h := H4.out.kept hx.t (fun i hi ho => by
            obtain ⟨p, hp, e⟩ := ho
            have h1 := HA3.out p hp
            unfold Grow Own3 at hi
            omega) (fun ho => by
            obtain ⟨p, hp, e⟩ := ho
            have h1 := HA3.out p hp
            omega)
          exact h.mono (fun i h1 h2 => ⟨h2, h1⟩) fun h2 => h.far h2.1
        have hs3 : ∀ i, i < w.heap.size → ¬ Own3 f m c i := fun i hi ho => by
          unfold Own3 at ho
          omega
        have hs12 : w.heap.size ≤ w2.heap.size := by have := B03.out.size; have := T1.out.size; have := T2.out.size; omega
        have b04 : Below w.heap.size w w4 := B03.out.trans (T4.out.below B03.out.size hs3)
        have b05 : Below w.heap.size w w5 := b04.trans (hx.t.below b04.size fun i hi ho => by
          obtain ⟨p, hp, e⟩ := ho
          have h1 := HA3.out p hp
          omega)
        have B05 := Lib.hid b05
        have HS3 := Lib.hid hs3
        clear b04 b05 hs3
        have hR := read_row h5 pOwn (fun x hx => by
          have : x = b := by
            simp only [sOwn, aget, if_pos] at hx
            exact (Option.some.inj hx).symm
          rw [this]; omega)
        rw [own_read 1 2 b (by kernel_rfl)] at hR
        clear hx h5
        go_wp2_with (go_at_call 23; refine hR.mono ?_; rintro e w6 ⟨v6, rfl, hv6, h6, t6⟩; obtain ⟨a6, c6, rfl, hx6, ha6⟩ := XRow.of_row hv6; have H6 := Lib.hid h6; have T6 := Lib.hid t6; have HA6 := Lib.hid ha6; clear hv6 h6 t6 ha6)
        clear hR
        go_loopw [54] (fun i wq => ∃ k : Nat, k ≤ b.size ∧ i = .int .i64 k ∧ XRow w6 a6 b.size wq) (fun i _ => b.size - (intOf i).toNat)
        case atStart => exact ⟨0, Nat.zero_le _, rfl, hx6⟩
        case round =>
          obtain ⟨k, hk, rfl, hx⟩ := hrel
          clear hx6
          by_cases hlt : k < b.size
          · obtain ⟨g, y, rfl, hy, hfr⟩ := hx.at hlt
            have HX := Lib.hid hx
            clear hx
            go_wp2
            go_roundw
            case rel => exact ⟨k + 1, by omega, by go_num, HX.out.put⟩
            case measure => simp [intOf]; omega
          · obtain rfl : k = b.size := by omega
            have hs05 := B05.out.size
            have b06 : Below w.heap.size w w6 := B05.out.trans (T6.out.below B05.out.size HS3.out)
            have h7 := H6.out.kept hx.t (fun i hi ho => by
              obtain ⟨p, hp, e⟩ := ho
              have h1 := HA6.out p hp
              omega) (fun ho => by
              obtain ⟨p, hp, e⟩ := ho
              have h1 := HA6.out p hp
              omega)
            have b07 : Below w.heap.size w wr := b06.trans (hx.t.below b06.size fun i hi ho => by
              obtain ⟨p, hp, e⟩ := ho
              have h1 := HA6.out p hp
              omega)
            have hC := clone_at h7 (own_wf (n := 2) (by omega))
            have H7 := Lib.hid h7
            have B07 := Lib.hid b07
            clear hx h7 b07 b06
            go_wp2_with (go_at_call 24; refine hC.mono ?_; rintro e w8 ⟨f', m', c', rfl, h8, t8⟩; rw [own_sorted] at h8)
            obtain ⟨w7, rfl⟩ : ∃ w7 : World, w7 = wr := ⟨_, rfl⟩
            have b08 := B07.out.trans (t8.mono B07.out.size)
            have hR : RunRel w.heap.size (.slice sa l.length caps) l w f m c (sOwn 2 b) 0 w8 := by
              refine ⟨?_, ?_, b08⟩
              · exact HS.out.kept (S := fun _ => False) ⟨b08.os, b08.tape, b08.output, b08.size, fun i hi _ => b08.block i hi⟩ fun _ _ => id
              · exact (H7.out.below t8).mono (fun i _ hi => by
                  unfold Grow Own3 at hi
                  unfold From
                  omega) (From.far hg)
            have hsz7 := B07.out.size
            have hlt7 := H7.out.lt
            have H8 := Lib.hid h8
            clear hC h8 t8 b08
            go_wp2
            go_loopw [13, 68] (fun _ i wr => ∃ k : Nat, k ≤ l.length ∧ i = .int .i64 k ∧ RunRel w.heap.size (.slice sa l.length caps) l w f m c (sOwn 2 b) k wr ∧ FsAt wr f' m' c' (From w7.heap.size) (sOwn 2 b)) (fun _ i _ => l.length - (intOf i).toNat)
            case atStart => exact ⟨0, Nat.zero_le _, rfl, hR, H8.out⟩
            case round =>
              obtain ⟨k, hk, rfl, hrl, hcl⟩ := hrel
              clear hR
              by_cases hlt : k < l.length
              · obtain ⟨bb, off, rfl, -, hc⟩ := hrl.1.op hlt
                have hwf := (own_wf (n := 2) (b := b) (by omega)).runV (l.take k)
                obtain ⟨o, ho⟩ : ∃ o, o = l[k] := ⟨_, rfl⟩
                obtain ⟨hbb, hbs⟩ := hrl.1.2 o (by rw [ho]; exact List.getElem_mem _)
                rw [← ho] at hc
                have c0 : wr.cell? ⟨bb, off + k * 7, none⟩ = some (.int .i64 o.d) := hc 0 _ rfl
                have c1 := hc 1 _ rfl
                have c2 := hc 2 _ rfl
                have c3 := hc 3 _ rfl
                have c4 := hc 4 _ rfl
                have c5 := hc 5 _ rfl
                have c6 := hc 6 _ rfl
                have HO := Lib.hid ho
                have HR := Lib.hid hrl
                have HBB := Lib.hid hbb
                have HC := Lib.hid hcl
                clear ho hc hrl hbb hcl
                go_wp2_with (go_at_call 19; refine (one_at (HR.out.2.1.below ((Below.refl _ _).alloc (Nat.le_refl _) _)) hwf o.d o.k o.kind o.keep o.path o.dest o.b _ (HBB.out.below ((Below.refl _ _).alloc (Nat.le_refl _) _)) (by omega)).mono ?_; rintro e w2 ⟨rfl, h2, t2⟩)
                have hn := HR.out.next (Nat.le_refl _) hg ((Below.refl _ _).alloc (Nat.le_refl _) _) hlt (by rw [← HO.out]; exact h2) t2
                have hc2 := (HC.out.below ((Below.refl _ _).alloc (Nat.le_refl _) _)).kept t2 (fun i hi ho => by
                  unfold From at hi
                  unfold Own3 at ho
                  omega) (fun ho => HS3.out _ hg ho)
                clear h2 t2
                go_roundw
                case rel => exact ⟨k + 1, by omega, by go_num, hn, hc2⟩
                case measure => simp [intOf]; omega
              · obtain rfl : k = l.length := by omega
                have hr9 := read_row hcl pOwn (fun x hx => by
                  have : x = b := by
                    simp only [sOwn, aget, if_pos] at hx
                    exact (Option.some.inj hx).symm
                  rw [this]; omega)
                rw [own_read 2 3 b (by kernel_rfl)] at hr9
                have hin : w7.heap.size ≤ f' ∧ w7.heap.size ≤ m' ∧ w7.heap.size ≤ c' := hcl.inF
                have hb9 := hrl.2.2
                have hsz9 := hb9.size
                have HB9 := Lib.hid hb9
                clear hrl hcl hb9
                go_wp2_with (go_at_call 23; refine hr9.mono ?_; rintro e w10 ⟨v10, rfl, hv10, h10, t10⟩; have hcy := str_of_bytes (bytes_of_row hv10); have b10 := HB9.out.trans (t10.below hsz9 fun i hi ho => by (unfold Own3 at ho; omega)); have hcb := str_of_bytes (HB.out.kept (S := fun _ => False) ⟨b10.os, b10.tape, b10.output, b10.size, fun i hi _ => b10.block i hi⟩ fun _ _ => id); have B10 := Lib.hid b10; clear hv10 h10 t10 b10)
                go_ret
                exact ⟨rfl, B10.out⟩
end Go.Proofs.YthchfkjdbfhnhaaDoor
