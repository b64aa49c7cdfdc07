/- Rows where what is read is of bulk at most 1048576: what the listed variables give, a witness, what bulk bounds. -/
import Derived.Test.YtofkdmmoheffbaaGreatDoorRows
import Derived.Test.YtofkdmmoheffbaaGreatDoorTie
import Derived.Test.YtofkdmmoheffbaaGreatDoorCards
import Derived.Test.YtofkdmmoheffbaaGreatDoorHistV
import Derived.ProofKit
import Derived.HandedShaped
import Derived.Lay
import Derived.Shelf.Vars
import Derived.SevenTiedAt
import Derived.ChangeMaps5
import Derived.ChangeArms
import Derived.Lib.SmallJoins
import Derived.Deep.Slices
import Derived.Deep.DeepHandedRow
import Derived.OpenShut
import Derived.Stop.LaidErr
import Derived.JoinedCond
namespace Go.Proofs.YtofkdmmoheffbaaGreatDoor
open Go Go.RowKit Go.ChangeShapes Go.WideShapes Go.ChangeAt Go.ChangeMaps Go.Lany Go.Joins
set_option maxRecDepth 100000
theorem own : ownKnob Tryz.prog.godebug = none := by kernel_rfl
theorem laidOut : laidOutB Tryz.prog = true := by kernel_rfl
/-- What each row lists. -/
def laidHere : List (String × DataW Unit) := [("math/bits.deBruijn32tab", Rows.laid_math_bits_deBruijn32tab), ("math/bits.deBruijn64tab", Rows.laid_math_bits_deBruijn64tab), ("internal/strconv.uint64pow10", Rows.laid_internal_strconv_uint64pow10), ("unicode/utf8.acceptRanges", Rows.laid_unicode_utf8_acceptRanges), ("strconv.ErrRange", Rows.laid_strconv_ErrRange), ("strconv.ErrSyntax", Rows.laid_strconv_ErrSyntax), ("unicode/utf8.first", Rows.laid_unicode_utf8_first)]
theorem errStar : "*" ++ "errors.errorString" = "*errors.errorString" := by decide
theorem errRow (u : TypeId) (h : Tryz.prog.typeName? 3 u = some "*errors.errorString") : u = 205 :=
  typeName_ptr_named (nm := "errors.errorString") (by rw [errStar]; kernel_rfl) (by kernel_rfl) (by decide) u (by rw [errStar]; exact h)
theorem vars_of_laid {W : World} (h : laidMetH Tryz.prog laidHere W) : Vars W := by
  rw [MakeChecks.laidMetH_plain _ _ _ (by kernel_rfl)] at h
  have h3 := h.tail.tail
  have h6 := h3.tail.tail.tail
  refine ⟨?_, ?_⟩
  · obtain ⟨a, s, hv, -⟩ := laid_sentinel (n := "strconv.ErrSyntax") (g := 2) h6 (by kernel_rfl) (by kernel_rfl) Tryz.underlying116 errRow Tryz.underlying205 Tryz.underlying207 rfl rfl Tryz.underlying9 (by kernel_rfl) (by kernel_rfl)
    exact ⟨_, by simpa using World.var?_cell (by kernel_rfl) hv 0, .inr ⟨_, _, rfl⟩⟩
  · exact Lib.tabIs_of_head (g := 0) (by kernel_rfl) (show _ = some 157 by kernel_rfl) (show _ = some (TypeDesc.array 20 135) by kernel_rfl) (by kernel_rfl) (by kernel_rfl) (by kernel_rfl) h3
section
variable {H : Type} {enc : TypeId × Value → H}
theorem witness_row_shaped {C : Checked} {os : Os} {f : FuncId} {fn : Func} {s : OpenSpec} {conds : List PathCond} {apart : Bool} {laid : List (String × DataW Unit)} (modest : Bool) (w0 : World) (args : Array Value) (hos : w0.os = os)
    (hsh : (w0.forCall (fun _ _ => 0) ⟨#[], args, []⟩).Shaped C.prog)
    (hok : Input.okWideB C.prog (w0.forCall (fun _ _ => 0) ⟨#[], args, []⟩) f ⟨#[], args, []⟩ = true)
    (hrow : s.preRow enc C.prog fn conds apart laid (w0.forCall (fun _ _ => 0) ⟨#[], args, []⟩).memory args) :
    ∃ (w : World) (tape : Tape) (i : Input), w.os = os ∧ (w.forCall tape i).Shaped C.prog ∧ i.vars = [] ∧ Input.okWide C.prog (w.forCall tape i) .any w.heap.size f i ∧
      s.preRow enc C.prog fn conds apart laid (w.forCall tape i).memory i.args ∧ ({ modest := modest } : Assume).holds C.prog (lone (Frame.enter C.prog f i.args .normal) [] (w.forCall tape i)) :=
  ⟨w0, fun _ _ => 0, ⟨#[], args, []⟩, hos, hsh, (Input.okWide_of_okWideB (base := 0) hok).1, (Input.okWide_of_okWideB hok).2, hrow, by
    simp only [Assume.holds]
    exact ⟨by simp, by simp, fun _ => Modest.zero, by simp, by simp⟩⟩
end
/- bulk -/
theorem bulk_one {H : Type} (d : DataW H) : 1 ≤ Rows.uptoBulk d := by
  cases d with
  | lit l => cases l <;> simp [Rows.uptoBulk]
  | nil => simp [Rows.uptoBulk]
  | ptr d => simp [Rows.uptoBulk]
  | slice elems spare => simp [Rows.uptoBulk]
  | agg parts => simp [Rows.uptoBulk]
  | iface t d => simp [Rows.uptoBulk]
  | map entries => simp [Rows.uptoBulk]
  | held h => simp [Rows.uptoBulk]
theorem bulk_length {H : Type} (l : List (DataW H)) : l.length ≤ Rows.uptoBulkAll l := by
  induction l with
  | nil => simp [Rows.uptoBulkAll]
  | cons x r ih => have := bulk_one x; simp only [Rows.uptoBulkAll, List.length_cons]; omega
theorem bulk_part {H : Type} {d : DataW H} {l : List (DataW H)} (h : d ∈ l) : Rows.uptoBulk d ≤ Rows.uptoBulkAll l := by
  induction l with
  | nil => cases h
  | cons x r ih =>
    simp only [Rows.uptoBulkAll]
    rcases List.mem_cons.1 h with rfl | e
    · omega
    · have := ih e; omega
section
variable {H : Type} {enc : TypeId × Value → H} {w : World} {base : Nat} {spare : Nat → Bool} {held : Bool}
theorem field_of {fuel : Nat} {fs : Array Field} {cs : List Value} {xs : List (DataW H × List MemPlace)} (hxs : xs.length = fs.size)
    (hel : ∀ (i : Nat) (f : Field), fs[i]? = some f → DataW.trod enc Tryz.prog w base spare held fuel f.type ((cs.drop f.offset).take (Tryz.prog.cellsOf f.type)) = xs[i]?) (i : Nat) (f : Field) (hf : fs[i]? = some f) (v : Value) (hv : (cs.drop f.offset).take (Tryz.prog.cellsOf f.type) = [v]) :
    ∃ y, xs[i]? = some y ∧ DataW.trod enc Tryz.prog w base spare held fuel f.type [v] = some y := by
  have h := hel i f hf
  rw [hv] at h
  have hi : i < fs.size := (Array.getElem?_eq_some_iff.1 hf).1
  exact ⟨xs[i], List.getElem?_eq_getElem (by omega), by rw [h, List.getElem?_eq_getElem (by omega)]⟩
theorem lineCells : Tryz.prog.cellsOf 29 = 2 := by kernel_rfl
theorem oneInt64 : Tryz.prog.cellsOf 2 = 1 := by kernel_rfl
theorem oneString : Tryz.prog.cellsOf 9 = 1 := by kernel_rfl
/-- A line that came in. -/
theorem line_of_trod {fuel : Nat} {cs : List Value} {x : DataW H × List MemPlace} (h : DataW.trod enc Tryz.prog w base spare held fuel 29 cs = some x) :
    ∃ y : HL, cs = [.string y.1, .int .i64 y.2] ∧ y.1.size + 3 ≤ Rows.uptoBulk x.1 := by
  obtain ⟨xs, m, rfl, hx, hlen, hsz, hel⟩ := DataW.trod_struct Tryz.underlying29 h
  obtain ⟨v0, v1, rfl⟩ : ∃ a b, cs = [a, b] := by
    have := hlen.trans lineCells
    rcases cs with _ | ⟨a, _ | ⟨b, _ | ⟨c, l⟩⟩⟩ <;> simp at this
    exact ⟨a, b, rfl⟩
  have hxs : xs.length = 2 := hsz
  obtain ⟨y0, z0, h0⟩ := field_of hsz hel 0 _ rfl v0 (by simp [oneString])
  obtain ⟨y1, z1, h1⟩ := field_of hsz hel 1 _ rfl v1 (by simp [oneInt64])
  obtain ⟨s, e0, d0, -⟩ := DataW.trod_string Tryz.underlying9 h0
  obtain ⟨n, e1, d1, -⟩ := DataW.trod_int Tryz.underlying2 h1
  simp only [List.cons.injEq, and_true] at e0 e1
  subst e0 e1
  refine ⟨(s, n), rfl, ?_⟩
  obtain rfl : xs = [y0, y1] := by
    rcases xs with _ | ⟨a, _ | ⟨b, _ | ⟨c, l⟩⟩⟩ <;> simp at hxs
    simp at z0 z1
    rw [z0, z1]
  rw [hx]
  simp only [List.map_cons, List.map_nil, Rows.uptoBulk, Rows.uptoBulkAll]
  rw [d0, d1]
  simp [Rows.uptoBulk]
theorem bulk_lines {f : Nat → HL} {D : Nat → DataW H} : ∀ (r : List Nat), (∀ i ∈ r, (f i).1.size + 3 ≤ Rows.uptoBulk (D i)) → ((r.map f).map fun y : HL => y.1.size + 3).sum ≤ Rows.uptoBulkAll (r.map D)
  | [], _ => by simp [Rows.uptoBulkAll]
  | i :: r, h => by
    have h1 := h i (List.mem_cons_self ..)
    have h2 := bulk_lines r fun j hj => h j (List.mem_cons_of_mem _ hj)
    simp only [List.map_cons, List.sum_cons, Rows.uptoBulkAll]
    omega
theorem lines_of_trod {fuel : Nat} {v : Value} {x : DataW H × List MemPlace} (h : DataW.trod enc Tryz.prog w base spare held fuel 26 [v] = some x) :
    ∃ l : List HL, Lines (fun k => k < w.heap.size) w v l ∧ (l.map fun y => y.1.size + 3).sum ≤ Rows.uptoBulk x.1 := by
  rcases Go.Deep.open_slice Tryz.underlying26 h with ⟨hcs, hx⟩ | ⟨a, len, cap, m, n, D, Pl, hcs, _, hl, hm, hmm, hx, hi⟩
  · obtain rfl : v = .slice none 0 0 := by simpa using hcs
    exact ⟨[], .inl ⟨rfl, rfl⟩, Nat.zero_le _⟩
  · obtain rfl : v = .slice (some a) len cap := by simpa using hcs
    have hlm : len ≤ m := by rw [hmm]; split <;> omega
    have hall : ∀ i, ∃ o : HL, i < len → w.cell? (a.add (i * 2)) = some (.string o.1) ∧ w.cell? (a.add (i * 2 + 1)) = some (.int .i64 o.2) ∧ o.1.size + 3 ≤ Rows.uptoBulk (D i) := fun i => by
      by_cases hil : i < len
      · obtain ⟨cs', h1, h2⟩ := hi i (by omega)
        obtain ⟨o, rfl, hb⟩ := line_of_trod h2
        rw [lineCells] at h1
        obtain ⟨_, hcl, hat⟩ := World.cells?_some h1
        refine ⟨o, fun _ => ⟨?_, ?_, hb⟩⟩
        · have := hat 0 (by decide)
          rw [Go.Deep.add_add] at this
          simpa using this
        · have := hat 1 (by decide)
          rw [Go.Deep.add_add] at this
          simpa using this
      · exact ⟨(⟨#[]⟩, 0), fun h => absurd h hil⟩
    obtain ⟨g, hg⟩ := Classical.axiomOfChoice hall
    have hlen : ((List.range len).map g).length = len := by simp
    refine ⟨(List.range len).map g, .inr ⟨a.block, a.off, a.spot, cap, by rw [hlen]; omega, by rw [hlen], ?_⟩, ?_⟩
    · by_cases h0 : len = 0
      · left; subst h0; rfl
      · right
        have hc0 := (hg 0 (by omega)).1
        have hsp : a.spot = none := by
          obtain ⟨ab, ao, sp⟩ := a
          simpa [Addr.add] using World.cell?_spot hc0
        obtain ⟨ab, ao, sp⟩ := a
        simp only at hsp
        subst hsp
        refine ⟨rfl, World.block_lt_of_cell? _ _ hc0, ?_⟩
        have hex : ∃ cells e fr, w.heap[ab]? = some (.cells cells e fr) := by
          rw [Addr.add_lit] at hc0
          simp only [World.cell?] at hc0
          cases ho : w.heap[ab]? with
          | none => rw [ho] at hc0; cases hc0
          | some o =>
            rw [ho] at hc0
            cases o <;> first | exact ⟨_, _, _, rfl⟩ | cases hc0
        obtain ⟨cells, e, fr, hblk⟩ := hex
        refine ⟨cells, e, fr, hblk, fun i y hy => ?_⟩
        have hil : i < len := by have := (List.getElem?_eq_some_iff.1 hy).1; rwa [hlen] at this
        obtain rfl : y = g i := by
          rw [List.getElem?_map, List.getElem?_range hil] at hy
          simpa using hy.symm
        obtain ⟨h1, h2, -⟩ := hg i hil
        rw [Addr.add_lit, cell_of_block hblk] at h1 h2
        exact ⟨h1, by rw [← h2]; rfl⟩
    · rw [hx]
      simp only [Rows.uptoBulk]
      have := bulk_lines (f := g) (D := D) (List.range len) fun i hi => (hg i (List.mem_range.1 hi)).2.2
      omega
theorem bytes_of_trod {fuel : Nat} {v : Value} {x : DataW H × List MemPlace} (h : DataW.trod enc Tryz.prog w base spare held fuel 37 [v] = some x) :
    ∃ s, Bytes (fun k => k < w.heap.size) w v s ∧ s.size ≤ Rows.uptoBulk x.1 := by
  rcases open_ints Tryz.underlying37 Tryz.underlying5 (by kernel_rfl) h with ⟨hcs, hx⟩ | ⟨a, len, cap, zs, hcs, _, hl, hm, hz, hx, hcell, hwz⟩
  · obtain rfl : v = .slice none 0 0 := by simpa using hcs
    exact ⟨ByteArray.empty, .inl ⟨rfl, rfl⟩, Nat.zero_le _⟩
  · obtain rfl : v = .slice (some a) len cap := by simpa using hcs
    have hzl : len ≤ zs.length := by rw [hz]; split <;> omega
    obtain ⟨bs, hbs, hbd⟩ : ∃ bs : ByteArray, bs.size = len ∧ ∀ i (h : i < bs.size), (bs[i].toNat : Int) = zs.getD i 0 := by
      refine ⟨⟨((zs.take len).map fun n => UInt8.ofNat n.toNat).toArray⟩, by show (List.toArray _).size = len; simp; omega, fun i hi => ?_⟩
      have hi' : i < len := by have : i < (List.toArray ((zs.take len).map fun n => UInt8.ofNat n.toNat)).size := hi; simp at this; omega
      have hb := range_u8 hwz i
      have e : zs[i]?.getD 0 = zs[i]'(by omega) := by simp [List.getElem?_eq_getElem (show i < zs.length by omega)]
      show (((List.toArray ((zs.take len).map fun n => UInt8.ofNat n.toNat))[i]'hi).toNat : Int) = _
      rw [List.getD_eq_getElem?_getD]
      rw [e] at hb ⊢
      simp only [List.getElem_toArray, List.getElem_map, List.getElem_take, UInt8.toNat_ofNat']
      omega
    refine ⟨bs, .inr ⟨a.block, a.off, a.spot, cap, by omega, by rw [hbs], ?_⟩, ?_⟩
    · by_cases h0 : bs.size = 0
      · exact .inl h0
      · have hc0 := hcell 0 (by omega)
        have hsp : a.spot = none := by
          obtain ⟨ab, ao, sp⟩ := a
          simpa [Addr.add] using World.cell?_spot hc0
        obtain ⟨ab, ao, sp⟩ := a
        simp only at hsp
        subst hsp
        refine .inr ⟨rfl, World.block_lt_of_cell? _ _ hc0, ?_⟩
        have hex : ∃ cells e fr, w.heap[ab]? = some (.cells cells e fr) := by
          simp only [Addr.add, if_true, World.cell?] at hc0
          cases ho : w.heap[ab]? with
          | none => rw [ho] at hc0; cases hc0
          | some o =>
            rw [ho] at hc0
            cases o <;> first | exact ⟨_, _, _, rfl⟩ | cases hc0
        obtain ⟨cells, e, fr, hblk⟩ := hex
        refine ⟨cells, e, fr, hblk, fun i hi => ?_⟩
        have hc := hcell i (by omega)
        rw [Addr.add_lit, cell_of_block hblk] at hc
        rw [hc, hbd i hi]
    · rw [hbs, hx]
      simp only [Rows.uptoBulk]
      have := bulk_length (lits (H := H) .u8 (zs.take len))
      simp only [lits, List.length_map, List.length_take] at this
      unfold lits
      omega
/-- What the bulk bounds: lines. -/
theorem bulk_bounds {l : List HL} {B : Nat} (h : (l.map fun y => y.1.size + 3).sum ≤ B) (hB : B ≤ 1048576) : l.length ≤ 1048576 ∧ (∀ x ∈ l, x.1.size ≤ 1048576) ∧ wt l ≤ 1099511627776 := by
  have h1 : ∀ l : List HL, l.length ≤ (l.map fun y => y.1.size + 3).sum ∧ (∀ x ∈ l, x.1.size ≤ (l.map fun y => y.1.size + 3).sum) ∧ wt l ≤ 8 * (l.map fun y => y.1.size + 3).sum := by
    intro l
    induction l with
    | nil => exact ⟨Nat.le_refl _, (fun x hx => by cases hx), by simp [wt]⟩
    | cons x l ih =>
      obtain ⟨i1, i2, i3⟩ := ih
      simp only [List.map_cons, List.sum_cons, List.length_cons, wt_cons]
      refine ⟨by omega, fun y hy => ?_, by omega⟩
      rcases List.mem_cons.1 hy with rfl | hy
      · omega
      · have := i2 y hy; omega
  obtain ⟨a, b, c⟩ := h1 l
  exact ⟨by omega, fun x hx => by have := b x hx; omega, by omega⟩
end
end Go.Proofs.YtofkdmmoheffbaaGreatDoor
