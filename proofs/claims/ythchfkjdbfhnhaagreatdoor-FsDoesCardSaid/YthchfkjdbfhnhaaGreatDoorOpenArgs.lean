/- Arguments that came in: slices of bytes, scripts. -/
import Derived.Test.YthchfkjdbfhnhaaGreatDoorOpShape
import Derived.Test.YthchfkjdbfhnhaaGreatDoorOps
import Derived.Deep.Slices
import Derived.OpenShut
namespace Go.Proofs.YthchfkjdbfhnhaaGreatDoor
open Go Go.RowKit Go.ChangeShapes Go.WideShapes Go.ChangeAt Go.Lany
set_option maxRecDepth 100000
section
variable {H : Type} {enc : TypeId × Value → H} {w : World} {base : Nat} {spare : Nat → Bool} {held : Bool}
/-- What a datum weighs is in the reach. -/
def Light (t : TypeId) (d : DataW H) : Prop := ∀ m ∈ d.weights Tryz.prog t, m ≤ reachBytes
theorem bytes_of_trod {fuel : Nat} {v : Value} {x : DataW H × List MemPlace} (h : DataW.trod enc Tryz.prog w base spare held fuel 30 [v] = some x) :
    ∃ bs, Bytes (fun k => k < w.heap.size) w v bs ∧ (Light 30 x.1 → bs.size ≤ reachBytes) := by
  rcases open_ints Tryz.underlying30 Tryz.underlying5 (by kernel_rfl) h with ⟨hcs, hx⟩ | ⟨a, len, cap, zs, hcs, _, hl, hm, hz, hx, hcell, hwz⟩
  · obtain rfl : v = .slice none 0 0 := by simpa using hcs
    exact ⟨ByteArray.empty, .inl ⟨rfl, rfl⟩, fun _ => Nat.zero_le _⟩
  · obtain rfl : v = .slice (some a) len cap := by simpa using hcs
    have hzl : len ≤ zs.length := by rw [hz]; split <;> omega
    obtain ⟨bs, hbs, hbd⟩ : ∃ bs : ByteArray, bs.size = len ∧ ∀ i (h : i < bs.size), (bs[i].toNat : Int) = zs.getD i 0 := by
      refine ⟨⟨((zs.take len).map fun n => UInt8.ofNat n.toNat).toArray⟩, by show (List.toArray _).size = len; simp; omega, fun i hi => ?_⟩
      have hi' : i < len := by have : i < (List.toArray ((zs.take len).map fun n => UInt8.ofNat n.toNat)).size := hi; simp at this; omega
      have hb := range_u8 hwz i
      have e : zs[i]?.getD 0 = zs[i]'(by omega) := by simp [List.getElem?_eq_getElem (show i < zs.length by omega)]
      show (((List.toArray ((zs.take len).map fun n => UInt8.ofNat n.toNat))[i]'hi).toNat : Int) = _
      rw [List.getD_eq_getElem?_getD]
      rw [e] at hb ⊢
      simp only [List.getElem_toArray, List.getElem_map, List.getElem_take, UInt8.toNat_ofNat']
      omega
    refine ⟨bs, .inr ⟨a.block, a.off, a.spot, cap, by omega, by rw [hbs], ?_⟩, fun hL => ?_⟩
    · by_cases h0 : bs.size = 0
      · exact .inl h0
      · have hc0 := hcell 0 (by omega)
        have hsp : a.spot = none := by
          obtain ⟨ab, ao, sp⟩ := a
          simpa [Addr.add] using World.cell?_spot hc0
        obtain ⟨ab, ao, sp⟩ := a
        simp only at hsp
        subst hsp
        refine .inr ⟨rfl, World.block_lt_of_cell? _ _ hc0, ?_⟩
        have hex : ∃ cells e fr, w.heap[ab]? = some (.cells cells e fr) := by
          simp only [Addr.add, if_true, World.cell?] at hc0
          cases ho : w.heap[ab]? with
          | none => rw [ho] at hc0; cases hc0
          | some o =>
            rw [ho] at hc0
            cases o <;> first | exact ⟨_, _, _, rfl⟩ | cases hc0
        obtain ⟨cells, e, fr, hblk⟩ := hex
        refine ⟨cells, e, fr, hblk, fun i hi => ?_⟩
        have hc := hcell i (by omega)
        rw [Addr.add_lit, cell_of_block hblk] at hc
        rw [hc, hbd i hi]
    · rw [hbs]
      have hu : Tryz.prog.underlying 30 = some (.slice 5) := Tryz.underlying30
      have hb1 : Tryz.prog.bytesOf 5 = 1 := by kernel_rfl
      have := hL ((zs.take len).length + (zs.drop len).length) (by
        rw [hx]
        simp only [DataW.weights, hu, hb1, Nat.mul_one, lits, List.length_map]
        exact .head _)
      simp only [List.length_take, List.length_drop] at this
      omega
theorem weightsAll_mem {t : TypeId} : ∀ {l : List (DataW H)} {d : DataW H}, d ∈ l → ∀ m ∈ d.weights Tryz.prog t, m ∈ DataW.weightsAll Tryz.prog t l
  | [], _, h, _, _ => by cases h
  | e :: l, d, h, m, hm => by
    simp only [DataW.weightsAll, List.mem_append]
    rcases List.mem_cons.1 h with rfl | h
    · exact .inl hm
    · exact .inr (weightsAll_mem h m hm)
theorem opV_of_trod {fuel : Nat} {cs : List Value} {x : DataW H × List MemPlace} (h : DataW.trod enc Tryz.prog w base spare held fuel 32 cs = some x) :
    ∃ o : OpV, cs = o.cells ∧ Bytes (fun k => k < w.heap.size) w (.slice o.a o.b.size o.cap) o.b ∧ (Light 32 x.1 → o.b.size ≤ reachBytes) := by
  obtain ⟨d, k, kind, keep, path, dest, a, n, c, rfl⟩ := op_shape h
  obtain ⟨xs, m, rfl, hx, hlen, hsz, hel⟩ := DataW.trod_struct Tryz.underlying32 h
  have hxs : xs.length = 7 := hsz
  have h3 := hel 3 _ rfl
  have h3' : DataW.trod enc Tryz.prog w base spare held m 30 [.slice a n c] = some xs[3] := by
    rw [List.getElem?_eq_getElem (by omega)] at h3
    rw [← h3]
    simp [oneBytes]
  obtain ⟨bs, hb, hL⟩ := bytes_of_trod h3'
  obtain ⟨a', cap', he⟩ := hb.len
  obtain ⟨rfl, rfl, rfl⟩ := Value.slice.inj he
  refine ⟨⟨d, path, dest, a, bs, c, k, kind, keep⟩, rfl, hb, fun hl => hL fun y hy => hl y ?_⟩
  obtain ⟨y0, y1, y2, y3, y4, y5, y6, rfl⟩ := list7 hxs
  rw [hx]
  have hu : Tryz.prog.underlying 32 = _ := Tryz.underlying32
  simp only [DataW.weights, hu, List.map_cons, List.map_nil, DataW.weightsEach, List.mem_append]
  exact .inr (.inr (.inr (.inl hy)))
theorem script_of_trod {fuel : Nat} {v : Value} {x : DataW H × List MemPlace} (h : DataW.trod enc Tryz.prog w base spare held fuel 22 [v] = some x) (hL : Light 22 x.1) :
    ∃ l, Script w.heap.size w v l ∧ l.length ≤ reachBytes := by
  rcases Go.Deep.open_slice Tryz.underlying22 h with ⟨hcs, hx⟩ | ⟨a, len, cap, m, n, D, Pl, hcs, _, hl, hm, hmm, hx, hi⟩
  · obtain rfl : v = .slice none 0 0 := by simpa using hcs
    exact ⟨[], ⟨.inl ⟨rfl, rfl⟩, fun o ho => by cases ho⟩, Nat.zero_le _⟩
  · obtain rfl : v = .slice (some a) len cap := by simpa using hcs
    have hlm : len ≤ m := by rw [hmm]; split <;> omega
    have hu : Tryz.prog.underlying 22 = some (.slice 32) := Tryz.underlying22
    have hb96 : Tryz.prog.bytesOf 32 = 88 := by kernel_rfl
    have hW : ∀ y, (y = (len + (m - len)) * 88 ∨ ∃ i, i < len ∧ y ∈ (D i).weights Tryz.prog 32) → y ≤ reachBytes := fun y hy => hL y (by
      rw [hx]
      simp only [DataW.weights, hu, hb96, List.length_map, List.length_range, List.mem_cons, List.mem_append]
      rcases hy with hy | ⟨i, hi, hy⟩
      · exact .inl hy
      · exact .inr (.inl (weightsAll_mem (List.mem_map.2 ⟨i, List.mem_range.2 hi, rfl⟩) y hy)))
    have hall : ∀ i, ∃ o : OpV, i < len → (∀ (j : Nat) (u : Value), o.cells[j]? = some u → w.cell? (a.add (i * 7 + j)) = some u) ∧ Bytes (fun k => k < w.heap.size) w (.slice o.a o.b.size o.cap) o.b ∧ o.b.size ≤ reachBytes := fun i => by
      by_cases hil : i < len
      · obtain ⟨cs', h1, h2⟩ := hi i (by omega)
        obtain ⟨o, rfl, ho, hoL⟩ := opV_of_trod h2
        refine ⟨o, fun _ => ⟨fun j u hu => ?_, ho, hoL fun y hy => hW y (.inr ⟨i, hil, hy⟩)⟩⟩
        rw [opCells] at h1
        obtain ⟨_, hcl, hat⟩ := World.cells?_some h1
        have hj : j < 7 := by have := (List.getElem?_eq_some_iff.1 hu).1; simpa [OpV.cells] using this
        rw [← Go.Deep.add_add, hat j hj]
        exact hu
      · exact ⟨⟨0, ⟨#[]⟩, ⟨#[]⟩, none, ⟨#[]⟩, 0, 0, 0, 0⟩, fun h => absurd h hil⟩
    obtain ⟨g, hg⟩ := Classical.axiomOfChoice hall
    have hlen : ((List.range len).map g).length = len := by simp
    refine ⟨(List.range len).map g, ⟨.inr ⟨a.block, a.off, a.spot, cap, by rw [hlen], ?_⟩, fun o ho => ?_⟩, ?_⟩
    · by_cases h0 : len = 0
      · left; subst h0; rfl
      · right
        have hc0 := (hg 0 (by omega)).1 0 _ rfl
        have hsp : a.spot = none := by
          obtain ⟨ab, ao, sp⟩ := a
          simpa [Addr.add] using World.cell?_spot hc0
        obtain ⟨ab, ao, sp⟩ := a
        simp only at hsp
        subst hsp
        refine ⟨rfl, World.block_lt_of_cell? _ _ hc0, ?_⟩
        have hex : ∃ cells e fr, w.heap[ab]? = some (.cells cells e fr) := by
          rw [Addr.add_lit] at hc0
          simp only [World.cell?] at hc0
          cases ho : w.heap[ab]? with
          | none => rw [ho] at hc0; cases hc0
          | some o =>
            rw [ho] at hc0
            cases o <;> first | exact ⟨_, _, _, rfl⟩ | cases hc0
        obtain ⟨cells, e, fr, hblk⟩ := hex
        refine ⟨cells, e, fr, hblk, fun i hi j u hu => ?_⟩
        rw [hlen] at hi
        simp only [List.getElem_map, List.getElem_range] at hu
        have hc := (hg i hi).1 j u hu
        rw [Addr.add_lit, cell_of_block hblk] at hc
        rw [← hc]
        congr 1
        simp only
        omega
    · obtain ⟨i, hi, rfl⟩ := List.mem_map.1 ho
      have := hg i (List.mem_range.1 hi)
      exact ⟨this.2.1, by have := this.2.2; unfold reachBytes at this; omega⟩
    · rw [hlen]
      have := hW _ (.inl rfl)
      omega
end
end Go.Proofs.YthchfkjdbfhnhaaGreatDoor
