/- A script that came in: what else its operations are. -/
import Derived.Test.YthchfkjdbfhnhaaGreatDoorOpenArgs
import Derived.Test.YthchfkjdbfhnhaaGreatDoorRefO
namespace Go.Proofs.YthchfkjdbfhnhaaGreatDoor
open Go Go.RowKit Go.ChangeShapes Go.WideShapes Go.ChangeAt Go.Lany
set_option maxRecDepth 100000
section
variable {H : Type} {enc : TypeId × Value → H} {w : World} {base : Nat} {spare : Nat → Bool} {held : Bool}
theorem opMore_of_trod {fuel : Nat} {o : OpV} {x : DataW H × List MemPlace} (h : DataW.trod enc Tryz.prog w base spare held fuel 32 o.cells = some x) (hL : Light 32 x.1) : o.path.size ≤ reachBytes ∧ o.k ≤ 9223372036854775807 := by
  obtain ⟨xs, m, hcs, hx, hlen, hsz, hel⟩ := DataW.trod_struct Tryz.underlying32 h
  have hxs : xs.length = 7 := hsz
  have h1 := hel 1 _ rfl
  have h4 := hel 4 _ rfl
  rw [List.getElem?_eq_getElem (by omega)] at h1 h4
  have h1' : DataW.trod enc Tryz.prog w base spare held m 9 [.string o.path] = some xs[1] := by rw [← h1]; simp [OpV.cells, oneString]
  have h4' : DataW.trod enc Tryz.prog w base spare held m 3 [.int .i64 o.k] = some xs[4] := by rw [← h4]; simp [OpV.cells, oneInt]
  obtain ⟨p, e1, hx1, -⟩ := DataW.trod_string Tryz.underlying9 h1'
  obtain ⟨n, e4, -, hw⟩ := DataW.trod_int Tryz.underlying3 h4'
  simp only [List.cons.injEq, and_true, Value.string.injEq, Value.int.injEq, true_and] at e1 e4
  subst e1 e4
  constructor
  · have hlp : o.path.data.toList.length = o.path.size := by simp
    rw [← hlp]
    refine hL o.path.data.toList.length ?_
    obtain ⟨y0, y1, y2, y3, y4, y5, y6, rfl⟩ := list7 hxs
    have hu : Tryz.prog.underlying 32 = _ := Tryz.underlying32
    have hx1' : y1 = (.lit (.string o.path.data.toList), []) := hx1
    rw [hx]
    simp only [DataW.weights, hu, List.map_cons, List.map_nil, DataW.weightsEach, List.mem_append]
    refine .inr (.inl ?_)
    rw [hx1']
    simp [DataW.weights]
  · unfold Lit.wf at hw
    simp only [Bool.and_eq_true, decide_eq_true_eq] at hw
    exact hw.2
theorem more_of_trod {fuel : Nat} {v : Value} {x : DataW H × List MemPlace} (h : DataW.trod enc Tryz.prog w base spare held fuel 22 [v] = some x) (hL : Light 22 x.1) {B : Nat} {l : List OpV} (hs : Script B w v l) : More l := by
  intro o ho
  obtain ⟨i, hi, rfl⟩ := List.mem_iff_getElem.1 ho
  rcases Go.Deep.open_slice Tryz.underlying22 h with ⟨hcs, hx⟩ | ⟨a, len, cap, m, n, D, Pl, hcs, _, hl, hm, hmm, hx, hit⟩
  · obtain rfl : v = .slice none 0 0 := by simpa using hcs
    obtain ⟨a', c', e⟩ := hs.form
    obtain ⟨-, e', -⟩ := Value.slice.inj e
    omega
  · obtain rfl : v = .slice (some a) len cap := by simpa using hcs
    obtain ⟨b, off, ea, elen, hc⟩ := hs.op hi
    have ea' : a = ⟨b, off, none⟩ := Option.some.inj ea
    subst ea'
    subst elen
    have hlm : l.length ≤ m := by rw [hmm]; split <;> omega
    have hu : Tryz.prog.underlying 22 = some (.slice 32) := Tryz.underlying22
    have hb96 : Tryz.prog.bytesOf 32 = 88 := by kernel_rfl
    obtain ⟨cs', h1, h2⟩ := hit i (by omega)
    have h1' := h1
    rw [opCells] at h1
    obtain ⟨_, hcl, hat⟩ := World.cells?_some h1
    have e7 : l[i].cells.length = 7 := rfl
    have hcells : cs' = l[i].cells := by
      apply List.ext_getElem?
      intro j
      by_cases hj : j < 7
      · rw [← hat j hj]
        obtain ⟨u, hu'⟩ : ∃ u, l[i].cells[j]? = some u := ⟨_, List.getElem?_eq_getElem (show j < l[i].cells.length by rw [e7]; exact hj)⟩
        rw [hu', ← hc j u hu']
        rw [Addr.add_lit, Addr.add_lit]
      · rw [List.getElem?_eq_none (by omega), List.getElem?_eq_none (by omega)]
    rw [hcells] at h2
    have hLi : Light 32 (D i) := fun y hy => hL y (by
      rw [hx]
      simp only [DataW.weights, hu, hb96, List.length_map, List.length_range, List.mem_cons, List.mem_append]
      exact .inr (.inl (weightsAll_mem (List.mem_map.2 ⟨i, List.mem_range.2 hi, rfl⟩) y hy)))
    have := opMore_of_trod h2 hLi
    exact ⟨by have := this.1; unfold reachBytes at this; omega, this.2⟩
end
end Go.Proofs.YthchfkjdbfhnhaaGreatDoor
