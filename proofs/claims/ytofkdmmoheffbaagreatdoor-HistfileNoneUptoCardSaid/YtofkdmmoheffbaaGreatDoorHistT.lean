/- The document's Check and Same; bytes.Equal. -/
import Derived.Test.YtofkdmmoheffbaaGreatDoorHistS
namespace Go.Proofs.YtofkdmmoheffbaaGreatDoor
open Go Go.RowKit Go.Shelf Go.Lany
set_option maxRecDepth 100000
theorem at_tests {s : ByteArray} {j : Nat} (h : j < s.size) : s.data.toList[j]? = some s[j] := by
  rw [List.getElem?_eq_getElem (by simpa using h)]; rfl
theorem badLine_nl {x : HL} {j : Nat} (h : j < x.1.size) (e : x.1[j] = 10) : hasNl x.1 = true := (hasNl_iff _).2 (List.mem_of_getElem? (by rw [at_tests h, e]))
theorem hasNl_none {s : ByteArray} (h : ∀ (j : Nat) (hj : j < s.size), s[j] ≠ 10) : hasNl s = false := by
  cases hn : hasNl s with
  | false => rfl
  | true =>
    obtain ⟨j, hj⟩ := List.getElem?_of_mem ((hasNl_iff s).1 hn)
    have hjl : j < s.size := by have := (List.getElem?_eq_some_iff.1 hj).1; simpa using this
    rw [at_tests hjl] at hj
    exact absurd (Option.some.inj hj) (h j hjl)
set_option maxHeartbeats 4000000 in
theorem checkR_at {F : Nat → Prop} {w : World} {v : Value} {l : List HL} (h : Lines F w v l) (hl : l.length ≤ 1048576) (hs : ∀ x ∈ l, x.1.size ≤ 1048576) : Calls Tryz.prog 19 #[v] w fun e w' => e = .returned (.int .i64 (checkE l)) ∧ w = w' := by
  obtain ⟨a, cap, rfl, hcap, hf⟩ := h.form
  have HF := Lib.hid hf
  have HSZ := Lib.hid hs
  clear h hf hs
  go_enter Tryz.func19, Tryz.ntmps19
  go_wp2
  go_loopw [3] (fun i wr => ∃ k : Nat, k ≤ l.length ∧ i = .int .i64 k ∧ wr = w ∧ ∀ (j : Nat) y, j < k → l[j]? = some y → badLine y = 0) (fun i _ => l.length - (intOf i).toNat)
  case atStart => exact ⟨0, Nat.zero_le _, rfl, rfl, fun j y hj => absurd hj (Nat.not_lt_zero _)⟩
  case round =>
    obtain ⟨k, hk, rfl, rfl, hok⟩ := hrel
    have HOK := Lib.hid hok
    clear hok
    by_cases hlt : k < l.length
    · obtain ⟨x, hx⟩ : ∃ x, l[k]? = some x := ⟨_, List.getElem?_eq_getElem hlt⟩
      obtain ⟨b, off, rfl, -, c1, c2⟩ := HF.out k x hx
      have hxs := HSZ.out x (List.mem_of_getElem? hx)
      have HX := Lib.hid hx
      have hst := stampR_at x.1 (by omega) wr
      clear hx
      cases e1 : (x.1.toList == []) with
      | true =>
        have HE := Lib.hid (badLine_entry (x := x) (.inl e1))
        go_wp2_with (go_at_call 33; refine hst.mono ?_; rintro e w1 ⟨rfl, rfl⟩)
        go_ret
        rw [checkE_at (fun j y h1 h2 => HOK.out j y h1 h2) HX.out (by rw [HE.out]; decide), HE.out]
        exact ⟨rfl, rfl⟩
      | false =>
        cases e3 : (stampB x.1).isSome with
        | true =>
          have HE := Lib.hid (badLine_entry (x := x) (.inr (.inr e3)))
          go_wp2_with (go_at_call 33; refine hst.mono ?_; rintro e w1 ⟨rfl, rfl⟩)
          go_ret
          rw [checkE_at (fun j y h1 h2 => HOK.out j y h1 h2) HX.out (by rw [HE.out]; decide), HE.out]
          exact ⟨rfl, rfl⟩
        | false =>
          go_wp2_with (go_at_call 33; refine hst.mono ?_; rintro e w1 ⟨rfl, rfl⟩)
          obtain ⟨wo, rfl⟩ : ∃ wo : World, wo = wr := ⟨_, rfl⟩
          have E1 := Lib.hid e1
          have E3 := Lib.hid e3
          go_loopw [6] (fun i wr => ∃ q : Nat, q ≤ x.1.size ∧ i = .int .i64 q ∧ wr = wo ∧ ∀ (j : Nat) (hj : j < x.1.size), j < q → x.1[j] ≠ 10) (fun i _ => x.1.size - (intOf i).toNat)
          case atStart => exact ⟨0, Nat.zero_le _, rfl, rfl, fun j _ hj => absurd hj (Nat.not_lt_zero _)⟩
          case round =>
            obtain ⟨q, hq, rfl, rfl, hno⟩ := hrel
            have HNO := Lib.hid hno
            clear hno
            by_cases hql : q < x.1.size
            · by_cases h10 : x.1[q] = 10
              · have hb : (((x.1[q].toNat : Nat) : Int) == 10) = true := by rw [h10]; rfl
                have HE := Lib.hid (badLine_entry (x := x) (.inr (.inl (badLine_nl hql h10))))
                clear h10
                go_wp2
                go_ret
                rw [checkE_at (fun j y h1 h2 => HOK.out j y h1 h2) HX.out (by rw [HE.out]; decide), HE.out]
                exact ⟨rfl, rfl⟩
              · have hb : (((x.1[q].toNat : Nat) : Int) == 10) = false := by
                  rw [beq_eq_false_iff_ne]
                  exact fun e => h10 (UInt8.toNat_inj.1 (by have : (10 : UInt8).toNat = 10 := rfl; omega))
                have H10 := Lib.hid h10
                clear h10
                go_wp2
                refine ⟨⟨q + 1, by omega, by go_num, trivial, fun j hj hjq => ?_⟩, by simp [intOf]; omega⟩
                rcases Nat.lt_succ_iff_lt_or_eq.1 hjq with hjq | rfl
                · exact HNO.out j hj hjq
                · exact H10.out
            · have hnl : hasNl x.1 = false := hasNl_none fun j hj => HNO.out j hj (by omega)
              by_cases e4 : x.2 < 0
              · have HE := Lib.hid (badLine_arg (x := x) E1.out hnl E3.out (.inl e4))
                go_wp2
                go_ret
                rw [checkE_at (fun j y h1 h2 => HOK.out j y h1 h2) HX.out (by rw [HE.out]; decide), HE.out]
                exact ⟨rfl, rfl⟩
              · by_cases e5 : 999999999999 < x.2
                · have HE := Lib.hid (badLine_arg (x := x) E1.out hnl E3.out (.inr e5))
                  go_wp2
                  go_ret
                  rw [checkE_at (fun j y h1 h2 => HOK.out j y h1 h2) HX.out (by rw [HE.out]; decide), HE.out]
                  exact ⟨rfl, rfl⟩
                · have HE := Lib.hid (badLine_ok (x := x) E1.out hnl E3.out e4 e5)
                  go_wp2
                  refine ⟨⟨k + 1, by omega, by go_num, trivial, fun j y hj hy => ?_⟩, by simp [intOf]; omega⟩
                  rcases Nat.lt_succ_iff_lt_or_eq.1 hj with hj | rfl
                  · exact HOK.out j y hj hy
                  · rw [HX.out] at hy
                    cases hy
                    exact HE.out
    · obtain rfl : k = l.length := by omega
      go_wp2
      go_ret
      rw [checkE_ok fun j y hy => HOK.out j y (List.getElem?_eq_some_iff.1 hy).1 hy]
      exact ⟨rfl, rfl⟩
theorem equal_at {F G : Nat → Prop} {w : World} {u v : Value} {s t : ByteArray} (hu : Bytes F w u s) (hv : Bytes G w v t) : Calls Tryz.prog 48 #[u, v] w fun e w' => e = .returned (.bool (s.toList == t.toList)) ∧ w = w' := by
  have h1 := str_of_bytes hu
  have h2 := str_of_bytes hv
  obtain ⟨a, c, rfl⟩ := hu.len
  obtain ⟨a', c', rfl⟩ := hv.len
  clear hu hv
  go_enter Tryz.func48, Tryz.ntmps48
  go_wp2
  go_ret
  exact ⟨rfl, rfl⟩
section
variable {P : Program} {d : Nat} {xs ys : Array Value} {f : Field} {fs : List Field} {a b : Value} {r s : Bool} {w : World}
theorem eq_last (hn : (f.name == "_") = false) (ha : (part f.type xs f.offset).run P w = .ok a w) (hb : (part f.type ys f.offset).run P w = .ok b w) (he : (Op.equalIn d f.type a b).run P w = .ok r w) : (Op.eqFields d xs ys [f]).run P w = .ok r w := by
  have hn' : f.name ≠ "_" := by simpa using hn
  simp only [Op.eqFields, if_pos hn', Sem.run_bind, ha, hb, he, Result.andThen_ok]
  cases r <;> simp
theorem eq_cons (hn : (f.name == "_") = false) (ha : (part f.type xs f.offset).run P w = .ok a w) (hb : (part f.type ys f.offset).run P w = .ok b w) (he : (Op.equalIn d f.type a b).run P w = .ok r w) (hr : (Op.eqFields d xs ys fs).run P w = .ok s w) : (Op.eqFields d xs ys (f :: fs)).run P w = .ok (r && s) w := by
  have hn' : f.name ≠ "_" := by simpa using hn
  rw [Op.eqFields]
  simp only [if_pos hn', Sem.run_bind, ha, hb, he, Result.andThen_ok]
  cases r
  · simp
  · simpa using hr
theorem eq_struct {t : TypeId} {fs : Array Field} (hu : P.underlying t = some (.struct fs)) (hp : P.stoodInHeld t = false) (h : (Op.eqFields d xs ys fs.toList).run P w = .ok r w) : (Op.equalIn (d + 1) t (.agg xs) (.agg ys)).run P w = .ok r w := by
  have hf : P.fieldsOf t = fs := by simp [Program.fieldsOf, hu]
  rw [run_equalIn_struct (P := P) w d t xs ys (by rw [hf]; exact hu) hp, hf]
  exact h
end
theorem eq_line (d : Nat) (w : World) (x0 y0 : ByteArray) (x1 y1 : Int) : (Op.equalIn (d + 2) 29 (.agg #[.string x0, .int .i64 x1]) (.agg #[.string y0, .int .i64 y1])).run Tryz.prog w = .ok (x0.toList == y0.toList && (x1 == y1)) w := by
  refine eq_struct Tryz.underlying29 (by kernel_rfl) ?_
  refine eq_cons (by rfl) (by go_simp; rfl) (by go_simp; rfl) (by go_simp) ?_
  exact eq_last (by rfl) (by go_simp; rfl) (by go_simp; rfl) (by go_simp)
theorem below_drewN {B : Nat} {w w' : World} (h : Below B w w') (n : Nat) : Below B w (w'.drewN n) := ⟨h.os, h.tape, h.output, h.size, h.block⟩
def SamePost (b : Bool) (w : World) (e : Ending) (w' : World) : Prop := e = .returned (.bool b) ∧ Below w.heap.size w w'
set_option maxHeartbeats 4000000 in
theorem same_at {F G : Nat → Prop} {w : World} {u v : Value} {l r : List HL} (hu : Lines F w u l) (hv : Lines G w v r) (hl : l.length ≤ 1099511627776) (hr : r.length ≤ 1099511627776) : Calls Tryz.prog 13 #[u, v] w (SamePost (decide (l = r)) w) := by
  obtain ⟨a, cap, rfl, hcap, hf⟩ := hu.form
  obtain ⟨a', cap', rfl, hcap', hf'⟩ := hv.form
  have HF := Lib.hid hf
  have HF' := Lib.hid hf'
  clear hu hv hf hf'
  by_cases hlen : l.length = r.length
  · have hb : ((l.length : Int) != (r.length : Int)) = false := by rw [hlen]; simp
    have HLEN := Lib.hid hlen
    have hle : l.length ≤ r.length := by omega
    clear hlen
    go_enter Tryz.func13, Tryz.ntmps13
    go_wp2
    go_loopw [5] (fun i wr => ∃ k : Nat, k ≤ l.length ∧ i = .int .i64 k ∧ Below w.heap.size w wr ∧ l.take k = r.take k) (fun i _ => l.length - (intOf i).toNat)
    case atStart => exact ⟨0, Nat.zero_le _, rfl, Below.refl _ _, rfl⟩
    case round =>
      obtain ⟨k, hk, rfl, hbw, heq⟩ := hrel
      have HB := Lib.hid hbw
      have HEQ := Lib.hid heq
      clear heq
      by_cases hlt : k < l.length
      · obtain ⟨x, hx⟩ : ∃ x, l[k]? = some x := ⟨_, List.getElem?_eq_getElem hlt⟩
        obtain ⟨y, hy⟩ : ∃ y, r[k]? = some y := ⟨_, List.getElem?_eq_getElem (by omega)⟩
        obtain ⟨b, off, rfl, -, h1, h2⟩ := HF.out k x hx
        obtain ⟨b', off', rfl, -, h3, h4⟩ := HF'.out k y hy
        have c1 : wr.cell? ⟨b, off + k * 2, none⟩ = some (.string x.1) := by rw [hbw.cell (World.block_lt_of_cell? _ _ h1), h1]
        have c2 : wr.cell? ⟨b, off + k * 2 + 1, none⟩ = some (.int .i64 x.2) := by rw [hbw.cell (World.block_lt_of_cell? _ _ h2), h2]
        have c3 : wr.cell? ⟨b', off' + k * 2, none⟩ = some (.string y.1) := by rw [hbw.cell (World.block_lt_of_cell? _ _ h3), h3]
        have c4 : wr.cell? ⟨b', off' + k * 2 + 1, none⟩ = some (.int .i64 y.2) := by rw [hbw.cell (World.block_lt_of_cell? _ _ h4), h4]
        have HX := Lib.hid hx
        have HY := Lib.hid hy
        have hltr : k < r.length := by omega
        have k0 : 0 ≤ (k : Int) := by omega
        have k1 : (k : Int) < (l.length : Int) := by omega
        have k2 : (k : Int) < (r.length : Int) := by omega
        have heq := eq_line
        clear hx hy h1 h2 h3 h4 hbw
        have hdiff : (!(x.1.toList == y.1.toList) || !(x.2 == y.2)) = decide (x ≠ y) := by
          have h1 : (x.1.toList = y.1.toList) ↔ x.1 = y.1 := ⟨fun e => by rw [ByteArray.toList_eq, ByteArray.toList_eq] at e; exact ByteArray.ext (Array.toList_inj.1 e), fun e => by rw [e]⟩
          have h2 : x = y ↔ x.1 = y.1 ∧ x.2 = y.2 := Prod.ext_iff
          rw [Bool.eq_iff_iff]
          simp [h2, ← h1]
        have HD := Lib.hid hdiff
        clear hdiff
        cases hq : (!(x.1.toList == y.1.toList) || !(x.2 == y.2)) with
        | true =>
          go_wp2
          go_quiet (fail)
          go_wp2
          go_ret
          have hne : l ≠ r := by
            rintro rfl
            have h1 := HX.out
            rw [HY.out] at h1
            have h2 := HD.out
            rw [hq] at h2
            have h3 := of_decide_eq_true h2.symm
            exact h3 (Option.some.inj h1).symm
          rw [show decide (l = r) = false from decide_eq_false hne]
          exact ⟨rfl, below_drewN HB.out _⟩
        | false =>
          go_wp2
          go_quiet (fail)
          go_wp2
          refine ⟨⟨k + 1, by omega, by go_num, below_drewN HB.out _, ?_⟩, by simp [intOf]; omega⟩
          have h2 := HD.out
          rw [hq] at h2
          have h3 : x = y := by
            have := of_decide_eq_false h2.symm
            exact Classical.not_not.1 this
          rw [List.take_add_one, List.take_add_one, HX.out, HY.out, HEQ.out, h3]
      · obtain rfl : k = l.length := by omega
        go_wp2
        go_ret
        have h1 := HEQ.out
        rw [List.take_length, HLEN.out, List.take_length] at h1
        rw [show decide (l = r) = true from decide_eq_true h1]
        exact ⟨rfl, HB.out⟩
  · have hb : ((l.length : Int) != (r.length : Int)) = true := bne_iff_ne.2 fun e => hlen (by omega)
    have hne : l ≠ r := fun e => hlen (by rw [e])
    have HNE := Lib.hid hne
    clear hne
    go_enter Tryz.func13, Tryz.ntmps13
    go_wp2
    go_ret
    rw [show decide (l = r) = false from decide_eq_false HNE.out]
    exact ⟨rfl, Below.refl _ _⟩
end Go.Proofs.YtofkdmmoheffbaaGreatDoor
