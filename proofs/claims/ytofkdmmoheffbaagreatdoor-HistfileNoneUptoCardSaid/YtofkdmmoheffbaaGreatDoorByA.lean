/- Slices of bytes: append onto a slice of the call's own; slices.Clone; string(b). -/
import Derived.Test.YtofkdmmoheffbaaGreatDoorBy
import Derived.Deep.AppendSrc
import Derived.Lib.SliceRun
import Derived.Laws.AppendOwnNone
import Derived.Laws.IdiomStrings
import Derived.Lib.AppendZeros
namespace Go.Proofs.YtofkdmmoheffbaaGreatDoor
open Go Go.RowKit Go.Lany
set_option maxRecDepth 100000
theorem info8 : (Tryz.prog.info? 5).map (fun i => (i.zero, i.size, i.bytes)) = some (some (.int .u8 0), 1, 1) := by kernel_rfl
theorem bc_get {bs : ByteArray} {i : Nat} (h : i < bs.size) : (byteCells bs)[i]? = some (.int .u8 (bs[i].toNat : Int)) := by
  have h' : i < bs.data.size := h
  simp only [byteCells, List.getElem?_map, Array.getElem?_toList, Array.getElem?_eq_getElem h', Option.map_some]
  rfl
theorem bc_append (a b : ByteArray) : byteCells (a ++ b) = byteCells a ++ byteCells b := by simp [byteCells]
theorem bc_one {bs : ByteArray} : ∀ u ∈ byteCells bs, u.oneCell' = true := by
  intro u hu
  obtain ⟨x, _, rfl⟩ := List.mem_map.1 hu
  rfl
/-- What a call's own row of bytes reads as. -/
theorem bytes_of_row {w : World} {base : Nat} {v : Value} {n : Nat} {bs : ByteArray} (h : w.ownsRow base 5 1 v n (byteCells bs)) : Bytes (fun k => base ≤ k) w v bs := by
  obtain ⟨h1, h2⟩ := h
  rw [byteCells_length, Nat.mul_one] at h1
  subst h1
  rcases h2 with ⟨e, e'⟩ | ⟨g, cap, cur, e, hg, hh, h3, h4, h5, h6⟩
  · exact .inl ⟨e, e'⟩
  · refine .inr ⟨g, 0, none, cap, h3, e, .inr ⟨rfl, hg, cur, _, (0, 0), hh, fun i hi => ?_⟩⟩
    have := bc_get hi
    rw [← h6, List.getElem?_take, if_pos (by omega)] at this
    simpa using this
/-- 'append(dst, x...)', dst of the call's own. -/
theorem run_append_bytes {w : World} (base : Nat) (ty : TypeId) {v x : Value} {n : Nat} {a b : ByteArray} {G : Nat → Prop} (hown : w.ownsRow base 5 1 v n (byteCells a)) (hx : Bytes G w x b) (hs : n + b.size ≤ 140737488355328) (hbase : base ≤ w.heap.size) :
    ∃ v' w', (Builtin.append_ #[37, 37] ty #[v, x]).run Tryz.prog w = .ok v' w' ∧ w'.ownsRow base 5 1 v' (n + b.size) (byteCells (a ++ b)) ∧ w.grownBy w' v.ownBlock := by
  obtain ⟨i0, hi, hz0, hz1, hz2⟩ := info_parts info8
  rcases hx with ⟨rfl, h0⟩ | ⟨bl, off, sp, cap, hcap, rfl, hc⟩
  · have hr := run_append_owned_none (P := Tryz.prog) (w := w) base 37 ty 5 i0 1 (by kernel_rfl) hi v n (byteCells a) hown
    refine ⟨v, w, hr, ?_, ⟨rfl, rfl, rfl, Nat.le_refl _, fun _ _ _ => rfl⟩⟩
    have hb : byteCells b = [] := List.eq_nil_of_length_eq_zero (by rw [byteCells_length]; exact h0)
    rw [bc_append, hb, h0]; simpa using hown
  · obtain ⟨v', w', h1, h2, h3, _⟩ := run_append_own (P := Tryz.prog) w base 37 ty 5 i0 (.int .u8 0) 1 1 (by kernel_rfl) hi hz0 hz1 hz2 rfl (by decide) v n (byteCells a) hown ⟨bl, off, sp⟩ b.size cap (byteCells b) (by rw [byteCells_length, Nat.mul_one])
      (fun j u hu => by
        have hj : j < b.size := by have := (List.getElem?_eq_some_iff.1 hu).1; rwa [byteCells_length] at this
        rw [bc_get hj] at hu
        cases hu
        have := Bytes.cells (F := G) (w := w) (cap := cap) (.inr ⟨bl, off, sp, cap, hcap, rfl, hc⟩)
        rw [← this.2 j hj]) bc_one (by unfold maxLen; omega) (by omega) hbase
    exact ⟨v', w', h1, by rw [bc_append]; exact h2, h3⟩
theorem wpList_append_bytes {w : World} {ops : Array Oper} {rest : List Oper} {o : Oper} {a : Act} {Q : Exit → Act → World → Prop} (hgd : o.guard = none) (s x : Operand)
    (ho : o.op = .call { callee := .builtin .append, args := #[s, x], argTypes := #[37, 37] }) (base : Nat) (v y : Value) (n : Nat) (p q : ByteArray) (G : Nat → Prop) (hs : a.eval s = v) (hx : a.eval x = y)
    (hown : w.ownsRow base 5 1 v n (byteCells p)) (hy : Bytes G w y q) (hl : n + q.size ≤ 140737488355328) (hbase : base ≤ w.heap.size)
    (h : ∀ v' w', w'.ownsRow base 5 1 v' (n + q.size) (byteCells (p ++ q)) → w.grownBy w' v.ownBlock → wpList Tryz.prog ops Q rest (a.put o.dst v') w') : wpList Tryz.prog ops Q (o :: rest) a w := by
  obtain ⟨v', w', h1, h2, h3⟩ := run_append_bytes (w := w) base o.type hown hy hl hbase
  exact Lib.wpList_append_run w hgd s x _ _ ho v y hs hx v' w' h1 (h v' w' h2 h3)
/-- A call's answer is a slice of new memory that reads as bs. -/
def SlicePost (bs : ByteArray) (w : World) (e : Ending) (w' : World) : Prop := ∃ v, e = .returned v ∧ Bytes (fun k => w.heap.size ≤ k) w' v bs ∧ Below w.heap.size w w'
theorem bytes_nil (F : Nat → Prop) (w : World) : Bytes F w (.slice none 0 0) ByteArray.empty := .inl ⟨rfl, rfl⟩
/-- .. and it is the caller's own. -/
def RowPost (bs : ByteArray) (w : World) (e : Ending) (w' : World) : Prop := ∃ v, e = .returned v ∧ w'.ownsRow w.heap.size 5 1 v bs.size (byteCells bs) ∧ Below w.heap.size w w'
theorem row_base {w : World} {b b' : Nat} {v : Value} {n : Nat} {xs : List Value} (h : w.ownsRow b 5 1 v n xs) (hb : b' ≤ b) : w.ownsRow b' 5 1 v n xs :=
  ⟨h.1, h.2.imp id fun ⟨g, cap, cur, e, hg, r⟩ => ⟨g, cap, cur, e, Nat.le_trans hb hg, r⟩⟩
set_option maxHeartbeats 1000000 in
theorem clone_row {w : World} {v : Value} {bs : ByteArray} {G : Nat → Prop} (h : Bytes G w v bs) (hs : bs.size ≤ 140737488355328) : Calls Tryz.prog 57 #[v] w (RowPost bs w) := by
  rcases h with ⟨rfl, h0⟩ | ⟨b, off, sp, cap, hcap, rfl, hc⟩
  · have hq := Lib.run_eql_slice_nil (P := Tryz.prog) w 37 5 none 0 0 0 0 (by kernel_rfl)
    go_enter Tryz.func57, Tryz.ntmps57
    go_wp2
    go_ret
    exact ⟨_, rfl, ⟨by rw [byteCells_length, Nat.mul_one], .inl ⟨rfl, h0⟩⟩, Below.refl _ _⟩
  · have h : Bytes G w (.slice (some ⟨b, off, sp⟩) bs.size cap) bs := .inr ⟨b, off, sp, cap, hcap, rfl, hc⟩
    have hq := Lib.run_eql_slice_nil (P := Tryz.prog) w 37 5 (some ⟨b, off, sp⟩) bs.size cap 0 0 (by kernel_rfl)
    clear hc
    have hown : (w.alloc (.cells #[] 5)).ownsRow w.heap.size 5 1 (.slice (some ⟨w.heap.size, 0, none⟩) 0 0) 0 (byteCells ByteArray.empty) := World.ownsRow_made w #[] 0 (Nat.le_refl _) (by decide) rfl
    have hsrc : Bytes G (w.alloc (.cells #[] 5)) (.slice (some ⟨b, off, sp⟩) bs.size cap) bs := h.below ((Below.refl _ _).alloc (Nat.le_refl _) _)
    have HO := Lib.hid hown
    have HS := Lib.hid hsrc
    clear h hown hsrc
    go_enter Tryz.func57, Tryz.ntmps57
    go_wp2_with (at_builtin; refine wpList_append_bytes rfl _ _ rfl w.heap.size _ _ 0 ByteArray.empty bs G rfl rfl HO.out HS.out (by omega) (by simp) ?_; intro v' w' hown' hg')
    go_ret
    have hb : Below w.heap.size w w' := (((Below.refl _ _).alloc (Nat.le_refl _) _)).grown hg' (by simp) (fun k hk => by cases hk; exact Nat.le_refl _)
    refine ⟨v', rfl, ?_, hb⟩
    rwa [ByteArray.empty_append, Nat.zero_add] at hown'
theorem clone_any {w : World} {v : Value} {bs : ByteArray} {G : Nat → Prop} (h : Bytes G w v bs) (hs : bs.size ≤ 140737488355328) : Calls Tryz.prog 57 #[v] w (SlicePost bs w) :=
  (clone_row h hs).mono fun _ _ ⟨v, he, hr, hb⟩ => ⟨v, he, bytes_of_row hr, hb⟩
/-- 'string(b)'. -/
theorem str_of_bytes {F : Nat → Prop} {w : World} {v : Value} {bs : ByteArray} (h : Bytes F w v bs) : (convert 37 9 v).run Tryz.prog w = .ok (.string bs) w := by
  rcases h with ⟨rfl, h0⟩ | ⟨b, off, sp, cap, hcap, rfl, h⟩
  · rw [run_convert_bytes_nil (P := Tryz.prog) w 37 5 (by kernel_rfl) (by kernel_rfl) 0 0 9 (by kernel_rfl)]
    have : bs = ByteArray.empty := ByteArray.ext (Array.eq_empty_of_size_eq_zero h0)
    rw [this]
  · have hb := Bytes.cells (F := F) (w := w) (.inr ⟨b, off, sp, cap, hcap, rfl, h⟩)
    have hl : bs.data.toList.length = bs.size := by simp
    have hr := run_convert_bytes_back (P := Tryz.prog) w 37 9 5 ⟨b, off, sp⟩ cap bs.data.toList (by kernel_rfl) (by kernel_rfl) (by kernel_rfl) (fun j hj => by
      rw [hl] at hj
      rw [hb.2 j hj, Array.getElem_toList]
      rfl)
    rw [hl] at hr
    rw [hr]
end Go.Proofs.YtofkdmmoheffbaaGreatDoor
