/- The state of a simulated file system in memory, and its small calls: none, call, answers, Calls, Down, Restart, SetFault. -/
import Derived.Test.YtofkdmmoheffbaaGreatDoorBy
import Derived.Laws.LoneSync
namespace Go.Proofs.YtofkdmmoheffbaaGreatDoor
open Go Go.RowKit Go.Lany
set_option maxRecDepth 100000
/-- What a file system holds. -/
structure FsSt where
  files : List (ByteArray × ByteArray)
  left : Int
  kind : Int
  keep : Int
  calls : Int
  down : Bool
/-- The block of a file system. -/
abbrev fsObj (m c : Nat) (left kind keep : Int) (down : Bool) : Obj :=
  .cells #[.map (some m), .int .i64 left, .int .i64 kind, .int .i64 keep, .pointer (some ⟨c, 0, none⟩), .bool down] 52 (0, 0)
abbrev fsPtr (f : Nat) : Value := .pointer (some ⟨f, 0, none⟩)
/-- Block f is a file system that holds s: its map in block m, its counter in block c; all of it in blocks of F. -/
structure FsAt (w : World) (f m c : Nat) (F : Nat → Prop) (s : FsSt) : Prop where
  obj : w.heap[f]? = some (fsObj m c s.left s.kind s.keep s.down)
  cnt : w.heap[c]? = some (.cells #[.int .i64 s.calls] 65 (0, 0))
  map : ∃ vs, MapOf w m vs ∧ Both (Bytes F w) vs s.files
  inF : F f ∧ F m ∧ F c
  far : ¬ F 1
  ml : Ml w
def Own3 (f m c k : Nat) : Prop := k = f ∨ k = m ∨ k = c
theorem FsAt.ne {w : World} {f m c : Nat} {F : Nat → Prop} {s : FsSt} (h : FsAt w f m c F s) : f ≠ m ∧ f ≠ c ∧ m ≠ c := by
  obtain ⟨vs, ⟨es, clock, hm, _⟩, _⟩ := h.map
  refine ⟨?_, ?_, ?_⟩
  · rintro rfl; have := h.obj.symm.trans hm; cases this
  · rintro rfl; have := h.obj.symm.trans h.cnt; simp at this
  · rintro rfl; have := h.cnt.symm.trans hm; cases this
theorem FsAt.lt {w : World} {f m c : Nat} {F : Nat → Prop} {s : FsSt} (h : FsAt w f m c F s) : f < w.heap.size ∧ m < w.heap.size ∧ c < w.heap.size := by
  obtain ⟨vs, hm, _⟩ := h.map
  exact ⟨lt_of_block h.obj, hm.lt, lt_of_block h.cnt⟩
theorem FsAt.far3 {w : World} {f m c : Nat} {F : Nat → Prop} {s : FsSt} (h : FsAt w f m c F s) : ¬ Own3 f m c 1 := by
  have := h.far
  obtain ⟨h1, h2, h3⟩ := h.inF
  rintro (e | e | e) <;> exact this (e ▸ (by assumption))
/-- A block that holds a byte is none of the file system's own three. -/
theorem FsAt.data_ne {w : World} {f m c : Nat} {F : Nat → Prop} {s : FsSt} (h : FsAt w f m c F s) {b : Nat} {cells : Array Value} {e : TypeId} {fr : Nat × Nat} (hb : w.heap[b]? = some (.cells cells e fr)) {i : Nat} {x : Int} (hx : cells[i]? = some (.int .u8 x)) : ¬ Own3 f m c b := by
  obtain ⟨vs, ⟨es, clock, hm, _⟩, _⟩ := h.map
  rintro (rfl | rfl | rfl)
  · have := h.obj.symm.trans hb
    simp only [fsObj, Option.some.injEq, Obj.cells.injEq] at this
    obtain ⟨rfl, _⟩ := this
    rcases i with _ | _ | _ | _ | _ | _ | i <;> simp at hx
  · have := hm.symm.trans hb; cases this
  · have := h.cnt.symm.trans hb
    simp only [Option.some.injEq, Obj.cells.injEq] at this
    obtain ⟨rfl, _⟩ := this
    rcases i with _ | i <;> simp at hx
theorem Bytes.kept3 {w w' : World} {f m c : Nat} {F G : Nat → Prop} {s : FsSt} (h : FsAt w f m c F s) {v : Value} {bs : ByteArray} (hv : Bytes G w v bs) (t : Turns (Own3 f m c) w w') : Bytes G w' v bs := by
  rcases hv with hv | ⟨b, off, sp, cap, hcap, rfl, hv⟩
  · exact .inl hv
  · refine .inr ⟨b, off, sp, cap, hcap, rfl, ?_⟩
    rcases hv with hv | ⟨hsp, h2, cells, e, fr, h3, h4⟩
    · exact .inl hv
    · by_cases h0 : bs.size = 0
      · exact .inl h0
      · exact .inr ⟨hsp, h2, cells, e, fr, (t.block b (lt_of_block h3) (h.data_ne h3 (h4 0 (by omega)))).trans h3, h4⟩
theorem FsAt.kept {w w' : World} {f m c : Nat} {F S : Nat → Prop} {s : FsSt} (h : FsAt w f m c F s) (t : Turns S w w') (hs : ∀ k, F k → ¬ S k) (hg : ¬ S 1) : FsAt w' f m c F s := by
  obtain ⟨h1, h2, h3⟩ := h.inF
  obtain ⟨vs, hm, hb⟩ := h.map
  exact ⟨(t.block f h.lt.1 (hs f h1)).trans h.obj, (t.block c h.lt.2.2 (hs c h3)).trans h.cnt, ⟨vs, hm.kept t (hs m h2), hb.mono fun _ _ _ hp => hp.kept t hs⟩, h.inF, h.far, h.ml.kept t hg⟩
theorem FsAt.below {w w' : World} {f m c : Nat} {F : Nat → Prop} {s : FsSt} (h : FsAt w f m c F s) (t : Below w.heap.size w w') : FsAt w' f m c F s := h.kept (S := fun _ => False) (Turns.of_below t) (fun _ _ => id) id
theorem FsAt.mono {w : World} {f m c : Nat} {F G : Nat → Prop} {s : FsSt} (h : FsAt w f m c F s) (hf : ∀ k, k < w.heap.size → F k → G k) (hg : ¬ G 1) : FsAt w f m c G s := by
  obtain ⟨h1, h2, h3⟩ := h.inF
  obtain ⟨vs, hm, hb⟩ := h.map
  exact ⟨h.obj, h.cnt, ⟨vs, hm, hb.mono fun _ _ _ hp => hp.mono hf⟩, ⟨hf f h.lt.1 h1, hf m h.lt.2.1 h2, hf c h.lt.2.2 h3⟩, hg, h.ml⟩
/-- The file system's own block or its counter is written; its files stay. -/
theorem FsAt.written {w w' : World} {f m c : Nat} {F : Nat → Prop} {s s' : FsSt} (h : FsAt w f m c F s) (t : Turns (fun k => k = f ∨ k = c) w w')
    (ho : w'.heap[f]? = some (fsObj m c s'.left s'.kind s'.keep s'.down)) (hc : w'.heap[c]? = some (.cells #[.int .i64 s'.calls] 65 (0, 0))) (hf : s'.files = s.files) : FsAt w' f m c F s' := by
  obtain ⟨h1, h2, h3⟩ := h.ne
  obtain ⟨vs, hm, hb⟩ := h.map
  refine ⟨ho, hc, ⟨vs, hm.kept t (by rintro (e | e); exact h1 e.symm; exact h3 e), ?_⟩, h.inF, h.far, h.ml.kept t (by rintro (e | e) <;> exact h.far (e ▸ (by first | exact h.inF.1 | exact h.inF.2.2)))⟩
  rw [hf]
  exact hb.mono fun _ _ _ hp => hp.kept3 h (t.mono fun k _ hk => hk.elim .inl (fun e => .inr (.inr e)))
/- none -/
theorem none_nil (w : World) : Calls Tryz.prog 31 #[.pointer none] w fun e w' => e = .returned (.bool true) ∧ w = w' := by
  go_enter Tryz.func31, Tryz.ntmps31
  go_wp2
  go_ret
  exact ⟨rfl, rfl⟩
theorem none_zero {w : World} {f : Nat} (hc : w.cell? ⟨f, 0, none⟩ = some (.map none)) : Calls Tryz.prog 31 #[fsPtr f] w fun e w' => e = .returned (.bool true) ∧ w = w' := by
  have hq := run_eql_map_nil (P := Tryz.prog) w 47 9 37 none (by kernel_rfl)
  go_enter Tryz.func31, Tryz.ntmps31
  go_wp2
  go_ret
  exact ⟨rfl, rfl⟩
theorem none_some {w : World} {f m : Nat} (hc : w.cell? ⟨f, 0, none⟩ = some (.map (some m))) : Calls Tryz.prog 31 #[fsPtr f] w fun e w' => e = .returned (.bool false) ∧ w = w' := by
  have hq := run_eql_map_nil (P := Tryz.prog) w 47 9 37 (some m) (by kernel_rfl)
  go_enter Tryz.func31, Tryz.ntmps31
  go_wp2
  go_ret
  exact ⟨rfl, rfl⟩
theorem none_at {w : World} {f m c : Nat} {F : Nat → Prop} {s : FsSt} (h : FsAt w f m c F s) : Calls Tryz.prog 31 #[fsPtr f] w fun e w' => e = .returned (.bool false) ∧ w = w' :=
  none_some (by rw [cell_of_block h.obj]; rfl)
/- the counter -/
theorem add_at {w : World} {c : Nat} {n : Int} (hc : w.heap[c]? = some (.cells #[.int .i64 n] 65 (0, 0))) :
    Calls Tryz.prog 82 #[.pointer (some ⟨c, 0, none⟩), .int .i64 1] w fun e w' => e = .returned (.int .i64 (wrap64 (n + 1))) ∧ w' = w.setCell ⟨c, 0, none⟩ (.int .i64 (wrap64 (n + 1))) := by
  have h0 : w.cell? ⟨c, 0, none⟩ = some (.int .i64 n) := by rw [cell_of_block hc]; rfl
  have f0 : w.frozen? ⟨c, 0, none⟩ = false := free_of_block hc 0
  have hadd := run_call_add (P := Tryz.prog) Tryz.func118 (by kernel_rfl) (by kernel_rfl) (by kernel_rfl) .i64 (by kernel_rfl) (y := 1) (s := wrap64 (n + 1)) h0 f0 (by simp [Op.intArith, IntWalk.i64_left])
  go_enter Tryz.func82, Tryz.ntmps82
  go_wp2
  go_ret
  exact ⟨rfl, rfl⟩
theorem load_at {w : World} {c : Nat} {n : Int} (hc : w.heap[c]? = some (.cells #[.int .i64 n] 65 (0, 0))) :
    Calls Tryz.prog 70 #[.pointer (some ⟨c, 0, none⟩)] w fun e w' => e = .returned (.int .i64 n) ∧ w = w' := by
  have h0 : w.cell? ⟨c, 0, none⟩ = some (.int .i64 n) := by rw [cell_of_block hc]; rfl
  have hl := run_call_load (P := Tryz.prog) Tryz.func96 (by kernel_rfl) (by kernel_rfl) (by kernel_rfl) .i64 (by kernel_rfl) h0
  go_enter Tryz.func70, Tryz.ntmps70
  go_wp2
  go_ret
  exact ⟨rfl, rfl⟩
theorem store_at {w : World} {c : Nat} {n : Int} (k : Int) (hc : w.heap[c]? = some (.cells #[.int .i64 n] 65 (0, 0))) :
    Calls Tryz.prog 69 #[.pointer (some ⟨c, 0, none⟩), .int .i64 k] w fun e w' => e = .returned (.tuple #[]) ∧ w' = w.setCell ⟨c, 0, none⟩ (.int .i64 k) := by
  have h0 : w.cell? ⟨c, 0, none⟩ = some (.int .i64 n) := by rw [cell_of_block hc]; rfl
  have f0 : w.frozen? ⟨c, 0, none⟩ = false := free_of_block hc 0
  have hl := run_call_store (P := Tryz.prog) Tryz.func95 (by kernel_rfl) (by kernel_rfl) (by kernel_rfl) (by kernel_rfl) (k := .i64) (y := k) h0 f0
  go_enter Tryz.func69, Tryz.ntmps69
  go_wp2
  go_end0
  exact ⟨rfl, rfl⟩
/- what a counted call does -/
def FsSt.call (s : FsSt) : (Int × Int × Int) × FsSt :=
  if s.left = 0 then ((0, 0, 0), { s with calls := wrap64 (s.calls + 1) })
  else if 0 < wrap64 (s.left - 1) then ((0, 0, 0), { s with calls := wrap64 (s.calls + 1), left := wrap64 (s.left - 1) })
  else ((wrap64 (s.left - 1), s.kind, s.keep), { s with calls := wrap64 (s.calls + 1), left := 0, kind := 0, keep := 0 })
def CallPost (f m c : Nat) (F : Nat → Prop) (w : World) (s : FsSt) (e : Ending) (w' : World) : Prop :=
  e = .returned (.agg #[.int .i64 s.call.1.1, .int .i64 s.call.1.2.1, .int .i64 s.call.1.2.2]) ∧ FsAt w' f m c F s.call.2 ∧ Turns (Own3 f m c) w w'
set_option maxHeartbeats 1000000 in
theorem call_at {w : World} {f m c : Nat} {F : Nat → Prop} {s : FsSt} (h : FsAt w f m c F s) : Calls Tryz.prog 55 #[fsPtr f] w (CallPost f m c F w s) := by
  obtain ⟨n1, n2, n3⟩ := h.ne
  obtain ⟨l1, l2, l3⟩ := h.lt
  have c1 : w.cell? ⟨f, 1, none⟩ = some (.int .i64 s.left) := by rw [cell_of_block h.obj]; rfl
  have c2 : w.cell? ⟨f, 2, none⟩ = some (.int .i64 s.kind) := by rw [cell_of_block h.obj]; rfl
  have c3 : w.cell? ⟨f, 3, none⟩ = some (.int .i64 s.keep) := by rw [cell_of_block h.obj]; rfl
  have c4 : w.cell? ⟨f, 4, none⟩ = some (.pointer (some ⟨c, 0, none⟩)) := by rw [cell_of_block h.obj]; rfl
  have f1 : w.frozen? ⟨f, 1, none⟩ = false := free_of_block h.obj 1
  have f2 : w.frozen? ⟨f, 2, none⟩ = false := free_of_block h.obj 2
  have f3 : w.frozen? ⟨f, 3, none⟩ = false := free_of_block h.obj 3
  have hcnt : ∀ o, (w.alloc o).heap[c]? = some (.cells #[.int .i64 s.calls] 65 (0, 0)) := fun o => (Below.heap_alloc w o c l3).trans h.cnt
  by_cases hl : s.left = 0
  · have e : s.call = ((0, 0, 0), { s with calls := wrap64 (s.calls + 1) }) := by simp [FsSt.call, hl]
    go_enter Tryz.func55, Tryz.ntmps55
    go_wp2_with (go_at_call 82; refine (add_at (hcnt _)).mono ?_; rintro e w' ⟨rfl, rfl⟩)
    refine bodyPost_ret (v := .agg #[.int .i64 0, .int .i64 0, .int .i64 0]) (by simp [results, Tryz.results55, go_sem]) rfl ⟨by rw [e], ?_, ?_⟩
    · rw [e]
      refine h.written ((((Turns.refl _ _).setCell (.inl (.inr rfl)) _).alloc _)) ?_ ?_ rfl
      · rw [get_alloc _ _ (by rw [size_set]; exact l1), get_other _ _ _ n2]; exact h.obj
      · rw [get_alloc _ _ (by rw [size_set]; exact l3), get_self, h.cnt]; rfl
    · exact ((Turns.refl _ _).setCell (.inl (.inr (.inr rfl))) _).alloc _
  · have hl' : (s.left == 0) = false := by simpa using hl
    go_enter Tryz.func55, Tryz.ntmps55
    go_wp2_with (go_at_call 82; refine (add_at (hcnt _)).mono ?_; rintro e w' ⟨rfl, rfl⟩)
    · have hlt : 0 < wrap64 (s.left - 1) := by assumption
      have e : s.call = ((0, 0, 0), { s with calls := wrap64 (s.calls + 1), left := wrap64 (s.left - 1) }) := by simp [FsSt.call, hl, hlt]
      refine bodyPost_ret (v := .agg #[.int .i64 0, .int .i64 0, .int .i64 0]) (by simp [results, Tryz.results55, go_sem]) rfl ⟨by rw [e], ?_, ?_⟩
      · rw [e]
        refine h.written (((((Turns.refl _ _).setCell (.inl (.inr rfl)) _).setCell (.inl (.inl rfl)) _).alloc _)) ?_ ?_ rfl
        · rw [get_alloc _ _ (by rw [size_set, size_set]; exact l1), get_self, get_other _ _ _ n2, h.obj]; rfl
        · rw [get_alloc _ _ (by rw [size_set, size_set]; exact l3), get_other _ _ _ n2.symm, get_self, h.cnt]; rfl
      · exact (((Turns.refl _ _).setCell (.inl (.inr (.inr rfl))) _).setCell (.inl (.inl rfl)) _).alloc _
    · have hlt : ¬ 0 < wrap64 (s.left - 1) := Int.not_lt.2 (by assumption)
      have e : s.call = ((wrap64 (s.left - 1), s.kind, s.keep), { s with calls := wrap64 (s.calls + 1), left := 0, kind := 0, keep := 0 }) := by simp [FsSt.call, hl, hlt]
      refine bodyPost_ret (v := .agg #[.int .i64 (wrap64 (s.left - 1)), .int .i64 s.kind, .int .i64 s.keep]) (by simp [results, Tryz.results55, go_sem]) rfl ⟨by rw [e], ?_, ?_⟩
      · rw [e]
        refine h.written ((((((((Turns.refl _ _).setCell (.inl (.inr rfl)) _).setCell (.inl (.inl rfl)) _).setCell (.inl (.inl rfl)) _).setCell (.inl (.inl rfl)) _).setCell (.inl (.inl rfl)) _).alloc _).alloc _) ?_ ?_ rfl
        · rw [get_alloc _ _ (by rw [size_alloc]; simp only [size_set]; omega), get_alloc _ _ (by simp only [size_set]; omega), get_self, get_self, get_self, get_self, get_other _ _ _ n2, h.obj]; rfl
        · rw [get_alloc _ _ (by rw [size_alloc]; simp only [size_set]; omega), get_alloc _ _ (by simp only [size_set]; omega), get_other _ _ _ n2.symm, get_other _ _ _ n2.symm, get_other _ _ _ n2.symm, get_other _ _ _ n2.symm, get_self, h.cnt]; rfl
      · exact (((((((Turns.refl _ _).setCell (.inl (.inr (.inr rfl))) _).setCell (.inl (.inl rfl)) _).setCell (.inl (.inl rfl)) _).setCell (.inl (.inl rfl)) _).setCell (.inl (.inl rfl)) _).alloc _).alloc _
end Go.Proofs.YtofkdmmoheffbaaGreatDoor
