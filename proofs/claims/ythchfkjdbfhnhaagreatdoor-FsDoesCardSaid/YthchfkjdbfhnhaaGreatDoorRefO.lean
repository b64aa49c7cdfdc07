/- The law: each answer is the document's. -/
import Derived.Test.YthchfkjdbfhnhaaGreatDoorRefN
namespace Go.Proofs.YthchfkjdbfhnhaaGreatDoor
open Go Go.RowKit Go.Lany
set_option maxRecDepth 100000
theorem sorts_zero : Sorts FsSt.zero [] := ⟨fun _ => rfl, List.Pairwise.nil⟩
theorem start_both {w w1 : World} {f m c : Nat} (h : FsAt w1 f m c (From w.heap.size) FsSt.zero) (t : Below w.heap.size w w1) (hml : 0 < w.heap.size) :
    JA w.heap.size (w1.alloc (.cells #[.slice none 0 0, .int .i64 0, .int .i64 0, .int .i64 0, .int .i64 0, .bool false] 28)) f m c w1.heap.size FsSt.zero (fun k => w.heap.size ≤ k ∧ k < w1.heap.size) (fun k => k = w1.heap.size) := by
  have hs := t.size
  have hb : Below w1.heap.size w1 (w1.alloc (.cells #[.slice none 0 0, .int .i64 0, .int .i64 0, .int .i64 0, .int .i64 0, .bool false] 28)) := (Below.refl _ _).alloc (Nat.le_refl _) _
  refine ⟨(h.mono (fun k hk hf => ⟨hf, hk⟩) (fun e => by have := e.1; omega)).below hb, ⟨.slice none 0 0, 0, 0, [], [], ⟨get_new _ _, World.ownsRow_nil _ _ _ _, fun k e => (by cases e), .nil, sorts_zero, fun e => absurd rfl e, ⟨Int.le_refl 0, by show (0 : Int) ≤ 9223372036854775807; decide⟩, rfl, fun e => by omega⟩⟩, FsSt.Wf.zero, Tree.zero, fun k hk e => by omega, fun k hk => ⟨hk.1, by rw [size_alloc]; omega⟩, fun k e => ⟨by omega, by rw [size_alloc]; omega⟩, hml, by rw [size_alloc]; omega⟩
/-- What else a script's operations are. -/
def More (l : List OpV) : Prop := ∀ o ∈ l, o.path.size ≤ 140737488351232 ∧ o.k ≤ 9223372036854775807
set_option maxHeartbeats 8000000 in
theorem fsDoes_any {w : World} (hml : Ml w) {v : Value} {l : List OpV} (hS : Script w.heap.size w v l) (hl : l.length ≤ 140737488351232) (hM : More l) :
    Calls Tryz.prog 3 #[v] w (BoolPost true w) := by
  obtain ⟨a, cap, rfl⟩ := hS.form
  have hg := hml.lt
  have HS := Lib.hid hS
  have HM := Lib.hid hM
  clear hS hM
  go_enter Tryz.func3, Tryz.ntmps3
  go_wp2_with (first
    | (go_at_call 4; refine (new_at hml).mono ?_; rintro e w1 ⟨f, m, c, rfl, h1, t1⟩; have HJ1 := Lib.hid (start_both h1 t1 hg); have T1 := Lib.hid t1; clear h1 t1)
    | (go_at_call 5; refine (begun_any HJ1.out.p.ml).mono ?_; rintro e w2 ⟨rfl, t2⟩; have HJ2 := Lib.hid (HJ1.out.below t2); have T2 := Lib.hid t2; clear t2))
  have hB2 : Below w.heap.size w w2 := T1.out.trans (((Below.refl _ _).alloc T1.out.size _).trans (T2.out.mono (by rw [size_alloc]; have := T1.out.size; omega)))
  have HB2 := Lib.hid hB2
  have HS2 := Lib.hid (HS.out.below hB2)
  have HQ2 : Hid (Joint w.heap.size w2 f w1.heap.size) := Lib.hid ⟨_, _, _, _, _, HJ2.out⟩
  clear hB2 HS HJ1 HJ2 T1 T2
  go_loopw [3, 19] (fun p i wr => ∃ (f : Nat) (k : Nat), p = fsPtr f ∧ k ≤ l.length ∧ i = .int .i64 k ∧ Joint w.heap.size wr f w1.heap.size ∧ Script w.heap.size wr (.slice a l.length cap) l ∧ Below w.heap.size w wr) (fun _ i _ => l.length - (intOf i).toNat)
  case atStart => exact ⟨f, 0, rfl, Nat.zero_le _, rfl, HQ2.out, HS2.out, HB2.out⟩
  case round =>
    obtain ⟨f, k, rfl, hk, rfl, hJ, hs, hb⟩ := hrel
    have HJ := Lib.hid hJ
    have HS := Lib.hid hs
    have HB := Lib.hid hb
    by_cases hlt : k < l.length
    · obtain ⟨b, off, rfl, -, hc⟩ := hs.op hlt
      obtain ⟨o, ho⟩ : ∃ o, o = l[k] := ⟨_, rfl⟩
      have hol : o ∈ l := by rw [ho]; exact List.getElem_mem _
      obtain ⟨hbb, hbs⟩ := hs.2 o hol
      obtain ⟨hm1, hm2⟩ := HM.out o hol
      rw [← ho] at hc
      have c0 : wr.cell? ⟨b, off + k * 7, none⟩ = some (.int .i64 o.d) := hc 0 _ rfl
      have c1 := hc 1 _ rfl
      have c2 := hc 2 _ rfl
      have c3 := hc 3 _ rfl
      have c4 := hc 4 _ rfl
      have c5 := hc 5 _ rfl
      have c6 := hc 6 _ rfl
      obtain ⟨m', c', s', F', G', J'⟩ := hJ
      have hst := step_at (J'.alloc (opObj o.d o.k o.kind o.keep o.path o.dest o.a o.b.size o.cap)) o.d o.k o.kind o.keep o.path o.dest o.b _ (hbb.below ((Below.refl _ _).alloc (Nat.le_refl _) (opObj o.d o.k o.kind o.keep o.path o.dest o.a o.b.size o.cap))) hbs hm2 hm1
      clear hs hc ho hbb hb J' hol
      go_wp2_with (first
        | (go_at_call 6; refine hst.mono ?_; rintro e w3 ⟨f3, rfl, hJ3, hb3⟩; obtain ⟨m3, c3, s3, F3, G3, J3⟩ := hJ3; have HJ3 := Lib.hid J3; have HB3 := Lib.hid hb3; clear J3 hb3)
        | (go_at_call 7; refine (down_at HJ3.out.p).mono ?_; rintro e w' ⟨rfl, rfl⟩)
        | (go_at_call 8; refine (downRt HJ3.out.q).mono ?_; rintro e w' ⟨rfl, rfl⟩)
        | (go_at_call 9; refine (calls_at HJ3.out.p).mono ?_; rintro e w' ⟨rfl, rfl⟩)
        | (go_at_call 10; refine (callsRt HJ3.out.q).mono ?_; rintro e w' ⟨rfl, rfl⟩))
      have bb : Below w.heap.size wr w3 := ((Below.refl _ _).alloc HB.out.size _).trans HB3.out
      refine ⟨⟨f3, k + 1, rfl, by omega, by go_num, ⟨_, _, _, _, _, HJ3.out⟩, HS.out.kept (S := fun k => w.heap.size ≤ k) ⟨bb.os, bb.tape, bb.output, bb.size, fun j hj hn => bb.block j (by omega)⟩ (fun j hj e => by omega), HB.out.trans bb⟩, by simp [intOf]; omega⟩
    · obtain rfl : k = l.length := by omega
      obtain ⟨m', c', s', F', G', J'⟩ := hJ
      have heq := equal_at J'
      clear hs hb J'
      go_wp2_with (go_at_call 11; refine heq.mono ?_; rintro e w3 ⟨rfl, hb3⟩)
      go_ret
      exact ⟨rfl, HB.out.trans hb3⟩
end Go.Proofs.YthchfkjdbfhnhaaGreatDoor
