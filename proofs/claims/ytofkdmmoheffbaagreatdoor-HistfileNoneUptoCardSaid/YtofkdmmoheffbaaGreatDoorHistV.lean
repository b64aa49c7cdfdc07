/- An answer that the document fixes. -/
import Derived.Test.YtofkdmmoheffbaaGreatDoorHistU
import Derived.Lib.SlBytesConst
namespace Go.Proofs.YtofkdmmoheffbaaGreatDoor
open Go Go.RowKit Go.Shelf Go.Lany
set_option maxRecDepth 100000
def lineLs : List HL := [(⟨#[108, 115]⟩, 100)]
def textFive : ByteArray := ⟨#[35, 53, 10, 97, 10, 98, 10]⟩
theorem lineLs_ok : checkE lineLs = 0 := by kernel_rfl
theorem lineLs_text : formatL true lineLs = [35, 49, 48, 48, 10, 108, 115, 10] := by kernel_rfl
theorem textFive_lines : parseL textFive.data.toList = [(⟨#[97]⟩, 5), (⟨#[98]⟩, 0)] := by kernel_rfl
/-- What the library's variables hold. -/
structure Vars (w : World) : Prop where
  ev : EvS w
  pow : Pow w
theorem Vars.below {w w' : World} (h : Vars w) (t : Below w.heap.size w w') : Vars w' := ⟨h.ev.below t, h.pow.below t⟩
theorem five_cells : ∀ i (hi : i < textFive.size), (#[.int .u8 35, .int .u8 53, .int .u8 10, .int .u8 97, .int .u8 10, .int .u8 98, .int .u8 10] : Array Value)[i]? = some (.int .u8 (textFive[i].toNat : Int)) := by
  intro i hi
  have h7 : i < 7 := hi
  rcases i with _ | _ | _ | _ | _ | _ | _ | i
  all_goals first | rfl | omega
def BoolAns (b : Bool) (w : World) (e : Ending) (w' : World) : Prop := e = .returned (.bool b) ∧ Below w.heap.size w w'
theorem bytes_lit {w : World} {C : Array Value} {fr : Nat × Nat} {s : ByteArray} (h : ∀ i (hi : i < s.size), C[i]? = some (.int .u8 (s[i].toNat : Int))) : Bytes (fun k => k < w.heap.size + 1) (w.alloc (.cells C 5 fr)) (.slice (some ⟨w.heap.size, 0, none⟩) s.size s.size) s :=
  .inr ⟨w.heap.size, 0, none, s.size, Nat.le_refl _, rfl, .inr ⟨rfl, Nat.lt_succ_self _, C, _, fr, get_new _ _, fun i hi => by rw [Nat.zero_add]; exact h i hi⟩⟩
set_option maxHeartbeats 4000000 in
theorem live_at {w : World} (hv : Vars w) : Calls Tryz.prog 9 #[] w (BoolAns true w) := by
  have hv1 := hv.below ((Below.refl _ _).alloc (Nat.le_refl _) (.cells #[.string ⟨#[108, 115]⟩, .int .i64 100] 29))
  have hli : Lines (fun _ => True) (w.alloc (.cells #[.string ⟨#[108, 115]⟩, .int .i64 100] 29)) (.slice (some ⟨w.heap.size, 0, none⟩) 1 1) lineLs := by
    refine .inr ⟨w.heap.size, 0, none, 1, Nat.le_refl _, rfl, .inr ⟨rfl, trivial, _, _, _, get_new _ _, fun i x hx => ?_⟩⟩
    rcases i with _ | i
    · have : x = (⟨#[108, 115]⟩, 100) := by simpa [lineLs] using hx.symm
      subst this
      exact ⟨rfl, rfl⟩
    · simp [lineLs] at hx
  have hf := format_at true hli (by decide) (by intro x hx; simp [lineLs] at hx; subst hx; decide) (by decide) hv1.ev hv1.pow
  have hb1 : Below w.heap.size w (w.alloc (.cells #[.string ⟨#[108, 115]⟩, .int .i64 100] 29)) := (Below.refl _ _).alloc (Nat.le_refl _) _
  have HB1 := Lib.hid hb1
  have HV := Lib.hid hv
  clear hv hv1 hli hb1
  go_enter Tryz.func9, Tryz.ntmps9
  have kc := fun (w : World) (C : Array Value) (n c : Nat) => Lib.run_convert_bytes_const (P := Tryz.prog) w 37 5 C n c (by kernel_rfl) (by kernel_rfl)
  go_wp2_with (first
    | (go_at_call 24; refine hf.mono ?_; rintro e w2 ⟨v2, rfl, hb2, ho2, -⟩; rw [lineLs_ok]; have h2 := ho2 lineLs_ok; rw [lineLs_text] at h2; obtain ⟨a2, c2, rfl⟩ := h2.form; have hb2' := HB1.out.trans (hb2.mono HB1.out.size); have HB2 := Lib.hid hb2'; have H2 := Lib.hid h2; clear ho2 h2 hb2 hb2' hf)
    | (go_at_call 25; go_must (have hby := bytes_lit (w := w2) (C := #[.int .u8 35, .int .u8 53, .int .u8 10, .int .u8 97, .int .u8 10, .int .u8 98, .int .u8 10]) (fr := (7, 8)) (s := textFive) five_cells; refine (parse_at (s := textFive) (hby.mono fun k hk _ => hk) (by decide) (HV.out.ev.below (B1 HB2.out))).mono ?_; rw [textFive_lines]; rintro e w3 ⟨v3, rfl, h3, hb3⟩; obtain ⟨a3, c3, rfl⟩ := h3.form; have HB3 := Lib.hid ((B1 HB2.out).trans (hb3.mono (B1 HB2.out).size)); have H23 := Lib.hid ((H2.out.alloc (.cells #[.int .u8 35, .int .u8 53, .int .u8 10, .int .u8 97, .int .u8 10, .int .u8 98, .int .u8 10] 5 (7, 8))).below hb3); have hcv : (convert 37 9 (.slice a2 8 c2)).run Tryz.prog w3 = .ok (.string ⟨#[35, 49, 48, 48, 10, 108, 115, 10]⟩) w3 := str_of_bytes H23.out.bytes; obtain ⟨x, y, e1, -, z1⟩ := h3.lines.form; cases e1; obtain ⟨b3, o3, rfl, -, p0, p1⟩ := z1 0 _ rfl; obtain ⟨b3', o3', e3, -, q0, q1⟩ := z1 1 _ rfl; cases e3; simp only [Nat.zero_mul, Nat.one_mul, Nat.add_zero] at p0 p1 q0 q1; clear hb3 hby h3 z1)))
  go_ret
  exact ⟨rfl, HB3.out⟩
end Go.Proofs.YtofkdmmoheffbaaGreatDoor
