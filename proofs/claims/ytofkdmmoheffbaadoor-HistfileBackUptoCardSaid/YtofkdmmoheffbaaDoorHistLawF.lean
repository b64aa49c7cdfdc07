/- Any lines' bytes: the law. -/
import Derived.Test.YtofkdmmoheffbaaDoorHistV
namespace Go.Proofs.YtofkdmmoheffbaaDoor
open Go Go.RowKit Go.Shelf Go.Lany
set_option maxRecDepth 100000
/-- What Format's first answer reads as. -/
def fmtAns (t : Bool) (l : List HL) : List UInt8 := if checkE l = 0 then formatL t l else []
theorem FmtPost.get {t : Bool} {l : List HL} {w w' : World} {e : Ending} (h : FmtPost t l w e w') : ∃ v, e = .returned (.tuple #[v, .int .i64 (checkE l)]) ∧ Below w.heap.size w w' ∧ Bytes (fun k => w.heap.size ≤ k) w' v (bs (fmtAns t l)) := by
  obtain ⟨v, he, hb, h1, h2⟩ := h
  refine ⟨v, he, hb, ?_⟩
  unfold fmtAns
  by_cases h0 : checkE l = 0
  · rw [if_pos h0]; exact (h1 h0).bytes
  · rw [if_neg h0, h2 h0]; exact bytes_nil _ _
set_option maxHeartbeats 4000000 in
theorem formats_any {F : Nat → Prop} {w : World} (hv : Vars w) {v : Value} {l : List HL} (h : Lines F w v l) (hl : l.length ≤ 1048576) (hs : ∀ x ∈ l, x.1.size ≤ 1048576) (hw : wt l ≤ 1099511627776) (t : Bool) :
    Calls Tryd.prog 3 #[v, .bool t] w (BoolAns true w) := by
  have H := Lib.hid h
  have HS := Lib.hid hs
  have HV := Lib.hid hv
  obtain ⟨a, cap, rfl, -, -⟩ := h.form
  clear h hs hv
  go_enter Tryd.func3, Tryd.ntmps3
  go_wp2_with (first
    | (go_at_call 6; refine (format_at t H.out hl HS.out hw HV.out.ev HV.out.pow).mono ?_; rintro e w1 hp; obtain ⟨v1, rfl, b1, y1⟩ := hp.get; obtain ⟨a1, c1, rfl⟩ := y1.len; have B1' := Lib.hid b1; have Y1 := Lib.hid y1; clear hp b1 y1)
    | (go_at_call 7; refine (formatR_at t (H.out.below B1'.out) hl HS.out hw (HV.out.below B1'.out).pow).mono ?_; rintro e w2 hp; obtain ⟨v2, rfl, b2, y2⟩ := hp.get; obtain ⟨a2, c2, rfl⟩ := y2.len; have B2' := Lib.hid (B1'.out.trans (b2.mono B1'.out.size)); have Y2 := Lib.hid y2; have Y12 := Lib.hid (Y1.out.below b2); clear hp b2 y2)
    | (go_at_call 8; refine (live_at (HV.out.below B2'.out)).mono ?_; rintro e w3 ⟨rfl, b3⟩; have B3' := Lib.hid (B2'.out.trans (b3.mono B2'.out.size)); have heq := equal_at (Y12.out.below b3) (Y2.out.below b3); clear b3)
    | (go_at_call 9; refine heq.mono ?_; rintro e w4 ⟨rfl, rfl⟩; clear heq)
    | (go_at_call 10; refine (check_at (H.out.below B3'.out) hl HS.out (HV.out.below B3'.out).ev).mono ?_; rintro e w5 ⟨rfl, b5⟩; have B5' := Lib.hid (B3'.out.trans (b5.mono B3'.out.size)); clear b5)
    | (go_at_call 11; refine (checkR_at (H.out.below B5'.out) hl HS.out).mono ?_; rintro e w6 ⟨rfl, rfl⟩))
  go_ret
  exact ⟨rfl, B5'.out⟩
end Go.Proofs.YtofkdmmoheffbaaDoor
