/- The law's own beginning: a file is kept in its directory. -/
import Derived.Test.YthchfkjdbfhnhaaGreatDoorList
import Derived.Test.YthchfkjdbfhnhaaGreatDoorFsF
import Derived.Lib.SlBytesConst
namespace Go.Proofs.YthchfkjdbfhnhaaGreatDoor
open Go Go.RowKit Go.Lany
set_option maxRecDepth 100000
def pAB : ByteArray := ⟨#[47, 97, 47, 98]⟩
def bXY : ByteArray := ⟨#[120, 121]⟩
def sA : FsSt := (FsSt.zero.write pAB ByteArray.empty bXY).2
def sB : FsSt := (sA.read pAB).2.2
def sC : FsSt := (sB.list slash).2.2
theorem wA : FsSt.zero.write pAB ByteArray.empty bXY = (0, sA) := by
  rw [show FsSt.zero.write pAB ByteArray.empty bXY = ((FsSt.zero.write pAB ByteArray.empty bXY).1, (FsSt.zero.write pAB ByteArray.empty bXY).2) from rfl, show (FsSt.zero.write pAB ByteArray.empty bXY).1 = 0 by kernel_rfl]; rfl
theorem rB : sA.read pAB = (bXY, 0, sB) := by
  rw [show sA.read pAB = ((sA.read pAB).1, (sA.read pAB).2.1, (sA.read pAB).2.2) from rfl, show (sA.read pAB).2.1 = 0 by kernel_rfl, show (sA.read pAB).1 = bXY by kernel_rfl]; rfl
theorem fB : akeys sB.files = [pAB] := by kernel_rfl
theorem lC : sB.list slash = ([⟨#[97, 47]⟩], 0, sC) := by
  have h1 : (sB.list slash).2.1 = 0 := by kernel_rfl
  have h2 : (sB.list slash).1 = listOf (akeys sB.after.files) (dirOf slash) := by
    unfold FsSt.list
    rw [if_pos (show looksE sB [] = 0 by kernel_rfl), if_neg (by rw [show badDir slash = false by kernel_rfl]; decide), if_pos (show ansOf sB.call.1.2.1 = 0 by kernel_rfl), if_neg (by rw [show isFile sB.after slash = false by kernel_rfl]; decide), if_pos (show dirB (akeys sB.after.files) slash ⟨#[]⟩ = true by kernel_rfl)]
  have h3 : listOf (akeys sB.after.files) (dirOf slash) = [⟨#[97, 47]⟩] := by
    unfold listOf
    rw [show uniq (((akeys sB.after.files).filter (inDir (dirOf slash))).map (nameOf (dirOf slash))) = [⟨#[97, 47]⟩] by kernel_rfl]
    simp [rise, ofL]
  rw [show sB.list slash = ((sB.list slash).1, (sB.list slash).2.1, (sB.list slash).2.2) from rfl, h1, h2, h3]; rfl
theorem cC : sC.calls = 3 := by kernel_rfl
theorem xy_at (w : World) : Bytes (fun _ => True) (w.alloc (.cells #[.int .u8 120, .int .u8 121] 5 (2, 3))) (.slice (some ⟨w.heap.size, 0, none⟩) 2 2) bXY :=
  .inr ⟨w.heap.size, 0, none, 2, by decide, rfl, .inr ⟨rfl, trivial, _, _, (2, 3), get_new w _, fun i hi => by
    have hi' : i < 2 := hi
    rcases i with _ | _ | i
    · rfl
    · rfl
    · omega⟩⟩
theorem fB_sizes : ∀ k ∈ akeys sB.files, k.size ≤ 1024 := by
  intro k hk
  rw [fB, List.mem_singleton] at hk
  subst hk
  decide
theorem fB_len : sB.files.length ≤ 4096 := by rw [show sB.files.length = 1 by kernel_rfl]; decide
theorem ab_size : ∀ b, aget sA.files pAB = some b → b.size ≤ 140737488355328 := by
  intro b hb
  rw [show aget sA.files pAB = some bXY by kernel_rfl] at hb
  cases hb
  decide
theorem one_str {F : Nat → Prop} {w : World} {v : Value} {x : ByteArray} (h : Strs F w v [x]) : ∃ b cap, v = .slice (some ⟨b, 0, none⟩) 1 cap ∧ w.cell? ⟨b, 0, none⟩ = some (.string x) := by
  rcases h with ⟨_, h⟩ | ⟨b, cap, cells, rfl, _, h3, h4⟩
  · cases h
  · exact ⟨b, cap, rfl, by rw [cell_of_block h3]; exact h4 0 x rfl⟩
set_option maxHeartbeats 2000000 in
theorem begun_any {w : World} (hml : Ml w) : Calls Tryz.prog 5 #[] w (BoolPost true w) := by
  have kc := fun (w : World) (C : Array Value) (n c : Nat) => Lib.run_convert_bytes_const (P := Tryz.prog) w 30 5 C n c (by kernel_rfl) (by kernel_rfl)
  go_enter Tryz.func5, Tryz.ntmps5
  go_wp2_with (first
    | (go_at_call 4; refine (new_at hml).mono ?_; rintro e w1 ⟨f, m, c, rfl, h1, b1⟩; have B1 := Lib.hid b1; have h1' := h1.below ((Below.refl _ _).alloc (Nat.le_refl _) (.cells #[.int .u8 120, .int .u8 121] 5 (2, 3))))
    | (go_at_call 12; refine (Write_at h1' pAB _ bXY (xy_at w1) (by decide) (by decide)).mono ?_; rw [wA]; rintro e w2 ⟨rfl, h2, t2⟩; have T2 := Lib.hid t2; clear t2)
    | (go_at_call 13; refine (read_at h2 pAB ab_size).mono ?_; rw [rB]; rintro e w3 ⟨v3, rfl, hv3, h3, t3⟩; have T3 := Lib.hid t3; have V3 := Lib.hid hv3; clear t3)
    | (go_at_call 14; go_loud (refine (list_at h3 slash fB_sizes fB_len).mono ?_; rw [lC]; rintro e w4 ⟨v4, rfl, hv4, h4, t4⟩; have T4 := Lib.hid t4; have hst := str_of_bytes (hv3.kept3 h3 t4); obtain ⟨b4, k4, rfl, hc4⟩ := one_str hv4; clear t4 hv4 hv3))
    | (go_at_call 9; refine (calls_at h4).mono ?_; rw [cC]; rintro e w' ⟨rfl, rfl⟩))
  all_goals first
    | (exfalso; exact absurd (show bXY.toList = [120, 121] by kernel_rfl) (by assumption))
    | skip
  all_goals (go_ret)
  have hs : ∀ i, i < w.heap.size → ¬ Own3 f m c i := fun i hi ho => by
    have h := h1.inF
    unfold Own3 at ho
    unfold From at h
    omega
  have b1 := B1.out.alloc B1.out.size (.cells #[.int .u8 120, .int .u8 121] 5 (2, 3))
  have b2 := Turns.below_then b1 T2.out b1.size hs
  have b3 := Turns.below_then b2 T3.out b2.size hs
  exact ⟨rfl, Turns.below_then b3 T4.out b3.size hs⟩
end Go.Proofs.YthchfkjdbfhnhaaGreatDoor
