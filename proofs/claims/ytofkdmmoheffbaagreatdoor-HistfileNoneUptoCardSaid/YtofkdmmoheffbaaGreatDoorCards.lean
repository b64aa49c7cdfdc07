/-
  DERIVED. GIVEN WITH THE SEED: THE CARDS: each row of YtofkdmmoheffbaaGreatDoorRows.lean that lists a variable, with what it lists TIED to the program's text (the seventh form; the later family's looks); each row that meets fmt, with fmt's text TOLD by the authors' own Lean function (tested against real Go, not proved from fmt's source: count such statements apart). THE CARD IS WHAT COUNTS. Prove the row's statement (the work); the ties are given (YtofkdmmoheffbaaGreatDoorTie.lean); close each card by the builder's one call (the guide's Derived/Test/ToyasCard.lean, 'card_holds'). Laid BY PROGRAM, IN A SANDBOX (cutbox-door.mjs). By AI agents, Wed Nov 11 2026. No macro, syntax, notation, axiom, sorry.
-/
import Derived.Test.YtofkdmmoheffbaaGreatDoorRows
import GoSem.ClaimSeven
namespace Go.Proofs.YtofkdmmoheffbaaGreatDoor
namespace Rows

/-- THE TIED CARD OF 'lanyardlaw11.HistfileGoes'. -/
def histfileGoesCard : Claim7 := { stood := { row := histfileGoesRow, standIns := [], harness := (true, "9385fda53c4c4c4a17a5d43c6889ce99bebf7abff0119b10d09431795457c66f"), looks := true }, kinds := [], alts := [], laidByText := true, laidKinds := [.data, .data, .data, .data, .sentinel, .sentinel, .pinned], laidTests := true, laidLooks := .later }
def HistfileGoesCardSaid : Prop := Claim7.holds Tryz.pinned (.plain (OpenSpec.ofChange histfileGoesSpec)) histfileGoesCard

/-- THE TIED CARD OF 'lanyardlaw11.HistfileAppends'. -/
def histfileAppendsCard : Claim7 := { stood := { row := histfileAppendsRow, standIns := [], harness := (true, "9385fda53c4c4c4a17a5d43c6889ce99bebf7abff0119b10d09431795457c66f"), looks := true }, kinds := [], alts := [], laidByText := true, laidKinds := [.data, .data, .data, .data, .sentinel, .sentinel, .pinned], laidTests := true, laidLooks := .later }
def HistfileAppendsCardSaid : Prop := Claim7.holds Tryz.pinned (.plain (OpenSpec.ofChange histfileAppendsSpec)) histfileAppendsCard

/-- THE TIED CARD OF 'lanyardlaw11.HistfileNone'. -/
def histfileNoneCard : Claim7 := { stood := { row := histfileNoneRow, standIns := [], harness := (true, "9385fda53c4c4c4a17a5d43c6889ce99bebf7abff0119b10d09431795457c66f"), looks := true }, kinds := [], alts := [], laidByText := true, laidKinds := [.data, .data, .data, .data, .sentinel, .sentinel, .pinned], laidTests := true, laidLooks := .later }
def HistfileNoneCardSaid : Prop := Claim7.holds Tryz.pinned (.plain (OpenSpec.ofChange histfileNoneSpec)) histfileNoneCard

/-- THE TIED CARD OF 'lanyardlaw11.HistfileCrash'. -/
def histfileCrashCard : Claim7 := { stood := { row := histfileCrashRow, standIns := [], harness := (true, "9385fda53c4c4c4a17a5d43c6889ce99bebf7abff0119b10d09431795457c66f"), looks := true }, kinds := [], alts := [], laidByText := true, laidKinds := [.data, .data, .data, .data, .sentinel, .sentinel, .pinned], laidTests := true, laidLooks := .later }
def HistfileCrashCardSaid : Prop := Claim7.holds Tryz.pinned (.plain (OpenSpec.ofChange histfileCrashSpec)) histfileCrashCard

/-- THE TIED CARD OF 'lanyardlaw11.HistfileDoes'. -/
def histfileDoesCard : Claim7 := { stood := { row := histfileDoesRow, standIns := [], harness := (true, "9385fda53c4c4c4a17a5d43c6889ce99bebf7abff0119b10d09431795457c66f"), looks := true }, kinds := [], alts := [], laidByText := true, laidKinds := [.data, .data, .data, .data, .sentinel, .sentinel, .pinned], laidTests := true, laidLooks := .later }
def HistfileDoesCardSaid : Prop := Claim7.holds Tryz.pinned (.plain (OpenSpec.ofChange histfileDoesSpec)) histfileDoesCard

/-- THE SECOND FORM's CARD OF 'lanyardlaw11.HistfileGoes'. -/
def histfileGoesUptoCard : Claim7 := { stood := { row := histfileGoesUptoRow, standIns := [], harness := (true, "9385fda53c4c4c4a17a5d43c6889ce99bebf7abff0119b10d09431795457c66f"), looks := true }, kinds := [], alts := [], laidByText := true, laidKinds := [.data, .data, .data, .data, .sentinel, .sentinel, .pinned], laidTests := true, laidLooks := .later }
def HistfileGoesUptoCardSaid : Prop := Claim7.holds Tryz.pinned (.plain (OpenSpec.upto histfileGoesSpec)) histfileGoesUptoCard

/-- THE SECOND FORM's CARD OF 'lanyardlaw11.HistfileAppends'. -/
def histfileAppendsUptoCard : Claim7 := { stood := { row := histfileAppendsUptoRow, standIns := [], harness := (true, "9385fda53c4c4c4a17a5d43c6889ce99bebf7abff0119b10d09431795457c66f"), looks := true }, kinds := [], alts := [], laidByText := true, laidKinds := [.data, .data, .data, .data, .sentinel, .sentinel, .pinned], laidTests := true, laidLooks := .later }
def HistfileAppendsUptoCardSaid : Prop := Claim7.holds Tryz.pinned (.plain (OpenSpec.upto histfileAppendsSpec)) histfileAppendsUptoCard

/-- THE SECOND FORM's CARD OF 'lanyardlaw11.HistfileNone'. -/
def histfileNoneUptoCard : Claim7 := { stood := { row := histfileNoneUptoRow, standIns := [], harness := (true, "9385fda53c4c4c4a17a5d43c6889ce99bebf7abff0119b10d09431795457c66f"), looks := true }, kinds := [], alts := [], laidByText := true, laidKinds := [.data, .data, .data, .data, .sentinel, .sentinel, .pinned], laidTests := true, laidLooks := .later }
def HistfileNoneUptoCardSaid : Prop := Claim7.holds Tryz.pinned (.plain (OpenSpec.upto histfileNoneSpec)) histfileNoneUptoCard

/-- THE SECOND FORM's CARD OF 'lanyardlaw11.HistfileCrash'. -/
def histfileCrashUptoCard : Claim7 := { stood := { row := histfileCrashUptoRow, standIns := [], harness := (true, "9385fda53c4c4c4a17a5d43c6889ce99bebf7abff0119b10d09431795457c66f"), looks := true }, kinds := [], alts := [], laidByText := true, laidKinds := [.data, .data, .data, .data, .sentinel, .sentinel, .pinned], laidTests := true, laidLooks := .later }
def HistfileCrashUptoCardSaid : Prop := Claim7.holds Tryz.pinned (.plain (OpenSpec.upto histfileCrashSpec)) histfileCrashUptoCard

/-- THE SECOND FORM's CARD OF 'lanyardlaw11.HistfileDoes'. -/
def histfileDoesUptoCard : Claim7 := { stood := { row := histfileDoesUptoRow, standIns := [], harness := (true, "9385fda53c4c4c4a17a5d43c6889ce99bebf7abff0119b10d09431795457c66f"), looks := true }, kinds := [], alts := [], laidByText := true, laidKinds := [.data, .data, .data, .data, .sentinel, .sentinel, .pinned], laidTests := true, laidLooks := .later }
def HistfileDoesUptoCardSaid : Prop := Claim7.holds Tryz.pinned (.plain (OpenSpec.upto histfileDoesSpec)) histfileDoesUptoCard
end Rows
end Go.Proofs.YtofkdmmoheffbaaGreatDoor
