/-
  DERIVED. GIVEN WITH THE SEED: THE CARDS: each row of YtofkdmmoheffbaaDoorRows.lean that lists a variable, with what it lists TIED to the program's text (the seventh form; the later family's looks); each row that meets fmt, with fmt's text TOLD by the authors' own Lean function (tested against real Go, not proved from fmt's source: count such statements apart). THE CARD IS WHAT COUNTS. Prove the row's statement (the work); the ties are given (YtofkdmmoheffbaaDoorTie.lean); close each card by the builder's one call (the guide's Derived/Test/ToyasCard.lean, 'card_holds'). Laid BY PROGRAM, IN A SANDBOX (cutbox-door.mjs). By AI agents, Wed Nov 11 2026. No macro, syntax, notation, axiom, sorry.
-/
import Derived.Test.YtofkdmmoheffbaaDoorRows
import GoSem.ClaimSeven
namespace Go.Proofs.YtofkdmmoheffbaaDoor
namespace Rows

/-- THE TIED CARD OF 'lanyardlaw11.HistfileFormats'. -/
def histfileFormatsCard : Claim7 := { stood := { row := histfileFormatsRow, standIns := [], harness := (true, "d76ba7ee3854524613f4b300475a1e8c07031ad5c948ecbf3a76f5e92bd428b2"), looks := true }, kinds := [], alts := [], laidByText := true, laidKinds := [.data, .data, .data, .data, .sentinel, .sentinel, .pinned], laidTests := true, laidLooks := .later }
def HistfileFormatsCardSaid : Prop := Claim7.holds Tryd.pinned (.plain (OpenSpec.ofChange histfileFormatsSpec)) histfileFormatsCard

/-- THE TIED CARD OF 'lanyardlaw11.HistfileBack'. -/
def histfileBackCard : Claim7 := { stood := { row := histfileBackRow, standIns := [], harness := (true, "d76ba7ee3854524613f4b300475a1e8c07031ad5c948ecbf3a76f5e92bd428b2"), looks := true }, kinds := [], alts := [], laidByText := true, laidKinds := [.data, .data, .data, .data, .sentinel, .sentinel, .pinned], laidTests := true, laidLooks := .later }
def HistfileBackCardSaid : Prop := Claim7.holds Tryd.pinned (.plain (OpenSpec.ofChange histfileBackSpec)) histfileBackCard

/-- THE TIED CARD OF 'lanyardlaw11.HistfileParses'. -/
def histfileParsesCard : Claim7 := { stood := { row := histfileParsesRow, standIns := [], harness := (true, "d76ba7ee3854524613f4b300475a1e8c07031ad5c948ecbf3a76f5e92bd428b2"), looks := true }, kinds := [], alts := [], laidByText := true, laidKinds := [.data, .data, .data, .data, .sentinel, .sentinel, .pinned], laidTests := true, laidLooks := .later }
def HistfileParsesCardSaid : Prop := Claim7.holds Tryd.pinned (.plain (OpenSpec.ofChange histfileParsesSpec)) histfileParsesCard

/-- THE SECOND FORM's CARD OF 'lanyardlaw11.HistfileFormats'. -/
def histfileFormatsUptoCard : Claim7 := { stood := { row := histfileFormatsUptoRow, standIns := [], harness := (true, "d76ba7ee3854524613f4b300475a1e8c07031ad5c948ecbf3a76f5e92bd428b2"), looks := true }, kinds := [], alts := [], laidByText := true, laidKinds := [.data, .data, .data, .data, .sentinel, .sentinel, .pinned], laidTests := true, laidLooks := .later }
def HistfileFormatsUptoCardSaid : Prop := Claim7.holds Tryd.pinned (.plain (OpenSpec.upto histfileFormatsSpec)) histfileFormatsUptoCard

/-- THE SECOND FORM's CARD OF 'lanyardlaw11.HistfileBack'. -/
def histfileBackUptoCard : Claim7 := { stood := { row := histfileBackUptoRow, standIns := [], harness := (true, "d76ba7ee3854524613f4b300475a1e8c07031ad5c948ecbf3a76f5e92bd428b2"), looks := true }, kinds := [], alts := [], laidByText := true, laidKinds := [.data, .data, .data, .data, .sentinel, .sentinel, .pinned], laidTests := true, laidLooks := .later }
def HistfileBackUptoCardSaid : Prop := Claim7.holds Tryd.pinned (.plain (OpenSpec.upto histfileBackSpec)) histfileBackUptoCard

/-- THE SECOND FORM's CARD OF 'lanyardlaw11.HistfileParses'. -/
def histfileParsesUptoCard : Claim7 := { stood := { row := histfileParsesUptoRow, standIns := [], harness := (true, "d76ba7ee3854524613f4b300475a1e8c07031ad5c948ecbf3a76f5e92bd428b2"), looks := true }, kinds := [], alts := [], laidByText := true, laidKinds := [.data, .data, .data, .data, .sentinel, .sentinel, .pinned], laidTests := true, laidLooks := .later }
def HistfileParsesUptoCardSaid : Prop := Claim7.holds Tryd.pinned (.plain (OpenSpec.upto histfileParsesSpec)) histfileParsesUptoCard
end Rows
end Go.Proofs.YtofkdmmoheffbaaDoor
