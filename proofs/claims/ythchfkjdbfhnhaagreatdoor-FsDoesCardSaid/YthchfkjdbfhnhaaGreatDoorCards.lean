/-
  DERIVED. GIVEN WITH THE SEED: THE CARDS: each row of YthchfkjdbfhnhaaGreatDoorRows.lean that lists a variable, with what it lists TIED to the program's text (the seventh form; the later family's looks); each row that meets fmt, with fmt's text TOLD by the authors' own Lean function (tested against real Go, not proved from fmt's source: count such statements apart). THE CARD IS WHAT COUNTS. Prove the row's statement (the work); the ties are given (YthchfkjdbfhnhaaGreatDoorTie.lean); close each card by the builder's one call (the guide's Derived/Test/ToyasCard.lean, 'card_holds'). Laid BY PROGRAM, IN A SANDBOX (cutbox-door.mjs). By AI agents, Wed Nov 11 2026. No macro, syntax, notation, axiom, sorry.
-/
import Derived.Test.YthchfkjdbfhnhaaGreatDoorRows
import GoSem.ClaimSeven
namespace Go.Proofs.YthchfkjdbfhnhaaGreatDoor
namespace Rows

/-- THE TIED CARD OF 'lanyardlaw02.FsDoes'. -/
def fsDoesCard : Claim7 := { stood := { row := fsDoesRow, standIns := [], harness := (true, "2c3aaf3f38806e1d233029792588dd1b9db0bbe333b8891c0e753275790e2441"), looks := false }, kinds := [], alts := [], laidByText := true, laidKinds := [.data, .pinned], laidTests := true, laidLooks := .later }
def FsDoesCardSaid : Prop := Claim7.holds Tryz.pinned (.plain (OpenSpec.ofChange fsDoesSpec)) fsDoesCard

/-- THE SECOND FORM's CARD OF 'lanyardlaw02.FsDoes'. -/
def fsDoesUptoCard : Claim7 := { stood := { row := fsDoesUptoRow, standIns := [], harness := (true, "2c3aaf3f38806e1d233029792588dd1b9db0bbe333b8891c0e753275790e2441"), looks := false }, kinds := [], alts := [], laidByText := true, laidKinds := [.data, .pinned], laidTests := true, laidLooks := .later }
def FsDoesUptoCardSaid : Prop := Claim7.holds Tryz.pinned (.plain (OpenSpec.upto fsDoesSpec)) fsDoesUptoCard
end Rows
end Go.Proofs.YthchfkjdbfhnhaaGreatDoor
