/-
  DERIVED. GIVEN WITH THE SEED: THE CARDS: each row of YtopfaapcekiojaaGreatDoorRows.lean that lists a variable, with what it lists TIED to the program's text (the seventh form; the later family's looks); each row that meets fmt, with fmt's text TOLD by the authors' own Lean function (tested against real Go, not proved from fmt's source: count such statements apart). THE CARD IS WHAT COUNTS. Prove the row's statement (the work); the ties are given (YtopfaapcekiojaaGreatDoorTie.lean); close each card by the builder's one call (the guide's Derived/Test/ToyasCard.lean, 'card_holds'). Laid BY PROGRAM, IN A SANDBOX (cutbox-door.mjs). By AI agents, Wed Nov 11 2026. No macro, syntax, notation, axiom, sorry.
-/
import Derived.Test.YtopfaapcekiojaaGreatDoorRows
import GoSem.ClaimSeven
namespace Go.Proofs.YtopfaapcekiojaaGreatDoor
namespace Rows

/-- THE TIED CARD OF 'cooperlaw05.EncClasses'. -/
def encClassesCard : Claim7 := { stood := { row := encClassesRow, standIns := [], harness := (true, "1fdfbb34a76d731c83d29c20b8b9fce4aff3c4ff3fcb2b27cdebd4f52ce5e0f5"), looks := false }, kinds := [], alts := [], laidByText := true, laidKinds := [.data], laidTests := true, laidLooks := .later }
def EncClassesCardSaid : Prop := Claim7.holds Tryz.pinned (.plain (OpenSpec.ofChange encClassesSpec)) encClassesCard

/-- THE SECOND FORM's CARD OF 'cooperlaw05.EncClasses'. -/
def encClassesUptoCard : Claim7 := { stood := { row := encClassesUptoRow, standIns := [], harness := (true, "1fdfbb34a76d731c83d29c20b8b9fce4aff3c4ff3fcb2b27cdebd4f52ce5e0f5"), looks := false }, kinds := [], alts := [], laidByText := true, laidKinds := [.data], laidTests := true, laidLooks := .later }
def EncClassesUptoCardSaid : Prop := Claim7.holds Tryz.pinned (.plain (OpenSpec.upto encClassesSpec)) encClassesUptoCard
end Rows
end Go.Proofs.YtopfaapcekiojaaGreatDoor
