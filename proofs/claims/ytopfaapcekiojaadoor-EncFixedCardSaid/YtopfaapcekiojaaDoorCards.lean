/-
  DERIVED. GIVEN WITH THE SEED: THE CARDS: each row of YtopfaapcekiojaaDoorRows.lean that lists a variable, with what it lists TIED to the program's text (the seventh form; the later family's looks); each row that meets fmt, with fmt's text TOLD by the authors' own Lean function (tested against real Go, not proved from fmt's source: count such statements apart). THE CARD IS WHAT COUNTS. Prove the row's statement (the work); the ties are given (YtopfaapcekiojaaDoorTie.lean); close each card by the builder's one call (the guide's Derived/Test/ToyasCard.lean, 'card_holds'). Laid BY PROGRAM, IN A SANDBOX (cutbox-door.mjs). By AI agents, Wed Nov 11 2026. No macro, syntax, notation, axiom, sorry.
-/
import Derived.Test.YtopfaapcekiojaaDoorRows
import GoSem.ClaimSeven
namespace Go.Proofs.YtopfaapcekiojaaDoor
namespace Rows

/-- THE TIED CARD OF 'cooperlaw05.EncFixed'. -/
def encFixedCard : Claim7 := { stood := { row := encFixedRow, standIns := [], harness := (true, "45a8e21f9d92cb1ec21a5bed0c4e623a9136a8a10ad5d4d000e22f4781100ad5"), looks := false }, kinds := [], alts := [], laidByText := true, laidKinds := [.data], laidTests := true, laidLooks := .later }
def EncFixedCardSaid : Prop := Claim7.holds Tryd.pinned (.plain (OpenSpec.ofChange encFixedSpec)) encFixedCard

/-- THE SECOND FORM's CARD OF 'cooperlaw05.EncFixed'. -/
def encFixedUptoCard : Claim7 := { stood := { row := encFixedUptoRow, standIns := [], harness := (true, "45a8e21f9d92cb1ec21a5bed0c4e623a9136a8a10ad5d4d000e22f4781100ad5"), looks := false }, kinds := [], alts := [], laidByText := true, laidKinds := [.data], laidTests := true, laidLooks := .later }
def EncFixedUptoCardSaid : Prop := Claim7.holds Tryd.pinned (.plain (OpenSpec.upto encFixedSpec)) encFixedUptoCard
end Rows
end Go.Proofs.YtopfaapcekiojaaDoor
