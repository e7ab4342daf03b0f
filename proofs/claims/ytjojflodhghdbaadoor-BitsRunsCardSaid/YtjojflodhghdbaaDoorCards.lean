/-
  DERIVED. GIVEN WITH THE SEED: THE CARDS: each row of YtjojflodhghdbaaDoorRows.lean that lists a variable, with what it lists TIED to the program's text (the seventh form; the later family's looks); each row that meets fmt, with fmt's text TOLD by the authors' own Lean function (tested against real Go, not proved from fmt's source: count such statements apart). THE CARD IS WHAT COUNTS. Prove the row's statement (the work); the ties are given (YtjojflodhghdbaaDoorTie.lean); close each card by the builder's one call (the guide's Derived/Test/ToyasCard.lean, 'card_holds'). Laid BY PROGRAM, IN A SANDBOX (cutbox-door.mjs). By AI agents, Wed Nov 11 2026. No macro, syntax, notation, axiom, sorry.
-/
import Derived.Test.YtjojflodhghdbaaDoorRows
import GoSem.ClaimSeven
namespace Go.Proofs.YtjojflodhghdbaaDoor
namespace Rows

/-- THE TIED CARD OF 'cooperlaw01.BitsSigns'. -/
def bitsSignsCard : Claim7 := { stood := { row := bitsSignsRow, standIns := [], harness := (true, "7cb2dae50fd3d60dcd1b39a9a50d218896f1444e85664b0a26e1bf4f9c64bc2c"), looks := false }, kinds := [], alts := [], laidByText := true, laidKinds := [.data], laidTests := true, laidLooks := .later }
def BitsSignsCardSaid : Prop := Claim7.holds Tryd.pinned (.plain (OpenSpec.ofChange bitsSignsSpec)) bitsSignsCard

/-- THE TIED CARD OF 'cooperlaw01.BitsRuns'. -/
def bitsRunsCard : Claim7 := { stood := { row := bitsRunsRow, standIns := [], harness := (true, "7cb2dae50fd3d60dcd1b39a9a50d218896f1444e85664b0a26e1bf4f9c64bc2c"), looks := false }, kinds := [], alts := [], laidByText := true, laidKinds := [.data], laidTests := true, laidLooks := .later }
def BitsRunsCardSaid : Prop := Claim7.holds Tryd.pinned (.plain (OpenSpec.ofChange bitsRunsSpec)) bitsRunsCard

/-- THE SECOND FORM's CARD OF 'cooperlaw01.BitsSigns'. -/
def bitsSignsUptoCard : Claim7 := { stood := { row := bitsSignsUptoRow, standIns := [], harness := (true, "7cb2dae50fd3d60dcd1b39a9a50d218896f1444e85664b0a26e1bf4f9c64bc2c"), looks := false }, kinds := [], alts := [], laidByText := true, laidKinds := [.data], laidTests := true, laidLooks := .later }
def BitsSignsUptoCardSaid : Prop := Claim7.holds Tryd.pinned (.plain (OpenSpec.upto bitsSignsSpec)) bitsSignsUptoCard

/-- THE SECOND FORM's CARD OF 'cooperlaw01.BitsRuns'. -/
def bitsRunsUptoCard : Claim7 := { stood := { row := bitsRunsUptoRow, standIns := [], harness := (true, "7cb2dae50fd3d60dcd1b39a9a50d218896f1444e85664b0a26e1bf4f9c64bc2c"), looks := false }, kinds := [], alts := [], laidByText := true, laidKinds := [.data], laidTests := true, laidLooks := .later }
def BitsRunsUptoCardSaid : Prop := Claim7.holds Tryd.pinned (.plain (OpenSpec.upto bitsRunsSpec)) bitsRunsUptoCard
end Rows
end Go.Proofs.YtjojflodhghdbaaDoor
