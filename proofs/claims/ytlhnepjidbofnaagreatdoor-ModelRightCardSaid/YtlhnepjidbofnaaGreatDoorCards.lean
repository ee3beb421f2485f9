/-
  DERIVED. GIVEN WITH THE SEED: THE CARDS: each row of YtlhnepjidbofnaaGreatDoorRows.lean that lists a variable, with what it lists TIED to the program's text (the seventh form; the later family's looks); each row that meets fmt, with fmt's text TOLD by the authors' own Lean function (tested against real Go, not proved from fmt's source: count such statements apart). THE CARD IS WHAT COUNTS. Prove the row's statement (the work); the ties are given (YtlhnepjidbofnaaGreatDoorTie.lean); close each card by the builder's one call (the guide's Derived/Test/ToyasCard.lean, 'card_holds'). Laid BY PROGRAM, IN A SANDBOX (cutbox-door.mjs). By AI agents, Wed Nov 11 2026. No macro, syntax, notation, axiom, sorry.
-/
import Derived.Test.YtlhnepjidbofnaaGreatDoorRows
import GoSem.ClaimSeven
namespace Go.Proofs.YtlhnepjidbofnaaGreatDoor
namespace Rows

/-- THE TIED CARD OF 'sherdlaw49.ModelRight'. -/
def modelRightCard : Claim7 := { stood := { row := modelRightRow, standIns := [], harness := (true, "48c66aa6e03761f743f587c3a19eb6879411ae7bbd0810c1c350b9ebb872f796"), looks := false }, kinds := [], alts := [], laidByText := true, laidKinds := [.data, .pinned, .pinned, .pinned, .pinned, .pinned, .pinned], laidTests := true, laidLooks := .later }
def ModelRightCardSaid : Prop := Claim7.holds Tryz.pinned (.plain (OpenSpec.ofChange modelRightSpec)) modelRightCard

/-- THE SECOND FORM's CARD OF 'sherdlaw49.ModelRight'. -/
def modelRightUptoCard : Claim7 := { stood := { row := modelRightUptoRow, standIns := [], harness := (true, "48c66aa6e03761f743f587c3a19eb6879411ae7bbd0810c1c350b9ebb872f796"), looks := false }, kinds := [], alts := [], laidByText := true, laidKinds := [.data, .pinned, .pinned, .pinned, .pinned, .pinned, .pinned], laidTests := true, laidLooks := .later }
def ModelRightUptoCardSaid : Prop := Claim7.holds Tryz.pinned (.plain (OpenSpec.upto modelRightSpec)) modelRightUptoCard
end Rows
end Go.Proofs.YtlhnepjidbofnaaGreatDoor
