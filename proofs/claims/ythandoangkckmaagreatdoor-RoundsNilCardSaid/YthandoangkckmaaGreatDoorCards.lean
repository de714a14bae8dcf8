/-
  DERIVED. GIVEN WITH THE SEED: THE CARDS: each row of YthandoangkckmaaGreatDoorRows.lean that lists a variable, with what it lists TIED to the program's text (the seventh form; the later family's looks); each row that meets fmt, with fmt's text TOLD by the authors' own Lean function (tested against real Go, not proved from fmt's source: count such statements apart). THE CARD IS WHAT COUNTS. Prove the row's statement (the work); the ties are given (YthandoangkckmaaGreatDoorTie.lean); close each card by the builder's one call (the guide's Derived/Test/ToyasCard.lean, 'card_holds'). Laid BY PROGRAM, IN A SANDBOX (cutbox-door.mjs). By AI agents, Wed Nov 11 2026. No macro, syntax, notation, axiom, sorry.
-/
import Derived.Test.YthandoangkckmaaGreatDoorRows
import GoSem.ClaimSeven
namespace Go.Proofs.YthandoangkckmaaGreatDoor
namespace Rows

/-- THE TIED CARD OF 'millpondlaw24.RoundsNil'. -/
def roundsNilCard : Claim7 := { stood := { row := roundsNilRow, standIns := [], harness := (true, "ddd8409aece2d4cf897bc86a22d3f19829718becc52e6caf394308b338ee89f0"), looks := true }, kinds := [], alts := [], laidByText := true, laidKinds := [.data, .pinned], laidTests := true, laidLooks := .later }
def RoundsNilCardSaid : Prop := Claim7.holds Tryz.pinned (.plain (OpenSpec.ofChange roundsNilSpec)) roundsNilCard

/-- THE SECOND FORM's CARD OF 'millpondlaw24.RoundsNil'. -/
def roundsNilUptoCard : Claim7 := { stood := { row := roundsNilUptoRow, standIns := [], harness := (true, "ddd8409aece2d4cf897bc86a22d3f19829718becc52e6caf394308b338ee89f0"), looks := true }, kinds := [], alts := [], laidByText := true, laidKinds := [.data, .pinned], laidTests := true, laidLooks := .later }
def RoundsNilUptoCardSaid : Prop := Claim7.holds Tryz.pinned (.plain (OpenSpec.upto roundsNilSpec)) roundsNilUptoCard
end Rows
end Go.Proofs.YthandoangkckmaaGreatDoor
