/-
  DERIVED. GIVEN WITH THE SEED: THE CARDS: each row of YtnhblghplohonaaGreatDoorRows.lean that lists a variable, with what it lists TIED to the program's text (the seventh form; the later family's looks); each row that meets fmt, with fmt's text TOLD by the authors' own Lean function (tested against real Go, not proved from fmt's source: count such statements apart). THE CARD IS WHAT COUNTS. Prove the row's statement (the work); the ties are given (YtnhblghplohonaaGreatDoorTie.lean); close each card by the builder's one call (the guide's Derived/Test/ToyasCard.lean, 'card_holds'). Laid BY PROGRAM, IN A SANDBOX (cutbox-door.mjs). By AI agents, Wed Nov 11 2026. No macro, syntax, notation, axiom, sorry.
-/
import Derived.Test.YtnhblghplohonaaGreatDoorRows
import GoSem.ClaimSeven
namespace Go.Proofs.YtnhblghplohonaaGreatDoor
namespace Rows

/-- THE TIED CARD OF 'cruciblelaw08.AstPrints'. -/
def astPrintsCard : Claim7 := { stood := { row := astPrintsRow, standIns := [], harness := (true, "2b8fe7b151f2bb28b1eacb0e46b36fe413ac77ed3c27fd1a05a32635b20da4a1"), looks := false }, kinds := [], alts := [], laidByText := true, laidKinds := [.data, .data, .data], laidTests := true, laidLooks := .later }
def AstPrintsCardSaid : Prop := Claim7.holds Tryz.pinned (.plain (OpenSpec.ofChange astPrintsSpec)) astPrintsCard

/-- THE TIED CARD OF 'cruciblelaw08.AstPlaces'. -/
def astPlacesCard : Claim7 := { stood := { row := astPlacesRow, standIns := [], harness := (true, "2b8fe7b151f2bb28b1eacb0e46b36fe413ac77ed3c27fd1a05a32635b20da4a1"), looks := false }, kinds := [], alts := [], laidByText := true, laidKinds := [.data, .data, .data], laidTests := true, laidLooks := .later }
def AstPlacesCardSaid : Prop := Claim7.holds Tryz.pinned (.plain (OpenSpec.ofChange astPlacesSpec)) astPlacesCard

/-- THE SECOND FORM's CARD OF 'cruciblelaw08.AstPrints'. -/
def astPrintsUptoCard : Claim7 := { stood := { row := astPrintsUptoRow, standIns := [], harness := (true, "2b8fe7b151f2bb28b1eacb0e46b36fe413ac77ed3c27fd1a05a32635b20da4a1"), looks := false }, kinds := [], alts := [], laidByText := true, laidKinds := [.data, .data, .data], laidTests := true, laidLooks := .later }
def AstPrintsUptoCardSaid : Prop := Claim7.holds Tryz.pinned (.plain (OpenSpec.upto astPrintsSpec)) astPrintsUptoCard

/-- THE SECOND FORM's CARD OF 'cruciblelaw08.AstPlaces'. -/
def astPlacesUptoCard : Claim7 := { stood := { row := astPlacesUptoRow, standIns := [], harness := (true, "2b8fe7b151f2bb28b1eacb0e46b36fe413ac77ed3c27fd1a05a32635b20da4a1"), looks := false }, kinds := [], alts := [], laidByText := true, laidKinds := [.data, .data, .data], laidTests := true, laidLooks := .later }
def AstPlacesUptoCardSaid : Prop := Claim7.holds Tryz.pinned (.plain (OpenSpec.upto astPlacesSpec)) astPlacesUptoCard
end Rows
end Go.Proofs.YtnhblghplohonaaGreatDoor
