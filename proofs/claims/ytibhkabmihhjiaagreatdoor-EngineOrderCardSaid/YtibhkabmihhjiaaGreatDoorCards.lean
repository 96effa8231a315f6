/-
  DERIVED. GIVEN WITH THE SEED: THE CARDS: each row of YtibhkabmihhjiaaGreatDoorRows.lean that lists a variable, with what it lists TIED to the program's text (the seventh form; the later family's looks); each row that meets fmt, with fmt's text TOLD by the authors' own Lean function (tested against real Go, not proved from fmt's source: count such statements apart). THE CARD IS WHAT COUNTS. Prove the row's statement (the work); the ties are given (YtibhkabmihhjiaaGreatDoorTie.lean); close each card by the builder's one call (the guide's Derived/Test/ToyasCard.lean, 'card_holds'). Laid BY PROGRAM, IN A SANDBOX (cutbox-door.mjs). By AI agents, Wed Nov 11 2026. No macro, syntax, notation, axiom, sorry.
-/
import Derived.Test.YtibhkabmihhjiaaGreatDoorRows
import GoSem.ClaimSeven
namespace Go.Proofs.YtibhkabmihhjiaaGreatDoor
namespace Rows

/-- THE TIED CARD OF 'tansylaw27.EngineOrder'. -/
def engineOrderCard : Claim7 := { stood := { row := engineOrderRow, standIns := [], harness := (true, "9c50943525e927d38ab35c4922a98bd204cd2d0a50495f7500504b3a029d8dc3"), looks := true }, kinds := [], alts := [], laidByText := true, laidKinds := [.data, .data, .data, .sentinel, .sentinel], laidTests := true, laidLooks := .later }
def EngineOrderCardSaid : Prop := Claim7.holds Tryz.pinned (.plain (OpenSpec.ofChange engineOrderSpec)) engineOrderCard

/-- THE TIED CARD OF 'tansylaw27.EngineNothing'. -/
def engineNothingCard : Claim7 := { stood := { row := engineNothingRow, standIns := [], harness := (true, "9c50943525e927d38ab35c4922a98bd204cd2d0a50495f7500504b3a029d8dc3"), looks := true }, kinds := [], alts := [], laidByText := true, laidKinds := [.data, .data, .data, .sentinel, .sentinel], laidTests := true, laidLooks := .later }
def EngineNothingCardSaid : Prop := Claim7.holds Tryz.pinned (.plain (OpenSpec.ofChange engineNothingSpec)) engineNothingCard

/-- THE SECOND FORM's CARD OF 'tansylaw27.EngineOrder'. -/
def engineOrderUptoCard : Claim7 := { stood := { row := engineOrderUptoRow, standIns := [], harness := (true, "9c50943525e927d38ab35c4922a98bd204cd2d0a50495f7500504b3a029d8dc3"), looks := true }, kinds := [], alts := [], laidByText := true, laidKinds := [.data, .data, .data, .sentinel, .sentinel], laidTests := true, laidLooks := .later }
def EngineOrderUptoCardSaid : Prop := Claim7.holds Tryz.pinned (.plain (OpenSpec.upto engineOrderSpec)) engineOrderUptoCard

/-- THE SECOND FORM's CARD OF 'tansylaw27.EngineNothing'. -/
def engineNothingUptoCard : Claim7 := { stood := { row := engineNothingUptoRow, standIns := [], harness := (true, "9c50943525e927d38ab35c4922a98bd204cd2d0a50495f7500504b3a029d8dc3"), looks := true }, kinds := [], alts := [], laidByText := true, laidKinds := [.data, .data, .data, .sentinel, .sentinel], laidTests := true, laidLooks := .later }
def EngineNothingUptoCardSaid : Prop := Claim7.holds Tryz.pinned (.plain (OpenSpec.upto engineNothingSpec)) engineNothingUptoCard
end Rows
end Go.Proofs.YtibhkabmihhjiaaGreatDoor
