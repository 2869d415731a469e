/-
  DERIVED. GIVEN WITH THE SEED: THE CARDS: each row of YtiodolbgapjmkaaGreatDoorRows.lean that lists a variable, with what it lists TIED to the program's text (the seventh form; the later family's looks); each row that meets fmt, with fmt's text TOLD by the authors' own Lean function (tested against real Go, not proved from fmt's source: count such statements apart). THE CARD IS WHAT COUNTS. Prove the row's statement (the work); the ties are given (YtiodolbgapjmkaaGreatDoorTie.lean); close each card by the builder's one call (the guide's Derived/Test/ToyasCard.lean, 'card_holds'). Laid BY PROGRAM, IN A SANDBOX (cutbox-door.mjs). By AI agents, Wed Nov 11 2026. No macro, syntax, notation, axiom, sorry.
-/
import Derived.Test.YtiodolbgapjmkaaGreatDoorRows
import GoSem.ClaimSeven
namespace Go.Proofs.YtiodolbgapjmkaaGreatDoor
namespace Rows

/-- THE TIED CARD OF 'laws.FnNetworks'. -/
def fnNetworksCard : Claim7 := { stood := { row := fnNetworksRow, standIns := [], harness := (true, "1eb245723c3e0ddd64bb25da7a460cb8c3e338c5cc370d7b49a40dfd29c8d431"), looks := true }, kinds := [], alts := [], laidByText := true, laidKinds := [.data, .data, .data, .data, .sentinel, .sentinel, .pinned], laidTests := true, laidLooks := .later }
def FnNetworksCardSaid : Prop := Claim7.holds Tryz.pinned (.plain (OpenSpec.ofChange fnNetworksSpec)) fnNetworksCard

/-- THE SECOND FORM's CARD OF 'laws.FnNetworks'. -/
def fnNetworksUptoCard : Claim7 := { stood := { row := fnNetworksUptoRow, standIns := [], harness := (true, "1eb245723c3e0ddd64bb25da7a460cb8c3e338c5cc370d7b49a40dfd29c8d431"), looks := true }, kinds := [], alts := [], laidByText := true, laidKinds := [.data, .data, .data, .data, .sentinel, .sentinel, .pinned], laidTests := true, laidLooks := .later }
def FnNetworksUptoCardSaid : Prop := Claim7.holds Tryz.pinned (.plain (OpenSpec.upto fnNetworksSpec)) fnNetworksUptoCard
end Rows
end Go.Proofs.YtiodolbgapjmkaaGreatDoor
