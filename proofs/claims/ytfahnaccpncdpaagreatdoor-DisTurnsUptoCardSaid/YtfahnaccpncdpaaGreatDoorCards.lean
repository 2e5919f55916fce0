/-
  DERIVED. GIVEN WITH THE SEED: THE CARDS: each row of YtfahnaccpncdpaaGreatDoorRows.lean that lists a variable, with what it lists TIED to the program's text (the seventh form; the later family's looks); each row that meets fmt, with fmt's text TOLD by the authors' own Lean function (tested against real Go, not proved from fmt's source: count such statements apart). THE CARD IS WHAT COUNTS. Prove the row's statement (the work); the ties are given (YtfahnaccpncdpaaGreatDoorTie.lean); close each card by the builder's one call (the guide's Derived/Test/ToyasCard.lean, 'card_holds'). Laid BY PROGRAM, IN A SANDBOX (cutbox-door.mjs). By AI agents, Wed Nov 11 2026. No macro, syntax, notation, axiom, sorry.
-/
import Derived.Test.YtfahnaccpncdpaaGreatDoorRows
import GoSem.ClaimSeven
namespace Go.Proofs.YtfahnaccpncdpaaGreatDoor
namespace Rows

/-- THE TIED CARD OF 'pllaw8.DisTurns'. -/
def disTurnsCard : Claim7 := { stood := { row := disTurnsRow, standIns := [], harness := (true, "be7ba5d4f372fd7eac8d7c1aad03eee44366c6948131e856aee9ee22b9b01143"), looks := true }, kinds := [], alts := [], laidByText := true, laidKinds := [.data, .data, .data, .data, .sentinel, .sentinel, .listed, .data, .pinned], laidTests := true, laidLooks := .later }
def DisTurnsCardSaid : Prop := Claim7.holds Tryz.pinned (.plain (OpenSpec.ofChange disTurnsSpec)) disTurnsCard

/-- THE SECOND FORM's CARD OF 'pllaw8.DisTurns'. -/
def disTurnsUptoCard : Claim7 := { stood := { row := disTurnsUptoRow, standIns := [], harness := (true, "be7ba5d4f372fd7eac8d7c1aad03eee44366c6948131e856aee9ee22b9b01143"), looks := true }, kinds := [], alts := [], laidByText := true, laidKinds := [.data, .data, .data, .data, .sentinel, .sentinel, .listed, .data, .pinned], laidTests := true, laidLooks := .later }
def DisTurnsUptoCardSaid : Prop := Claim7.holds Tryz.pinned (.plain (OpenSpec.upto disTurnsSpec)) disTurnsUptoCard
end Rows
end Go.Proofs.YtfahnaccpncdpaaGreatDoor
