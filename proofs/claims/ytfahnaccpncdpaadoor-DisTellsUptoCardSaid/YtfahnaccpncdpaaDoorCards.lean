/-
  DERIVED. GIVEN WITH THE SEED: THE CARDS: each row of YtfahnaccpncdpaaDoorRows.lean that lists a variable, with what it lists TIED to the program's text (the seventh form; the later family's looks); each row that meets fmt, with fmt's text TOLD by the authors' own Lean function (tested against real Go, not proved from fmt's source: count such statements apart). THE CARD IS WHAT COUNTS. Prove the row's statement (the work); the ties are given (YtfahnaccpncdpaaDoorTie.lean); close each card by the builder's one call (the guide's Derived/Test/ToyasCard.lean, 'card_holds'). Laid BY PROGRAM, IN A SANDBOX (cutbox-door.mjs). By AI agents, Wed Nov 11 2026. No macro, syntax, notation, axiom, sorry.
-/
import Derived.Test.YtfahnaccpncdpaaDoorRows
import GoSem.ClaimSeven
namespace Go.Proofs.YtfahnaccpncdpaaDoor
namespace Rows

/-- THE TIED CARD OF 'pllaw8.DisTells'. -/
def disTellsCard : Claim7 := { stood := { row := disTellsRow, standIns := [], harness := (true, "1f9b078bbfc214957a4db9674ffb24966b8c006c61948e28ed9f056896c40a48"), looks := false }, kinds := [], alts := [], laidByText := true, laidKinds := [.data, .data, .data, .data, .listed, .data, .pinned], laidTests := true, laidLooks := .later }
def DisTellsCardSaid : Prop := Claim7.holds Tryd.pinned (.plain (OpenSpec.ofChange disTellsSpec)) disTellsCard

/-- THE SECOND FORM's CARD OF 'pllaw8.DisTells'. -/
def disTellsUptoCard : Claim7 := { stood := { row := disTellsUptoRow, standIns := [], harness := (true, "1f9b078bbfc214957a4db9674ffb24966b8c006c61948e28ed9f056896c40a48"), looks := false }, kinds := [], alts := [], laidByText := true, laidKinds := [.data, .data, .data, .data, .listed, .data, .pinned], laidTests := true, laidLooks := .later }
def DisTellsUptoCardSaid : Prop := Claim7.holds Tryd.pinned (.plain (OpenSpec.upto disTellsSpec)) disTellsUptoCard
end Rows
end Go.Proofs.YtfahnaccpncdpaaDoor
