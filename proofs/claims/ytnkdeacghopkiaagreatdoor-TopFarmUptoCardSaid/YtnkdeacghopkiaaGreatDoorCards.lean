/-
  DERIVED. GIVEN WITH THE SEED: THE CARDS: each row of YtnkdeacghopkiaaGreatDoorRows.lean that lists a variable, with what it lists TIED to the program's text (the seventh form; the later family's looks); each row that meets fmt, with fmt's text TOLD by the authors' own Lean function (tested against real Go, not proved from fmt's source: count such statements apart). THE CARD IS WHAT COUNTS. Prove the row's statement (the work); the ties are given (YtnkdeacghopkiaaGreatDoorTie.lean); close each card by the builder's one call (the guide's Derived/Test/ToyasCard.lean, 'card_holds'). Laid BY PROGRAM, IN A SANDBOX (cutbox-door.mjs). By AI agents, Wed Nov 11 2026. No macro, syntax, notation, axiom, sorry.
-/
import Derived.Test.YtnkdeacghopkiaaGreatDoorRows
import GoSem.ClaimSeven
namespace Go.Proofs.YtnkdeacghopkiaaGreatDoor
namespace Rows

/-- THE TIED CARD OF 'pllaw12.FairDead'. -/
def fairDeadCard : Claim7 := { stood := { row := fairDeadRow, standIns := [], harness := (true, "bdee3c06a9bdaa6a218e0ad7a14596d2a7dd10994daf51c2cb86c72990b8e4ee"), looks := true }, kinds := [], alts := [], laidByText := true, laidKinds := [.data, .data, .data, .data, .sentinel, .sentinel, .pinned], laidTests := true, laidLooks := .later }
def FairDeadCardSaid : Prop := Claim7.holds Tryz.pinned (.plain (OpenSpec.ofChange fairDeadSpec)) fairDeadCard

/-- THE TIED CARD OF 'pltop.TopMacro'. -/
def topMacroCard : Claim7 := { stood := { row := topMacroRow, standIns := [], harness := (true, "bdee3c06a9bdaa6a218e0ad7a14596d2a7dd10994daf51c2cb86c72990b8e4ee"), looks := true }, kinds := [], alts := [], laidByText := true, laidKinds := [.data, .data, .data, .data, .sentinel, .sentinel, .pinned], laidTests := true, laidLooks := .later }
def TopMacroCardSaid : Prop := Claim7.holds Tryz.pinned (.plain (OpenSpec.ofChange topMacroSpec)) topMacroCard

/-- THE TIED CARD OF 'pltop.TopFarm'. -/
def topFarmCard : Claim7 := { stood := { row := topFarmRow, standIns := [], harness := (true, "bdee3c06a9bdaa6a218e0ad7a14596d2a7dd10994daf51c2cb86c72990b8e4ee"), looks := true }, kinds := [], alts := [], laidByText := true, laidKinds := [.data, .data, .data, .data, .sentinel, .sentinel, .pinned], laidTests := true, laidLooks := .later }
def TopFarmCardSaid : Prop := Claim7.holds Tryz.pinned (.plain (OpenSpec.ofChange topFarmSpec)) topFarmCard

/-- THE SECOND FORM's CARD OF 'pllaw12.FairDead'. -/
def fairDeadUptoCard : Claim7 := { stood := { row := fairDeadUptoRow, standIns := [], harness := (true, "bdee3c06a9bdaa6a218e0ad7a14596d2a7dd10994daf51c2cb86c72990b8e4ee"), looks := true }, kinds := [], alts := [], laidByText := true, laidKinds := [.data, .data, .data, .data, .sentinel, .sentinel, .pinned], laidTests := true, laidLooks := .later }
def FairDeadUptoCardSaid : Prop := Claim7.holds Tryz.pinned (.plain (OpenSpec.upto fairDeadSpec)) fairDeadUptoCard

/-- THE SECOND FORM's CARD OF 'pltop.TopMacro'. -/
def topMacroUptoCard : Claim7 := { stood := { row := topMacroUptoRow, standIns := [], harness := (true, "bdee3c06a9bdaa6a218e0ad7a14596d2a7dd10994daf51c2cb86c72990b8e4ee"), looks := true }, kinds := [], alts := [], laidByText := true, laidKinds := [.data, .data, .data, .data, .sentinel, .sentinel, .pinned], laidTests := true, laidLooks := .later }
def TopMacroUptoCardSaid : Prop := Claim7.holds Tryz.pinned (.plain (OpenSpec.upto topMacroSpec)) topMacroUptoCard

/-- THE SECOND FORM's CARD OF 'pltop.TopFarm'. -/
def topFarmUptoCard : Claim7 := { stood := { row := topFarmUptoRow, standIns := [], harness := (true, "bdee3c06a9bdaa6a218e0ad7a14596d2a7dd10994daf51c2cb86c72990b8e4ee"), looks := true }, kinds := [], alts := [], laidByText := true, laidKinds := [.data, .data, .data, .data, .sentinel, .sentinel, .pinned], laidTests := true, laidLooks := .later }
def TopFarmUptoCardSaid : Prop := Claim7.holds Tryz.pinned (.plain (OpenSpec.upto topFarmSpec)) topFarmUptoCard
end Rows
end Go.Proofs.YtnkdeacghopkiaaGreatDoor
