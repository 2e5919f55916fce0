/-
  DERIVED. GIVEN WITH THE SEED: THE CARDS: each row of YthmdddenbfbefaaGreatDoorRows.lean that lists a variable, with what it lists TIED to the program's text (the seventh form; the later family's looks); each row that meets fmt, with fmt's text TOLD by the authors' own Lean function (tested against real Go, not proved from fmt's source: count such statements apart). THE CARD IS WHAT COUNTS. Prove the row's statement (the work); the ties are given (YthmdddenbfbefaaGreatDoorTie.lean); close each card by the builder's one call (the guide's Derived/Test/ToyasCard.lean, 'card_holds'). Laid BY PROGRAM, IN A SANDBOX (cutbox-door.mjs). By AI agents, Wed Nov 11 2026. No macro, syntax, notation, axiom, sorry.
-/
import Derived.Test.YthmdddenbfbefaaGreatDoorRows
import GoSem.ClaimSeven
namespace Go.Proofs.YthmdddenbfbefaaGreatDoor
namespace Rows

/-- THE TIED CARD OF 'pllaw5.AsmFar'. -/
def asmFarCard : Claim7 := { stood := { row := asmFarRow, standIns := [], harness := (true, "413ba7900f36baf0664c3eeb8ce18f686abc68dd269b52bf4c1577be4c3a87cf"), looks := true }, kinds := [], alts := [], laidByText := true, laidKinds := [.data, .data, .data, .data, .sentinel, .sentinel, .pinned], laidTests := true, laidLooks := .later }
def AsmFarCardSaid : Prop := Claim7.holds Tryz.pinned (.plain (OpenSpec.ofChange asmFarSpec)) asmFarCard

/-- THE TIED CARD OF 'pllaw5.AsmNames'. -/
def asmNamesCard : Claim7 := { stood := { row := asmNamesRow, standIns := [], harness := (true, "413ba7900f36baf0664c3eeb8ce18f686abc68dd269b52bf4c1577be4c3a87cf"), looks := true }, kinds := [], alts := [], laidByText := true, laidKinds := [.data, .data, .data, .data, .sentinel, .sentinel, .pinned], laidTests := true, laidLooks := .later }
def AsmNamesCardSaid : Prop := Claim7.holds Tryz.pinned (.plain (OpenSpec.ofChange asmNamesSpec)) asmNamesCard

/-- THE TIED CARD OF 'pllaw12.FairDead'. -/
def fairDeadCard : Claim7 := { stood := { row := fairDeadRow, standIns := [], harness := (true, "413ba7900f36baf0664c3eeb8ce18f686abc68dd269b52bf4c1577be4c3a87cf"), looks := true }, kinds := [], alts := [], laidByText := true, laidKinds := [.data, .data, .data, .data, .sentinel, .sentinel, .pinned], laidTests := true, laidLooks := .later }
def FairDeadCardSaid : Prop := Claim7.holds Tryz.pinned (.plain (OpenSpec.ofChange fairDeadSpec)) fairDeadCard

/-- THE TIED CARD OF 'pltop.TopSum'. -/
def topSumCard : Claim7 := { stood := { row := topSumRow, standIns := [], harness := (true, "413ba7900f36baf0664c3eeb8ce18f686abc68dd269b52bf4c1577be4c3a87cf"), looks := true }, kinds := [], alts := [], laidByText := true, laidKinds := [.data, .data, .data, .data, .sentinel, .sentinel, .pinned], laidTests := true, laidLooks := .later }
def TopSumCardSaid : Prop := Claim7.holds Tryz.pinned (.plain (OpenSpec.ofChange topSumSpec)) topSumCard

/-- THE TIED CARD OF 'pltop.TopCall'. -/
def topCallCard : Claim7 := { stood := { row := topCallRow, standIns := [], harness := (true, "413ba7900f36baf0664c3eeb8ce18f686abc68dd269b52bf4c1577be4c3a87cf"), looks := true }, kinds := [], alts := [], laidByText := true, laidKinds := [.data, .data, .data, .data, .sentinel, .sentinel, .pinned], laidTests := true, laidLooks := .later }
def TopCallCardSaid : Prop := Claim7.holds Tryz.pinned (.plain (OpenSpec.ofChange topCallSpec)) topCallCard

/-- THE TIED CARD OF 'pltop.TopLeap'. -/
def topLeapCard : Claim7 := { stood := { row := topLeapRow, standIns := [], harness := (true, "413ba7900f36baf0664c3eeb8ce18f686abc68dd269b52bf4c1577be4c3a87cf"), looks := true }, kinds := [], alts := [], laidByText := true, laidKinds := [.data, .data, .data, .data, .sentinel, .sentinel, .pinned], laidTests := true, laidLooks := .later }
def TopLeapCardSaid : Prop := Claim7.holds Tryz.pinned (.plain (OpenSpec.ofChange topLeapSpec)) topLeapCard

/-- THE TIED CARD OF 'pltop.TopMacro'. -/
def topMacroCard : Claim7 := { stood := { row := topMacroRow, standIns := [], harness := (true, "413ba7900f36baf0664c3eeb8ce18f686abc68dd269b52bf4c1577be4c3a87cf"), looks := true }, kinds := [], alts := [], laidByText := true, laidKinds := [.data, .data, .data, .data, .sentinel, .sentinel, .pinned], laidTests := true, laidLooks := .later }
def TopMacroCardSaid : Prop := Claim7.holds Tryz.pinned (.plain (OpenSpec.ofChange topMacroSpec)) topMacroCard

/-- THE TIED CARD OF 'pltop.TopFarm'. -/
def topFarmCard : Claim7 := { stood := { row := topFarmRow, standIns := [], harness := (true, "413ba7900f36baf0664c3eeb8ce18f686abc68dd269b52bf4c1577be4c3a87cf"), looks := true }, kinds := [], alts := [], laidByText := true, laidKinds := [.data, .data, .data, .data, .sentinel, .sentinel, .pinned], laidTests := true, laidLooks := .later }
def TopFarmCardSaid : Prop := Claim7.holds Tryz.pinned (.plain (OpenSpec.ofChange topFarmSpec)) topFarmCard

/-- THE SECOND FORM's CARD OF 'pllaw5.AsmFar'. -/
def asmFarUptoCard : Claim7 := { stood := { row := asmFarUptoRow, standIns := [], harness := (true, "413ba7900f36baf0664c3eeb8ce18f686abc68dd269b52bf4c1577be4c3a87cf"), looks := true }, kinds := [], alts := [], laidByText := true, laidKinds := [.data, .data, .data, .data, .sentinel, .sentinel, .pinned], laidTests := true, laidLooks := .later }
def AsmFarUptoCardSaid : Prop := Claim7.holds Tryz.pinned (.plain (OpenSpec.upto asmFarSpec)) asmFarUptoCard

/-- THE SECOND FORM's CARD OF 'pllaw5.AsmNames'. -/
def asmNamesUptoCard : Claim7 := { stood := { row := asmNamesUptoRow, standIns := [], harness := (true, "413ba7900f36baf0664c3eeb8ce18f686abc68dd269b52bf4c1577be4c3a87cf"), looks := true }, kinds := [], alts := [], laidByText := true, laidKinds := [.data, .data, .data, .data, .sentinel, .sentinel, .pinned], laidTests := true, laidLooks := .later }
def AsmNamesUptoCardSaid : Prop := Claim7.holds Tryz.pinned (.plain (OpenSpec.upto asmNamesSpec)) asmNamesUptoCard

/-- THE SECOND FORM's CARD OF 'pllaw12.FairDead'. -/
def fairDeadUptoCard : Claim7 := { stood := { row := fairDeadUptoRow, standIns := [], harness := (true, "413ba7900f36baf0664c3eeb8ce18f686abc68dd269b52bf4c1577be4c3a87cf"), looks := true }, kinds := [], alts := [], laidByText := true, laidKinds := [.data, .data, .data, .data, .sentinel, .sentinel, .pinned], laidTests := true, laidLooks := .later }
def FairDeadUptoCardSaid : Prop := Claim7.holds Tryz.pinned (.plain (OpenSpec.upto fairDeadSpec)) fairDeadUptoCard

/-- THE SECOND FORM's CARD OF 'pltop.TopSum'. -/
def topSumUptoCard : Claim7 := { stood := { row := topSumUptoRow, standIns := [], harness := (true, "413ba7900f36baf0664c3eeb8ce18f686abc68dd269b52bf4c1577be4c3a87cf"), looks := true }, kinds := [], alts := [], laidByText := true, laidKinds := [.data, .data, .data, .data, .sentinel, .sentinel, .pinned], laidTests := true, laidLooks := .later }
def TopSumUptoCardSaid : Prop := Claim7.holds Tryz.pinned (.plain (OpenSpec.upto topSumSpec)) topSumUptoCard

/-- THE SECOND FORM's CARD OF 'pltop.TopCall'. -/
def topCallUptoCard : Claim7 := { stood := { row := topCallUptoRow, standIns := [], harness := (true, "413ba7900f36baf0664c3eeb8ce18f686abc68dd269b52bf4c1577be4c3a87cf"), looks := true }, kinds := [], alts := [], laidByText := true, laidKinds := [.data, .data, .data, .data, .sentinel, .sentinel, .pinned], laidTests := true, laidLooks := .later }
def TopCallUptoCardSaid : Prop := Claim7.holds Tryz.pinned (.plain (OpenSpec.upto topCallSpec)) topCallUptoCard

/-- THE SECOND FORM's CARD OF 'pltop.TopLeap'. -/
def topLeapUptoCard : Claim7 := { stood := { row := topLeapUptoRow, standIns := [], harness := (true, "413ba7900f36baf0664c3eeb8ce18f686abc68dd269b52bf4c1577be4c3a87cf"), looks := true }, kinds := [], alts := [], laidByText := true, laidKinds := [.data, .data, .data, .data, .sentinel, .sentinel, .pinned], laidTests := true, laidLooks := .later }
def TopLeapUptoCardSaid : Prop := Claim7.holds Tryz.pinned (.plain (OpenSpec.upto topLeapSpec)) topLeapUptoCard

/-- THE SECOND FORM's CARD OF 'pltop.TopMacro'. -/
def topMacroUptoCard : Claim7 := { stood := { row := topMacroUptoRow, standIns := [], harness := (true, "413ba7900f36baf0664c3eeb8ce18f686abc68dd269b52bf4c1577be4c3a87cf"), looks := true }, kinds := [], alts := [], laidByText := true, laidKinds := [.data, .data, .data, .data, .sentinel, .sentinel, .pinned], laidTests := true, laidLooks := .later }
def TopMacroUptoCardSaid : Prop := Claim7.holds Tryz.pinned (.plain (OpenSpec.upto topMacroSpec)) topMacroUptoCard

/-- THE SECOND FORM's CARD OF 'pltop.TopFarm'. -/
def topFarmUptoCard : Claim7 := { stood := { row := topFarmUptoRow, standIns := [], harness := (true, "413ba7900f36baf0664c3eeb8ce18f686abc68dd269b52bf4c1577be4c3a87cf"), looks := true }, kinds := [], alts := [], laidByText := true, laidKinds := [.data, .data, .data, .data, .sentinel, .sentinel, .pinned], laidTests := true, laidLooks := .later }
def TopFarmUptoCardSaid : Prop := Claim7.holds Tryz.pinned (.plain (OpenSpec.upto topFarmSpec)) topFarmUptoCard
end Rows
end Go.Proofs.YthmdddenbfbefaaGreatDoor
