/-
  DERIVED. GIVEN WITH THE SEED: THE CARDS: each row of YtadmpjikkpnjnaaDoorRows.lean that lists a variable, with what it lists TIED to the program's text (the seventh form; the later family's looks); each row that meets fmt, with fmt's text TOLD by the authors' own Lean function (tested against real Go, not proved from fmt's source: count such statements apart). THE CARD IS WHAT COUNTS. Prove the row's statement (the work); the ties are given (YtadmpjikkpnjnaaDoorTie.lean); close each card by the builder's one call (the guide's Derived/Test/ToyasCard.lean, 'card_holds'). Laid BY PROGRAM, IN A SANDBOX (cutbox-door.mjs). By AI agents, Wed Nov 11 2026. No macro, syntax, notation, axiom, sorry.
-/
import Derived.Test.YtadmpjikkpnjnaaDoorRows
import GoSem.ClaimSeven
namespace Go.Proofs.YtadmpjikkpnjnaaDoor
namespace Rows

/-- THE TIED CARD OF 'slabvaultlaw04.SlotsBytes'. -/
def slotsBytesCard : Claim7 := { stood := { row := slotsBytesRow, standIns := [], harness := (true, "cbb0b6c019039acdedc5a6bc93f5c8fd6d8a9033ebbd6a46eadd63c7d1d84bb0"), looks := false }, kinds := [], alts := [], laidByText := true, laidKinds := [.data], laidTests := true, laidLooks := .later }
def SlotsBytesCardSaid : Prop := Claim7.holds Tryd.pinned (.plain (OpenSpec.ofChange slotsBytesSpec)) slotsBytesCard

/-- THE TIED CARD OF 'slabvaultlaw04.SlotsLoads'. -/
def slotsLoadsCard : Claim7 := { stood := { row := slotsLoadsRow, standIns := [], harness := (true, "cbb0b6c019039acdedc5a6bc93f5c8fd6d8a9033ebbd6a46eadd63c7d1d84bb0"), looks := false }, kinds := [], alts := [], laidByText := true, laidKinds := [.data], laidTests := true, laidLooks := .later }
def SlotsLoadsCardSaid : Prop := Claim7.holds Tryd.pinned (.plain (OpenSpec.ofChange slotsLoadsSpec)) slotsLoadsCard

/-- THE TIED CARD OF 'slabvaultlaw04.SlotsBack'. -/
def slotsBackCard : Claim7 := { stood := { row := slotsBackRow, standIns := [], harness := (true, "cbb0b6c019039acdedc5a6bc93f5c8fd6d8a9033ebbd6a46eadd63c7d1d84bb0"), looks := false }, kinds := [], alts := [], laidByText := true, laidKinds := [.data], laidTests := true, laidLooks := .later }
def SlotsBackCardSaid : Prop := Claim7.holds Tryd.pinned (.plain (OpenSpec.ofChange slotsBackSpec)) slotsBackCard

/-- THE TIED CARD OF 'slabvaultlaw04.SlotsBest'. -/
def slotsBestCard : Claim7 := { stood := { row := slotsBestRow, standIns := [], harness := (true, "cbb0b6c019039acdedc5a6bc93f5c8fd6d8a9033ebbd6a46eadd63c7d1d84bb0"), looks := false }, kinds := [], alts := [], laidByText := true, laidKinds := [.data], laidTests := true, laidLooks := .later }
def SlotsBestCardSaid : Prop := Claim7.holds Tryd.pinned (.plain (OpenSpec.ofChange slotsBestSpec)) slotsBestCard

/-- THE TIED CARD OF 'slabvaultlaw04.SlotsPuts'. -/
def slotsPutsCard : Claim7 := { stood := { row := slotsPutsRow, standIns := [], harness := (true, "cbb0b6c019039acdedc5a6bc93f5c8fd6d8a9033ebbd6a46eadd63c7d1d84bb0"), looks := false }, kinds := [], alts := [], laidByText := true, laidKinds := [.data], laidTests := true, laidLooks := .later }
def SlotsPutsCardSaid : Prop := Claim7.holds Tryd.pinned (.plain (OpenSpec.ofChange slotsPutsSpec)) slotsPutsCard

/-- THE TIED CARD OF 'slabvaultlaw04.SlotsCrashes'. -/
def slotsCrashesCard : Claim7 := { stood := { row := slotsCrashesRow, standIns := [], harness := (true, "cbb0b6c019039acdedc5a6bc93f5c8fd6d8a9033ebbd6a46eadd63c7d1d84bb0"), looks := false }, kinds := [], alts := [], laidByText := true, laidKinds := [.data], laidTests := true, laidLooks := .later }
def SlotsCrashesCardSaid : Prop := Claim7.holds Tryd.pinned (.plain (OpenSpec.ofChange slotsCrashesSpec)) slotsCrashesCard

/-- THE SECOND FORM's CARD OF 'slabvaultlaw04.SlotsBytes'. -/
def slotsBytesUptoCard : Claim7 := { stood := { row := slotsBytesUptoRow, standIns := [], harness := (true, "cbb0b6c019039acdedc5a6bc93f5c8fd6d8a9033ebbd6a46eadd63c7d1d84bb0"), looks := false }, kinds := [], alts := [], laidByText := true, laidKinds := [.data], laidTests := true, laidLooks := .later }
def SlotsBytesUptoCardSaid : Prop := Claim7.holds Tryd.pinned (.plain (OpenSpec.upto slotsBytesSpec)) slotsBytesUptoCard

/-- THE SECOND FORM's CARD OF 'slabvaultlaw04.SlotsLoads'. -/
def slotsLoadsUptoCard : Claim7 := { stood := { row := slotsLoadsUptoRow, standIns := [], harness := (true, "cbb0b6c019039acdedc5a6bc93f5c8fd6d8a9033ebbd6a46eadd63c7d1d84bb0"), looks := false }, kinds := [], alts := [], laidByText := true, laidKinds := [.data], laidTests := true, laidLooks := .later }
def SlotsLoadsUptoCardSaid : Prop := Claim7.holds Tryd.pinned (.plain (OpenSpec.upto slotsLoadsSpec)) slotsLoadsUptoCard

/-- THE SECOND FORM's CARD OF 'slabvaultlaw04.SlotsBack'. -/
def slotsBackUptoCard : Claim7 := { stood := { row := slotsBackUptoRow, standIns := [], harness := (true, "cbb0b6c019039acdedc5a6bc93f5c8fd6d8a9033ebbd6a46eadd63c7d1d84bb0"), looks := false }, kinds := [], alts := [], laidByText := true, laidKinds := [.data], laidTests := true, laidLooks := .later }
def SlotsBackUptoCardSaid : Prop := Claim7.holds Tryd.pinned (.plain (OpenSpec.upto slotsBackSpec)) slotsBackUptoCard

/-- THE SECOND FORM's CARD OF 'slabvaultlaw04.SlotsBest'. -/
def slotsBestUptoCard : Claim7 := { stood := { row := slotsBestUptoRow, standIns := [], harness := (true, "cbb0b6c019039acdedc5a6bc93f5c8fd6d8a9033ebbd6a46eadd63c7d1d84bb0"), looks := false }, kinds := [], alts := [], laidByText := true, laidKinds := [.data], laidTests := true, laidLooks := .later }
def SlotsBestUptoCardSaid : Prop := Claim7.holds Tryd.pinned (.plain (OpenSpec.upto slotsBestSpec)) slotsBestUptoCard

/-- THE SECOND FORM's CARD OF 'slabvaultlaw04.SlotsPuts'. -/
def slotsPutsUptoCard : Claim7 := { stood := { row := slotsPutsUptoRow, standIns := [], harness := (true, "cbb0b6c019039acdedc5a6bc93f5c8fd6d8a9033ebbd6a46eadd63c7d1d84bb0"), looks := false }, kinds := [], alts := [], laidByText := true, laidKinds := [.data], laidTests := true, laidLooks := .later }
def SlotsPutsUptoCardSaid : Prop := Claim7.holds Tryd.pinned (.plain (OpenSpec.upto slotsPutsSpec)) slotsPutsUptoCard

/-- THE SECOND FORM's CARD OF 'slabvaultlaw04.SlotsCrashes'. -/
def slotsCrashesUptoCard : Claim7 := { stood := { row := slotsCrashesUptoRow, standIns := [], harness := (true, "cbb0b6c019039acdedc5a6bc93f5c8fd6d8a9033ebbd6a46eadd63c7d1d84bb0"), looks := false }, kinds := [], alts := [], laidByText := true, laidKinds := [.data], laidTests := true, laidLooks := .later }
def SlotsCrashesUptoCardSaid : Prop := Claim7.holds Tryd.pinned (.plain (OpenSpec.upto slotsCrashesSpec)) slotsCrashesUptoCard
end Rows
end Go.Proofs.YtadmpjikkpnjnaaDoor
