/-
  DERIVED. GIVEN WITH THE SEED: THE CARDS: each row of YteeofpgnjekeaaaGreatDoorRows.lean that lists a variable, with what it lists TIED to the program's text (the seventh form; the later family's looks); each row that meets fmt, with fmt's text TOLD by the authors' own Lean function (tested against real Go, not proved from fmt's source: count such statements apart). THE CARD IS WHAT COUNTS. Prove the row's statement (the work); the ties are given (YteeofpgnjekeaaaGreatDoorTie.lean); close each card by the builder's one call (the guide's Derived/Test/ToyasCard.lean, 'card_holds'). Laid BY PROGRAM, IN A SANDBOX (cutbox-door.mjs). By AI agents, Wed Nov 11 2026. No macro, syntax, notation, axiom, sorry.
-/
import Derived.Test.YteeofpgnjekeaaaGreatDoorRows
import GoSem.ClaimSeven
namespace Go.Proofs.YteeofpgnjekeaaaGreatDoor
namespace Rows

/-- THE TIED CARD OF 'wireglasslaw23.TapPercents'. -/
def tapPercentsCard : Claim7 := { stood := { row := tapPercentsRow, standIns := [], harness := (true, "e52f315291b9b8f62d816419d89c1c73e901d276f5233db27ffa9eb1027d8870"), looks := false }, kinds := [], alts := [], laidByText := true, laidKinds := [.data, .data, .data], laidTests := true, laidLooks := .later }
def TapPercentsCardSaid : Prop := Claim7.holds Tryz.pinned (.plain (OpenSpec.ofChange tapPercentsSpec)) tapPercentsCard

/-- THE TIED CARD OF 'wireglasslaw23.TapDeltas'. -/
def tapDeltasCard : Claim7 := { stood := { row := tapDeltasRow, standIns := [], harness := (true, "e52f315291b9b8f62d816419d89c1c73e901d276f5233db27ffa9eb1027d8870"), looks := false }, kinds := [], alts := [], laidByText := true, laidKinds := [.data, .data, .data], laidTests := true, laidLooks := .later }
def TapDeltasCardSaid : Prop := Claim7.holds Tryz.pinned (.plain (OpenSpec.ofChange tapDeltasSpec)) tapDeltasCard

/-- THE TIED CARD OF 'wireglasslaw23.TapBursts'. -/
def tapBurstsCard : Claim7 := { stood := { row := tapBurstsRow, standIns := [], harness := (true, "e52f315291b9b8f62d816419d89c1c73e901d276f5233db27ffa9eb1027d8870"), looks := false }, kinds := [], alts := [], laidByText := true, laidKinds := [.data, .data, .data], laidTests := true, laidLooks := .later }
def TapBurstsCardSaid : Prop := Claim7.holds Tryz.pinned (.plain (OpenSpec.ofChange tapBurstsSpec)) tapBurstsCard

/-- THE TIED CARD OF 'wireglasslaw23.TapTrips'. -/
def tapTripsCard : Claim7 := { stood := { row := tapTripsRow, standIns := [], harness := (true, "e52f315291b9b8f62d816419d89c1c73e901d276f5233db27ffa9eb1027d8870"), looks := false }, kinds := [], alts := [], laidByText := true, laidKinds := [.data, .data, .data], laidTests := true, laidLooks := .later }
def TapTripsCardSaid : Prop := Claim7.holds Tryz.pinned (.plain (OpenSpec.ofChange tapTripsSpec)) tapTripsCard

/-- THE TIED CARD OF 'wireglasslaw23.TapIntervals'. -/
def tapIntervalsCard : Claim7 := { stood := { row := tapIntervalsRow, standIns := [], harness := (true, "e52f315291b9b8f62d816419d89c1c73e901d276f5233db27ffa9eb1027d8870"), looks := false }, kinds := [], alts := [], laidByText := true, laidKinds := [.data, .data, .data], laidTests := true, laidLooks := .later }
def TapIntervalsCardSaid : Prop := Claim7.holds Tryz.pinned (.plain (OpenSpec.ofChange tapIntervalsSpec)) tapIntervalsCard

/-- THE TIED CARD OF 'wireglasslaw23.TapWhole'. -/
def tapWholeCard : Claim7 := { stood := { row := tapWholeRow, standIns := [], harness := (true, "e52f315291b9b8f62d816419d89c1c73e901d276f5233db27ffa9eb1027d8870"), looks := false }, kinds := [], alts := [], laidByText := true, laidKinds := [.data, .data, .data], laidTests := true, laidLooks := .later }
def TapWholeCardSaid : Prop := Claim7.holds Tryz.pinned (.plain (OpenSpec.ofChange tapWholeSpec)) tapWholeCard

/-- THE TIED CARD OF 'wireglasslaw23.TapNumbers'. -/
def tapNumbersCard : Claim7 := { stood := { row := tapNumbersRow, standIns := [], harness := (true, "e52f315291b9b8f62d816419d89c1c73e901d276f5233db27ffa9eb1027d8870"), looks := false }, kinds := [], alts := [], laidByText := true, laidKinds := [.data, .data, .data], laidTests := true, laidLooks := .later }
def TapNumbersCardSaid : Prop := Claim7.holds Tryz.pinned (.plain (OpenSpec.ofChange tapNumbersSpec)) tapNumbersCard

/-- THE TIED CARD OF 'wireglasslaw23.TapParts'. -/
def tapPartsCard : Claim7 := { stood := { row := tapPartsRow, standIns := [], harness := (true, "e52f315291b9b8f62d816419d89c1c73e901d276f5233db27ffa9eb1027d8870"), looks := false }, kinds := [], alts := [], laidByText := true, laidKinds := [.data, .data, .data], laidTests := true, laidLooks := .later }
def TapPartsCardSaid : Prop := Claim7.holds Tryz.pinned (.plain (OpenSpec.ofChange tapPartsSpec)) tapPartsCard

/-- THE TIED CARD OF 'wireglasslaw23.TapCounts'. -/
def tapCountsCard : Claim7 := { stood := { row := tapCountsRow, standIns := [], harness := (true, "e52f315291b9b8f62d816419d89c1c73e901d276f5233db27ffa9eb1027d8870"), looks := false }, kinds := [], alts := [], laidByText := true, laidKinds := [.data, .data, .data], laidTests := true, laidLooks := .later }
def TapCountsCardSaid : Prop := Claim7.holds Tryz.pinned (.plain (OpenSpec.ofChange tapCountsSpec)) tapCountsCard

/-- THE TIED CARD OF 'wireglasslaw23.TapMerges'. -/
def tapMergesCard : Claim7 := { stood := { row := tapMergesRow, standIns := [], harness := (true, "e52f315291b9b8f62d816419d89c1c73e901d276f5233db27ffa9eb1027d8870"), looks := false }, kinds := [], alts := [], laidByText := true, laidKinds := [.data, .data, .data], laidTests := true, laidLooks := .later }
def TapMergesCardSaid : Prop := Claim7.holds Tryz.pinned (.plain (OpenSpec.ofChange tapMergesSpec)) tapMergesCard

/-- THE TIED CARD OF 'wireglasslaw23.TapNils'. -/
def tapNilsCard : Claim7 := { stood := { row := tapNilsRow, standIns := [], harness := (true, "e52f315291b9b8f62d816419d89c1c73e901d276f5233db27ffa9eb1027d8870"), looks := false }, kinds := [], alts := [], laidByText := true, laidKinds := [.data, .data, .data], laidTests := true, laidLooks := .later }
def TapNilsCardSaid : Prop := Claim7.holds Tryz.pinned (.plain (OpenSpec.ofChange tapNilsSpec)) tapNilsCard

/-- THE SECOND FORM's CARD OF 'wireglasslaw23.TapPercents'. -/
def tapPercentsUptoCard : Claim7 := { stood := { row := tapPercentsUptoRow, standIns := [], harness := (true, "e52f315291b9b8f62d816419d89c1c73e901d276f5233db27ffa9eb1027d8870"), looks := false }, kinds := [], alts := [], laidByText := true, laidKinds := [.data, .data, .data], laidTests := true, laidLooks := .later }
def TapPercentsUptoCardSaid : Prop := Claim7.holds Tryz.pinned (.plain (OpenSpec.upto tapPercentsSpec)) tapPercentsUptoCard

/-- THE SECOND FORM's CARD OF 'wireglasslaw23.TapDeltas'. -/
def tapDeltasUptoCard : Claim7 := { stood := { row := tapDeltasUptoRow, standIns := [], harness := (true, "e52f315291b9b8f62d816419d89c1c73e901d276f5233db27ffa9eb1027d8870"), looks := false }, kinds := [], alts := [], laidByText := true, laidKinds := [.data, .data, .data], laidTests := true, laidLooks := .later }
def TapDeltasUptoCardSaid : Prop := Claim7.holds Tryz.pinned (.plain (OpenSpec.upto tapDeltasSpec)) tapDeltasUptoCard

/-- THE SECOND FORM's CARD OF 'wireglasslaw23.TapBursts'. -/
def tapBurstsUptoCard : Claim7 := { stood := { row := tapBurstsUptoRow, standIns := [], harness := (true, "e52f315291b9b8f62d816419d89c1c73e901d276f5233db27ffa9eb1027d8870"), looks := false }, kinds := [], alts := [], laidByText := true, laidKinds := [.data, .data, .data], laidTests := true, laidLooks := .later }
def TapBurstsUptoCardSaid : Prop := Claim7.holds Tryz.pinned (.plain (OpenSpec.upto tapBurstsSpec)) tapBurstsUptoCard

/-- THE SECOND FORM's CARD OF 'wireglasslaw23.TapTrips'. -/
def tapTripsUptoCard : Claim7 := { stood := { row := tapTripsUptoRow, standIns := [], harness := (true, "e52f315291b9b8f62d816419d89c1c73e901d276f5233db27ffa9eb1027d8870"), looks := false }, kinds := [], alts := [], laidByText := true, laidKinds := [.data, .data, .data], laidTests := true, laidLooks := .later }
def TapTripsUptoCardSaid : Prop := Claim7.holds Tryz.pinned (.plain (OpenSpec.upto tapTripsSpec)) tapTripsUptoCard

/-- THE SECOND FORM's CARD OF 'wireglasslaw23.TapIntervals'. -/
def tapIntervalsUptoCard : Claim7 := { stood := { row := tapIntervalsUptoRow, standIns := [], harness := (true, "e52f315291b9b8f62d816419d89c1c73e901d276f5233db27ffa9eb1027d8870"), looks := false }, kinds := [], alts := [], laidByText := true, laidKinds := [.data, .data, .data], laidTests := true, laidLooks := .later }
def TapIntervalsUptoCardSaid : Prop := Claim7.holds Tryz.pinned (.plain (OpenSpec.upto tapIntervalsSpec)) tapIntervalsUptoCard

/-- THE SECOND FORM's CARD OF 'wireglasslaw23.TapWhole'. -/
def tapWholeUptoCard : Claim7 := { stood := { row := tapWholeUptoRow, standIns := [], harness := (true, "e52f315291b9b8f62d816419d89c1c73e901d276f5233db27ffa9eb1027d8870"), looks := false }, kinds := [], alts := [], laidByText := true, laidKinds := [.data, .data, .data], laidTests := true, laidLooks := .later }
def TapWholeUptoCardSaid : Prop := Claim7.holds Tryz.pinned (.plain (OpenSpec.upto tapWholeSpec)) tapWholeUptoCard

/-- THE SECOND FORM's CARD OF 'wireglasslaw23.TapNumbers'. -/
def tapNumbersUptoCard : Claim7 := { stood := { row := tapNumbersUptoRow, standIns := [], harness := (true, "e52f315291b9b8f62d816419d89c1c73e901d276f5233db27ffa9eb1027d8870"), looks := false }, kinds := [], alts := [], laidByText := true, laidKinds := [.data, .data, .data], laidTests := true, laidLooks := .later }
def TapNumbersUptoCardSaid : Prop := Claim7.holds Tryz.pinned (.plain (OpenSpec.upto tapNumbersSpec)) tapNumbersUptoCard

/-- THE SECOND FORM's CARD OF 'wireglasslaw23.TapParts'. -/
def tapPartsUptoCard : Claim7 := { stood := { row := tapPartsUptoRow, standIns := [], harness := (true, "e52f315291b9b8f62d816419d89c1c73e901d276f5233db27ffa9eb1027d8870"), looks := false }, kinds := [], alts := [], laidByText := true, laidKinds := [.data, .data, .data], laidTests := true, laidLooks := .later }
def TapPartsUptoCardSaid : Prop := Claim7.holds Tryz.pinned (.plain (OpenSpec.upto tapPartsSpec)) tapPartsUptoCard

/-- THE SECOND FORM's CARD OF 'wireglasslaw23.TapCounts'. -/
def tapCountsUptoCard : Claim7 := { stood := { row := tapCountsUptoRow, standIns := [], harness := (true, "e52f315291b9b8f62d816419d89c1c73e901d276f5233db27ffa9eb1027d8870"), looks := false }, kinds := [], alts := [], laidByText := true, laidKinds := [.data, .data, .data], laidTests := true, laidLooks := .later }
def TapCountsUptoCardSaid : Prop := Claim7.holds Tryz.pinned (.plain (OpenSpec.upto tapCountsSpec)) tapCountsUptoCard

/-- THE SECOND FORM's CARD OF 'wireglasslaw23.TapMerges'. -/
def tapMergesUptoCard : Claim7 := { stood := { row := tapMergesUptoRow, standIns := [], harness := (true, "e52f315291b9b8f62d816419d89c1c73e901d276f5233db27ffa9eb1027d8870"), looks := false }, kinds := [], alts := [], laidByText := true, laidKinds := [.data, .data, .data], laidTests := true, laidLooks := .later }
def TapMergesUptoCardSaid : Prop := Claim7.holds Tryz.pinned (.plain (OpenSpec.upto tapMergesSpec)) tapMergesUptoCard

/-- THE SECOND FORM's CARD OF 'wireglasslaw23.TapNils'. -/
def tapNilsUptoCard : Claim7 := { stood := { row := tapNilsUptoRow, standIns := [], harness := (true, "e52f315291b9b8f62d816419d89c1c73e901d276f5233db27ffa9eb1027d8870"), looks := false }, kinds := [], alts := [], laidByText := true, laidKinds := [.data, .data, .data], laidTests := true, laidLooks := .later }
def TapNilsUptoCardSaid : Prop := Claim7.holds Tryz.pinned (.plain (OpenSpec.upto tapNilsSpec)) tapNilsUptoCard
end Rows
end Go.Proofs.YteeofpgnjekeaaaGreatDoor
