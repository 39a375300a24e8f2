/-
  DERIVED. GIVEN WITH THE SEED: THE CARDS: each row of YtpklkefnmoaaaaaGreatDoorRows.lean that lists a variable, with what it lists TIED to the program's text (the seventh form; the later family's looks); each row that meets fmt, with fmt's text TOLD by the authors' own Lean function (tested against real Go, not proved from fmt's source: count such statements apart). THE CARD IS WHAT COUNTS. Prove the row's statement (the work); the ties are given (YtpklkefnmoaaaaaGreatDoorTie.lean); close each card by the builder's one call (the guide's Derived/Test/ToyasCard.lean, 'card_holds'). Laid BY PROGRAM, IN A SANDBOX (cutbox-door.mjs). By AI agents, Wed Nov 11 2026. No macro, syntax, notation, axiom, sorry.
-/
import Derived.Test.YtpklkefnmoaaaaaGreatDoorRows
import GoSem.ClaimSeven
namespace Go.Proofs.YtpklkefnmoaaaaaGreatDoor
namespace Rows

/-- THE TIED CARD OF 'massiflaw6.MmrPlays'. -/
def mmrPlaysCard : Claim7 := { stood := { row := mmrPlaysRow, standIns := [], harness := (true, "456b1a81da3082d4e00f0147a97da6746220c2473762e7735ceed30caf20ffe2"), looks := false }, kinds := [], alts := [], laidByText := true, laidKinds := [.data, .data], laidTests := true, laidLooks := .later }
def MmrPlaysCardSaid : Prop := Claim7.holds Tryz.pinned (.plain (OpenSpec.ofChange mmrPlaysSpec)) mmrPlaysCard

/-- THE TIED CARD OF 'massiflaw22.FindProves'. -/
def findProvesCard : Claim7 := { stood := { row := findProvesRow, standIns := [], harness := (true, "456b1a81da3082d4e00f0147a97da6746220c2473762e7735ceed30caf20ffe2"), looks := false }, kinds := [], alts := [], laidByText := true, laidKinds := [.data, .data], laidTests := true, laidLooks := .later }
def FindProvesCardSaid : Prop := Claim7.holds Tryz.pinned (.plain (OpenSpec.ofChange findProvesSpec)) findProvesCard

/-- THE TIED CARD OF 'massiflaw11.KeepStays'. -/
def keepStaysCard : Claim7 := { stood := { row := keepStaysRow, standIns := [], harness := (true, "456b1a81da3082d4e00f0147a97da6746220c2473762e7735ceed30caf20ffe2"), looks := false }, kinds := [], alts := [], laidByText := true, laidKinds := [.data, .data], laidTests := true, laidLooks := .later }
def KeepStaysCardSaid : Prop := Claim7.holds Tryz.pinned (.plain (OpenSpec.ofChange keepStaysSpec)) keepStaysCard

/-- THE TIED CARD OF 'massiflaw11.KeepPrunes'. -/
def keepPrunesCard : Claim7 := { stood := { row := keepPrunesRow, standIns := [], harness := (true, "456b1a81da3082d4e00f0147a97da6746220c2473762e7735ceed30caf20ffe2"), looks := false }, kinds := [], alts := [], laidByText := true, laidKinds := [.data, .data], laidTests := true, laidLooks := .later }
def KeepPrunesCardSaid : Prop := Claim7.holds Tryz.pinned (.plain (OpenSpec.ofChange keepPrunesSpec)) keepPrunesCard

/-- THE TIED CARD OF 'massiflaw11.KeepProves'. -/
def keepProvesCard : Claim7 := { stood := { row := keepProvesRow, standIns := [], harness := (true, "456b1a81da3082d4e00f0147a97da6746220c2473762e7735ceed30caf20ffe2"), looks := false }, kinds := [], alts := [], laidByText := true, laidKinds := [.data, .data, .data], laidTests := true, laidLooks := .later }
def KeepProvesCardSaid : Prop := Claim7.holds Tryz.pinned (.plain (OpenSpec.ofChange keepProvesSpec)) keepProvesCard

/-- THE TIED CARD OF 'massiflaw11.KeepAgain'. -/
def keepAgainCard : Claim7 := { stood := { row := keepAgainRow, standIns := [], harness := (true, "456b1a81da3082d4e00f0147a97da6746220c2473762e7735ceed30caf20ffe2"), looks := false }, kinds := [], alts := [], laidByText := true, laidKinds := [.data, .data], laidTests := true, laidLooks := .later }
def KeepAgainCardSaid : Prop := Claim7.holds Tryz.pinned (.plain (OpenSpec.ofChange keepAgainSpec)) keepAgainCard

/-- THE TIED CARD OF 'massiflaw11.KeepPlays'. -/
def keepPlaysCard : Claim7 := { stood := { row := keepPlaysRow, standIns := [], harness := (true, "456b1a81da3082d4e00f0147a97da6746220c2473762e7735ceed30caf20ffe2"), looks := false }, kinds := [], alts := [], laidByText := true, laidKinds := [.data, .data, .data], laidTests := true, laidLooks := .later }
def KeepPlaysCardSaid : Prop := Claim7.holds Tryz.pinned (.plain (OpenSpec.ofChange keepPlaysSpec)) keepPlaysCard

/-- THE TIED CARD OF 'massiflaw11.KeepApart'. -/
def keepApartCard : Claim7 := { stood := { row := keepApartRow, standIns := [], harness := (true, "456b1a81da3082d4e00f0147a97da6746220c2473762e7735ceed30caf20ffe2"), looks := false }, kinds := [], alts := [], laidByText := true, laidKinds := [.data, .data, .data], laidTests := true, laidLooks := .later }
def KeepApartCardSaid : Prop := Claim7.holds Tryz.pinned (.plain (OpenSpec.ofChange keepApartSpec)) keepApartCard

/-- THE TIED CARD OF 'massiflaw11.KeepFroms'. -/
def keepFromsCard : Claim7 := { stood := { row := keepFromsRow, standIns := [], harness := (true, "456b1a81da3082d4e00f0147a97da6746220c2473762e7735ceed30caf20ffe2"), looks := false }, kinds := [], alts := [], laidByText := true, laidKinds := [.data, .data, .data], laidTests := true, laidLooks := .later }
def KeepFromsCardSaid : Prop := Claim7.holds Tryz.pinned (.plain (OpenSpec.ofChange keepFromsSpec)) keepFromsCard

/-- THE SECOND FORM's CARD OF 'massiflaw6.MmrPlays'. -/
def mmrPlaysUptoCard : Claim7 := { stood := { row := mmrPlaysUptoRow, standIns := [], harness := (true, "456b1a81da3082d4e00f0147a97da6746220c2473762e7735ceed30caf20ffe2"), looks := false }, kinds := [], alts := [], laidByText := true, laidKinds := [.data, .data], laidTests := true, laidLooks := .later }
def MmrPlaysUptoCardSaid : Prop := Claim7.holds Tryz.pinned (.plain (OpenSpec.upto mmrPlaysSpec)) mmrPlaysUptoCard

/-- THE SECOND FORM's CARD OF 'massiflaw22.FindProves'. -/
def findProvesUptoCard : Claim7 := { stood := { row := findProvesUptoRow, standIns := [], harness := (true, "456b1a81da3082d4e00f0147a97da6746220c2473762e7735ceed30caf20ffe2"), looks := false }, kinds := [], alts := [], laidByText := true, laidKinds := [.data, .data], laidTests := true, laidLooks := .later }
def FindProvesUptoCardSaid : Prop := Claim7.holds Tryz.pinned (.plain (OpenSpec.upto findProvesSpec)) findProvesUptoCard

/-- THE SECOND FORM's CARD OF 'massiflaw11.KeepStays'. -/
def keepStaysUptoCard : Claim7 := { stood := { row := keepStaysUptoRow, standIns := [], harness := (true, "456b1a81da3082d4e00f0147a97da6746220c2473762e7735ceed30caf20ffe2"), looks := false }, kinds := [], alts := [], laidByText := true, laidKinds := [.data, .data], laidTests := true, laidLooks := .later }
def KeepStaysUptoCardSaid : Prop := Claim7.holds Tryz.pinned (.plain (OpenSpec.upto keepStaysSpec)) keepStaysUptoCard

/-- THE SECOND FORM's CARD OF 'massiflaw11.KeepPrunes'. -/
def keepPrunesUptoCard : Claim7 := { stood := { row := keepPrunesUptoRow, standIns := [], harness := (true, "456b1a81da3082d4e00f0147a97da6746220c2473762e7735ceed30caf20ffe2"), looks := false }, kinds := [], alts := [], laidByText := true, laidKinds := [.data, .data], laidTests := true, laidLooks := .later }
def KeepPrunesUptoCardSaid : Prop := Claim7.holds Tryz.pinned (.plain (OpenSpec.upto keepPrunesSpec)) keepPrunesUptoCard

/-- THE SECOND FORM's CARD OF 'massiflaw11.KeepProves'. -/
def keepProvesUptoCard : Claim7 := { stood := { row := keepProvesUptoRow, standIns := [], harness := (true, "456b1a81da3082d4e00f0147a97da6746220c2473762e7735ceed30caf20ffe2"), looks := false }, kinds := [], alts := [], laidByText := true, laidKinds := [.data, .data, .data], laidTests := true, laidLooks := .later }
def KeepProvesUptoCardSaid : Prop := Claim7.holds Tryz.pinned (.plain (OpenSpec.upto keepProvesSpec)) keepProvesUptoCard

/-- THE SECOND FORM's CARD OF 'massiflaw11.KeepAgain'. -/
def keepAgainUptoCard : Claim7 := { stood := { row := keepAgainUptoRow, standIns := [], harness := (true, "456b1a81da3082d4e00f0147a97da6746220c2473762e7735ceed30caf20ffe2"), looks := false }, kinds := [], alts := [], laidByText := true, laidKinds := [.data, .data], laidTests := true, laidLooks := .later }
def KeepAgainUptoCardSaid : Prop := Claim7.holds Tryz.pinned (.plain (OpenSpec.upto keepAgainSpec)) keepAgainUptoCard

/-- THE SECOND FORM's CARD OF 'massiflaw11.KeepPlays'. -/
def keepPlaysUptoCard : Claim7 := { stood := { row := keepPlaysUptoRow, standIns := [], harness := (true, "456b1a81da3082d4e00f0147a97da6746220c2473762e7735ceed30caf20ffe2"), looks := false }, kinds := [], alts := [], laidByText := true, laidKinds := [.data, .data, .data], laidTests := true, laidLooks := .later }
def KeepPlaysUptoCardSaid : Prop := Claim7.holds Tryz.pinned (.plain (OpenSpec.upto keepPlaysSpec)) keepPlaysUptoCard

/-- THE SECOND FORM's CARD OF 'massiflaw11.KeepApart'. -/
def keepApartUptoCard : Claim7 := { stood := { row := keepApartUptoRow, standIns := [], harness := (true, "456b1a81da3082d4e00f0147a97da6746220c2473762e7735ceed30caf20ffe2"), looks := false }, kinds := [], alts := [], laidByText := true, laidKinds := [.data, .data, .data], laidTests := true, laidLooks := .later }
def KeepApartUptoCardSaid : Prop := Claim7.holds Tryz.pinned (.plain (OpenSpec.upto keepApartSpec)) keepApartUptoCard

/-- THE SECOND FORM's CARD OF 'massiflaw11.KeepFroms'. -/
def keepFromsUptoCard : Claim7 := { stood := { row := keepFromsUptoRow, standIns := [], harness := (true, "456b1a81da3082d4e00f0147a97da6746220c2473762e7735ceed30caf20ffe2"), looks := false }, kinds := [], alts := [], laidByText := true, laidKinds := [.data, .data, .data], laidTests := true, laidLooks := .later }
def KeepFromsUptoCardSaid : Prop := Claim7.holds Tryz.pinned (.plain (OpenSpec.upto keepFromsSpec)) keepFromsUptoCard
end Rows
end Go.Proofs.YtpklkefnmoaaaaaGreatDoor
