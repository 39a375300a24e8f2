/-
  DERIVED. GIVEN WITH THE SEED: THE CARDS: each row of YtogkfjljdmbogaaDoorRows.lean that lists a variable, with what it lists TIED to the program's text (the seventh form; the later family's looks); each row that meets fmt, with fmt's text TOLD by the authors' own Lean function (tested against real Go, not proved from fmt's source: count such statements apart). THE CARD IS WHAT COUNTS. Prove the row's statement (the work); the ties are given (YtogkfjljdmbogaaDoorTie.lean); close each card by the builder's one call (the guide's Derived/Test/ToyasCard.lean, 'card_holds'). Laid BY PROGRAM, IN A SANDBOX (cutbox-door.mjs). By AI agents, Wed Nov 11 2026. No macro, syntax, notation, axiom, sorry.
-/
import Derived.Test.YtogkfjljdmbogaaDoorRows
import GoSem.ClaimSeven
namespace Go.Proofs.YtogkfjljdmbogaaDoor
namespace Rows

/-- THE TIED CARD OF 'massiflaw6.MmrBags'. -/
def mmrBagsCard : Claim7 := { stood := { row := mmrBagsRow, standIns := [], harness := (true, "2f30a3b704f7b81eee5537343511e08ec055f2d2a6ccf2461401c25915ba97e3"), looks := false }, kinds := [], alts := [], laidByText := true, laidKinds := [.data, .data], laidTests := true, laidLooks := .later }
def MmrBagsCardSaid : Prop := Claim7.holds Tryd.pinned (.plain (OpenSpec.ofChange mmrBagsSpec)) mmrBagsCard

/-- THE TIED CARD OF 'massiflaw6.MmrData'. -/
def mmrDataCard : Claim7 := { stood := { row := mmrDataRow, standIns := [], harness := (true, "2f30a3b704f7b81eee5537343511e08ec055f2d2a6ccf2461401c25915ba97e3"), looks := false }, kinds := [], alts := [], laidByText := true, laidKinds := [.data, .data], laidTests := true, laidLooks := .later }
def MmrDataCardSaid : Prop := Claim7.holds Tryd.pinned (.plain (OpenSpec.ofChange mmrDataSpec)) mmrDataCard

/-- THE TIED CARD OF 'massiflaw6.MmrOld'. -/
def mmrOldCard : Claim7 := { stood := { row := mmrOldRow, standIns := [], harness := (true, "2f30a3b704f7b81eee5537343511e08ec055f2d2a6ccf2461401c25915ba97e3"), looks := false }, kinds := [], alts := [], laidByText := true, laidKinds := [.data, .data], laidTests := true, laidLooks := .later }
def MmrOldCardSaid : Prop := Claim7.holds Tryd.pinned (.plain (OpenSpec.ofChange mmrOldSpec)) mmrOldCard

/-- THE TIED CARD OF 'massiflaw6.MmrInstalls'. -/
def mmrInstallsCard : Claim7 := { stood := { row := mmrInstallsRow, standIns := [], harness := (true, "2f30a3b704f7b81eee5537343511e08ec055f2d2a6ccf2461401c25915ba97e3"), looks := false }, kinds := [], alts := [], laidByText := true, laidKinds := [.data, .data], laidTests := true, laidLooks := .later }
def MmrInstallsCardSaid : Prop := Claim7.holds Tryd.pinned (.plain (OpenSpec.ofChange mmrInstallsSpec)) mmrInstallsCard

/-- THE TIED CARD OF 'massiflaw6.MmrForest'. -/
def mmrForestCard : Claim7 := { stood := { row := mmrForestRow, standIns := [], harness := (true, "2f30a3b704f7b81eee5537343511e08ec055f2d2a6ccf2461401c25915ba97e3"), looks := false }, kinds := [], alts := [], laidByText := true, laidKinds := [.data, .data], laidTests := true, laidLooks := .later }
def MmrForestCardSaid : Prop := Claim7.holds Tryd.pinned (.plain (OpenSpec.ofChange mmrForestSpec)) mmrForestCard

/-- THE SECOND FORM's CARD OF 'massiflaw6.MmrBags'. -/
def mmrBagsUptoCard : Claim7 := { stood := { row := mmrBagsUptoRow, standIns := [], harness := (true, "2f30a3b704f7b81eee5537343511e08ec055f2d2a6ccf2461401c25915ba97e3"), looks := false }, kinds := [], alts := [], laidByText := true, laidKinds := [.data, .data], laidTests := true, laidLooks := .later }
def MmrBagsUptoCardSaid : Prop := Claim7.holds Tryd.pinned (.plain (OpenSpec.upto mmrBagsSpec)) mmrBagsUptoCard

/-- THE SECOND FORM's CARD OF 'massiflaw6.MmrData'. -/
def mmrDataUptoCard : Claim7 := { stood := { row := mmrDataUptoRow, standIns := [], harness := (true, "2f30a3b704f7b81eee5537343511e08ec055f2d2a6ccf2461401c25915ba97e3"), looks := false }, kinds := [], alts := [], laidByText := true, laidKinds := [.data, .data], laidTests := true, laidLooks := .later }
def MmrDataUptoCardSaid : Prop := Claim7.holds Tryd.pinned (.plain (OpenSpec.upto mmrDataSpec)) mmrDataUptoCard

/-- THE SECOND FORM's CARD OF 'massiflaw6.MmrOld'. -/
def mmrOldUptoCard : Claim7 := { stood := { row := mmrOldUptoRow, standIns := [], harness := (true, "2f30a3b704f7b81eee5537343511e08ec055f2d2a6ccf2461401c25915ba97e3"), looks := false }, kinds := [], alts := [], laidByText := true, laidKinds := [.data, .data], laidTests := true, laidLooks := .later }
def MmrOldUptoCardSaid : Prop := Claim7.holds Tryd.pinned (.plain (OpenSpec.upto mmrOldSpec)) mmrOldUptoCard

/-- THE SECOND FORM's CARD OF 'massiflaw6.MmrInstalls'. -/
def mmrInstallsUptoCard : Claim7 := { stood := { row := mmrInstallsUptoRow, standIns := [], harness := (true, "2f30a3b704f7b81eee5537343511e08ec055f2d2a6ccf2461401c25915ba97e3"), looks := false }, kinds := [], alts := [], laidByText := true, laidKinds := [.data, .data], laidTests := true, laidLooks := .later }
def MmrInstallsUptoCardSaid : Prop := Claim7.holds Tryd.pinned (.plain (OpenSpec.upto mmrInstallsSpec)) mmrInstallsUptoCard

/-- THE SECOND FORM's CARD OF 'massiflaw6.MmrForest'. -/
def mmrForestUptoCard : Claim7 := { stood := { row := mmrForestUptoRow, standIns := [], harness := (true, "2f30a3b704f7b81eee5537343511e08ec055f2d2a6ccf2461401c25915ba97e3"), looks := false }, kinds := [], alts := [], laidByText := true, laidKinds := [.data, .data], laidTests := true, laidLooks := .later }
def MmrForestUptoCardSaid : Prop := Claim7.holds Tryd.pinned (.plain (OpenSpec.upto mmrForestSpec)) mmrForestUptoCard
end Rows
end Go.Proofs.YtogkfjljdmbogaaDoor
