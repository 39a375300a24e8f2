/-
  DERIVED. GIVEN WITH THE SEED: THE CARDS: each row of YtnodjlgihhinpaaDoorRows.lean that lists a variable, with what it lists TIED to the program's text (the seventh form; the later family's looks); each row that meets fmt, with fmt's text TOLD by the authors' own Lean function (tested against real Go, not proved from fmt's source: count such statements apart). THE CARD IS WHAT COUNTS. Prove the row's statement (the work); the ties are given (YtnodjlgihhinpaaDoorTie.lean); close each card by the builder's one call (the guide's Derived/Test/ToyasCard.lean, 'card_holds'). Laid BY PROGRAM, IN A SANDBOX (cutbox-door.mjs). By AI agents, Wed Nov 11 2026. No macro, syntax, notation, axiom, sorry.
-/
import Derived.Test.YtnodjlgihhinpaaDoorRows
import GoSem.ClaimSeven
namespace Go.Proofs.YtnodjlgihhinpaaDoor
namespace Rows

/-- THE TIED CARD OF 'massiflaw6.MmrGrows'. -/
def mmrGrowsCard : Claim7 := { stood := { row := mmrGrowsRow, standIns := [], harness := (true, "e0ca4d57bab8654ca6d3c2170ba4e0117331c8741828be996ee01af769d8786e"), looks := false }, kinds := [], alts := [], goes := true, laidByText := true, laidKinds := [.data, .data], laidTests := true, laidLooks := .later }
def MmrGrowsCardSaid : Prop := Claim7.holds Tryd.pinned (.plain (OpenSpec.ofChange mmrGrowsSpec)) mmrGrowsCard

/-- THE TIED CARD OF 'massiflaw6.MmrGrown'. -/
def mmrGrownCard : Claim7 := { stood := { row := mmrGrownRow, standIns := [], harness := (true, "e0ca4d57bab8654ca6d3c2170ba4e0117331c8741828be996ee01af769d8786e"), looks := false }, kinds := [], alts := [], goes := true, laidByText := true, laidKinds := [.data, .data], laidTests := true, laidLooks := .later }
def MmrGrownCardSaid : Prop := Claim7.holds Tryd.pinned (.plain (OpenSpec.ofChange mmrGrownSpec)) mmrGrownCard

/-- THE TIED CARD OF 'massiflaw14.PoolPerfect'. -/
def poolPerfectCard : Claim7 := { stood := { row := poolPerfectRow, standIns := [], harness := (true, "e0ca4d57bab8654ca6d3c2170ba4e0117331c8741828be996ee01af769d8786e"), looks := false }, kinds := [], alts := [], goes := true, laidByText := true, laidKinds := [.data, .data], laidTests := true, laidLooks := .later }
def PoolPerfectCardSaid : Prop := Claim7.holds Tryd.pinned (.plain (OpenSpec.ofChange poolPerfectSpec)) poolPerfectCard

/-- THE SECOND FORM's CARD OF 'massiflaw6.MmrGrows'. -/
def mmrGrowsUptoCard : Claim7 := { stood := { row := mmrGrowsUptoRow, standIns := [], harness := (true, "e0ca4d57bab8654ca6d3c2170ba4e0117331c8741828be996ee01af769d8786e"), looks := false }, kinds := [], alts := [], goes := true, laidByText := true, laidKinds := [.data, .data], laidTests := true, laidLooks := .later }
def MmrGrowsUptoCardSaid : Prop := Claim7.holds Tryd.pinned (.plain (OpenSpec.upto mmrGrowsSpec)) mmrGrowsUptoCard

/-- THE SECOND FORM's CARD OF 'massiflaw6.MmrGrown'. -/
def mmrGrownUptoCard : Claim7 := { stood := { row := mmrGrownUptoRow, standIns := [], harness := (true, "e0ca4d57bab8654ca6d3c2170ba4e0117331c8741828be996ee01af769d8786e"), looks := false }, kinds := [], alts := [], goes := true, laidByText := true, laidKinds := [.data, .data], laidTests := true, laidLooks := .later }
def MmrGrownUptoCardSaid : Prop := Claim7.holds Tryd.pinned (.plain (OpenSpec.upto mmrGrownSpec)) mmrGrownUptoCard

/-- THE SECOND FORM's CARD OF 'massiflaw14.PoolPerfect'. -/
def poolPerfectUptoCard : Claim7 := { stood := { row := poolPerfectUptoRow, standIns := [], harness := (true, "e0ca4d57bab8654ca6d3c2170ba4e0117331c8741828be996ee01af769d8786e"), looks := false }, kinds := [], alts := [], goes := true, laidByText := true, laidKinds := [.data, .data], laidTests := true, laidLooks := .later }
def PoolPerfectUptoCardSaid : Prop := Claim7.holds Tryd.pinned (.plain (OpenSpec.upto poolPerfectSpec)) poolPerfectUptoCard
end Rows
end Go.Proofs.YtnodjlgihhinpaaDoor
