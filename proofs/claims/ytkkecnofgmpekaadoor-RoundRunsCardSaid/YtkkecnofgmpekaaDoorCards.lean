/-
  DERIVED. GIVEN WITH THE SEED: THE CARDS: each row of YtkkecnofgmpekaaDoorRows.lean that lists a variable, with what it lists TIED to the program's text (the seventh form; the later family's looks); each row that meets fmt, with fmt's text TOLD by the authors' own Lean function (tested against real Go, not proved from fmt's source: count such statements apart). THE CARD IS WHAT COUNTS. Prove the row's statement (the work); the ties are given (YtkkecnofgmpekaaDoorTie.lean); close each card by the builder's one call (the guide's Derived/Test/ToyasCard.lean, 'card_holds'). Laid BY PROGRAM, IN A SANDBOX (cutbox-door.mjs). By AI agents, Wed Nov 11 2026. No macro, syntax, notation, axiom, sorry.
-/
import Derived.Test.YtkkecnofgmpekaaDoorRows
import GoSem.ClaimSeven
namespace Go.Proofs.YtkkecnofgmpekaaDoor
namespace Rows

/-- THE TIED CARD OF 'floodgatelaw2.FifoLindley'. -/
def fifoLindleyCard : Claim7 := { stood := { row := fifoLindleyRow, standIns := [], harness := (true, "704d66748bd69ab7d919572fb0f89ea95e6813ee6ce9cc7dc09844a9ba29067a"), looks := true }, kinds := [], alts := [], laidByText := true, laidKinds := [.sentinel, .sentinel], laidTests := true, laidLooks := .later }
def FifoLindleyCardSaid : Prop := Claim7.holds Tryd.pinned (.plain (OpenSpec.ofChange fifoLindleySpec)) fifoLindleyCard

/-- THE TIED CARD OF 'floodgatelaw2.RankWaits'. -/
def rankWaitsCard : Claim7 := { stood := { row := rankWaitsRow, standIns := [], harness := (true, "704d66748bd69ab7d919572fb0f89ea95e6813ee6ce9cc7dc09844a9ba29067a"), looks := true }, kinds := [], alts := [], laidByText := true, laidKinds := [.sentinel, .sentinel, .sentinel], laidTests := true, laidLooks := .later }
def RankWaitsCardSaid : Prop := Claim7.holds Tryd.pinned (.plain (OpenSpec.ofChange rankWaitsSpec)) rankWaitsCard

/-- THE TIED CARD OF 'floodgatelaw2.RoundShares'. -/
def roundSharesCard : Claim7 := { stood := { row := roundSharesRow, standIns := [], harness := (true, "704d66748bd69ab7d919572fb0f89ea95e6813ee6ce9cc7dc09844a9ba29067a"), looks := true }, kinds := [], alts := [], laidByText := true, laidKinds := [.sentinel, .sentinel, .sentinel, .sentinel], laidTests := true, laidLooks := .later }
def RoundSharesCardSaid : Prop := Claim7.holds Tryd.pinned (.plain (OpenSpec.ofChange roundSharesSpec)) roundSharesCard

/-- THE TIED CARD OF 'floodgatelaw2.RankDues'. -/
def rankDuesCard : Claim7 := { stood := { row := rankDuesRow, standIns := [], harness := (true, "704d66748bd69ab7d919572fb0f89ea95e6813ee6ce9cc7dc09844a9ba29067a"), looks := true }, kinds := [], alts := [], laidByText := true, laidKinds := [.sentinel, .sentinel, .sentinel, .sentinel], laidTests := true, laidLooks := .later }
def RankDuesCardSaid : Prop := Claim7.holds Tryd.pinned (.plain (OpenSpec.ofChange rankDuesSpec)) rankDuesCard

/-- THE TIED CARD OF 'floodgatelaw2.FairShares'. -/
def fairSharesCard : Claim7 := { stood := { row := fairSharesRow, standIns := [], harness := (true, "704d66748bd69ab7d919572fb0f89ea95e6813ee6ce9cc7dc09844a9ba29067a"), looks := true }, kinds := [], alts := [], laidByText := true, laidKinds := [.sentinel, .sentinel, .sentinel, .sentinel], laidTests := true, laidLooks := .later }
def FairSharesCardSaid : Prop := Claim7.holds Tryd.pinned (.plain (OpenSpec.ofChange fairSharesSpec)) fairSharesCard

/-- THE TIED CARD OF 'floodgatelaw2.FifoRuns'. -/
def fifoRunsCard : Claim7 := { stood := { row := fifoRunsRow, standIns := [], harness := (true, "704d66748bd69ab7d919572fb0f89ea95e6813ee6ce9cc7dc09844a9ba29067a"), looks := true }, kinds := [], alts := [], laidByText := true, laidKinds := [.handle, .sentinel, .sentinel, .sentinel, .sentinel, .sentinel, .sentinel, .sentinel, .sentinel, .sentinel], laidTests := true, laidLooks := .later }
def FifoRunsCardSaid : Prop := Claim7.holds Tryd.pinned (.plain (OpenSpec.ofChange fifoRunsSpec)) fifoRunsCard

/-- THE TIED CARD OF 'floodgatelaw2.FairRuns'. -/
def fairRunsCard : Claim7 := { stood := { row := fairRunsRow, standIns := [], harness := (true, "704d66748bd69ab7d919572fb0f89ea95e6813ee6ce9cc7dc09844a9ba29067a"), looks := true }, kinds := [], alts := [], laidByText := true, laidKinds := [.handle, .sentinel, .sentinel, .sentinel, .sentinel, .sentinel, .sentinel, .sentinel, .sentinel, .sentinel], laidTests := true, laidLooks := .later }
def FairRunsCardSaid : Prop := Claim7.holds Tryd.pinned (.plain (OpenSpec.ofChange fairRunsSpec)) fairRunsCard

/-- THE TIED CARD OF 'floodgatelaw2.FifoTells'. -/
def fifoTellsCard : Claim7 := { stood := { row := fifoTellsRow, standIns := [], harness := (true, "704d66748bd69ab7d919572fb0f89ea95e6813ee6ce9cc7dc09844a9ba29067a"), looks := true }, kinds := [], alts := [], laidByText := true, laidKinds := [.handle, .sentinel, .sentinel, .sentinel, .sentinel, .sentinel, .sentinel, .sentinel, .sentinel, .sentinel], laidTests := true, laidLooks := .later }
def FifoTellsCardSaid : Prop := Claim7.holds Tryd.pinned (.plain (OpenSpec.ofChange fifoTellsSpec)) fifoTellsCard

/-- THE TIED CARD OF 'floodgatelaw2.RankLate'. -/
def rankLateCard : Claim7 := { stood := { row := rankLateRow, standIns := [], harness := (true, "704d66748bd69ab7d919572fb0f89ea95e6813ee6ce9cc7dc09844a9ba29067a"), looks := true }, kinds := [], alts := [], laidByText := true, laidKinds := [.handle, .sentinel, .sentinel, .sentinel, .sentinel, .sentinel, .sentinel, .sentinel, .sentinel, .sentinel], laidTests := true, laidLooks := .later }
def RankLateCardSaid : Prop := Claim7.holds Tryd.pinned (.plain (OpenSpec.ofChange rankLateSpec)) rankLateCard

/-- THE TIED CARD OF 'floodgatelaw2.RoundSpread'. -/
def roundSpreadCard : Claim7 := { stood := { row := roundSpreadRow, standIns := [], harness := (true, "704d66748bd69ab7d919572fb0f89ea95e6813ee6ce9cc7dc09844a9ba29067a"), looks := true }, kinds := [], alts := [], laidByText := true, laidKinds := [.handle, .sentinel, .sentinel, .sentinel, .sentinel, .sentinel, .sentinel, .sentinel, .sentinel, .sentinel], laidTests := true, laidLooks := .later }
def RoundSpreadCardSaid : Prop := Claim7.holds Tryd.pinned (.plain (OpenSpec.ofChange roundSpreadSpec)) roundSpreadCard

/-- THE TIED CARD OF 'floodgatelaw2.RoundRuns'. -/
def roundRunsCard : Claim7 := { stood := { row := roundRunsRow, standIns := [], harness := (true, "704d66748bd69ab7d919572fb0f89ea95e6813ee6ce9cc7dc09844a9ba29067a"), looks := true }, kinds := [], alts := [], laidByText := true, laidKinds := [.handle, .sentinel, .sentinel, .sentinel, .sentinel, .sentinel, .sentinel, .sentinel, .sentinel, .sentinel], laidTests := true, laidLooks := .later }
def RoundRunsCardSaid : Prop := Claim7.holds Tryd.pinned (.plain (OpenSpec.ofChange roundRunsSpec)) roundRunsCard

/-- THE TIED CARD OF 'floodgatelaw2.RankRuns'. -/
def rankRunsCard : Claim7 := { stood := { row := rankRunsRow, standIns := [], harness := (true, "704d66748bd69ab7d919572fb0f89ea95e6813ee6ce9cc7dc09844a9ba29067a"), looks := true }, kinds := [], alts := [], laidByText := true, laidKinds := [.handle, .sentinel, .sentinel, .sentinel, .sentinel, .sentinel, .sentinel, .sentinel, .sentinel, .sentinel], laidTests := true, laidLooks := .later }
def RankRunsCardSaid : Prop := Claim7.holds Tryd.pinned (.plain (OpenSpec.ofChange rankRunsSpec)) rankRunsCard

/-- THE SECOND FORM's CARD OF 'floodgatelaw2.FifoLindley'. -/
def fifoLindleyUptoCard : Claim7 := { stood := { row := fifoLindleyUptoRow, standIns := [], harness := (true, "704d66748bd69ab7d919572fb0f89ea95e6813ee6ce9cc7dc09844a9ba29067a"), looks := true }, kinds := [], alts := [], laidByText := true, laidKinds := [.sentinel, .sentinel], laidTests := true, laidLooks := .later }
def FifoLindleyUptoCardSaid : Prop := Claim7.holds Tryd.pinned (.plain (OpenSpec.upto fifoLindleySpec)) fifoLindleyUptoCard

/-- THE SECOND FORM's CARD OF 'floodgatelaw2.RankWaits'. -/
def rankWaitsUptoCard : Claim7 := { stood := { row := rankWaitsUptoRow, standIns := [], harness := (true, "704d66748bd69ab7d919572fb0f89ea95e6813ee6ce9cc7dc09844a9ba29067a"), looks := true }, kinds := [], alts := [], laidByText := true, laidKinds := [.sentinel, .sentinel, .sentinel], laidTests := true, laidLooks := .later }
def RankWaitsUptoCardSaid : Prop := Claim7.holds Tryd.pinned (.plain (OpenSpec.upto rankWaitsSpec)) rankWaitsUptoCard

/-- THE SECOND FORM's CARD OF 'floodgatelaw2.RoundShares'. -/
def roundSharesUptoCard : Claim7 := { stood := { row := roundSharesUptoRow, standIns := [], harness := (true, "704d66748bd69ab7d919572fb0f89ea95e6813ee6ce9cc7dc09844a9ba29067a"), looks := true }, kinds := [], alts := [], laidByText := true, laidKinds := [.sentinel, .sentinel, .sentinel, .sentinel], laidTests := true, laidLooks := .later }
def RoundSharesUptoCardSaid : Prop := Claim7.holds Tryd.pinned (.plain (OpenSpec.upto roundSharesSpec)) roundSharesUptoCard

/-- THE SECOND FORM's CARD OF 'floodgatelaw2.RankDues'. -/
def rankDuesUptoCard : Claim7 := { stood := { row := rankDuesUptoRow, standIns := [], harness := (true, "704d66748bd69ab7d919572fb0f89ea95e6813ee6ce9cc7dc09844a9ba29067a"), looks := true }, kinds := [], alts := [], laidByText := true, laidKinds := [.sentinel, .sentinel, .sentinel, .sentinel], laidTests := true, laidLooks := .later }
def RankDuesUptoCardSaid : Prop := Claim7.holds Tryd.pinned (.plain (OpenSpec.upto rankDuesSpec)) rankDuesUptoCard

/-- THE SECOND FORM's CARD OF 'floodgatelaw2.FairShares'. -/
def fairSharesUptoCard : Claim7 := { stood := { row := fairSharesUptoRow, standIns := [], harness := (true, "704d66748bd69ab7d919572fb0f89ea95e6813ee6ce9cc7dc09844a9ba29067a"), looks := true }, kinds := [], alts := [], laidByText := true, laidKinds := [.sentinel, .sentinel, .sentinel, .sentinel], laidTests := true, laidLooks := .later }
def FairSharesUptoCardSaid : Prop := Claim7.holds Tryd.pinned (.plain (OpenSpec.upto fairSharesSpec)) fairSharesUptoCard

/-- THE SECOND FORM's CARD OF 'floodgatelaw2.FifoRuns'. -/
def fifoRunsUptoCard : Claim7 := { stood := { row := fifoRunsUptoRow, standIns := [], harness := (true, "704d66748bd69ab7d919572fb0f89ea95e6813ee6ce9cc7dc09844a9ba29067a"), looks := true }, kinds := [], alts := [], laidByText := true, laidKinds := [.handle, .sentinel, .sentinel, .sentinel, .sentinel, .sentinel, .sentinel, .sentinel, .sentinel, .sentinel], laidTests := true, laidLooks := .later }
def FifoRunsUptoCardSaid : Prop := Claim7.holds Tryd.pinned (.plain (OpenSpec.upto fifoRunsSpec)) fifoRunsUptoCard

/-- THE SECOND FORM's CARD OF 'floodgatelaw2.FairRuns'. -/
def fairRunsUptoCard : Claim7 := { stood := { row := fairRunsUptoRow, standIns := [], harness := (true, "704d66748bd69ab7d919572fb0f89ea95e6813ee6ce9cc7dc09844a9ba29067a"), looks := true }, kinds := [], alts := [], laidByText := true, laidKinds := [.handle, .sentinel, .sentinel, .sentinel, .sentinel, .sentinel, .sentinel, .sentinel, .sentinel, .sentinel], laidTests := true, laidLooks := .later }
def FairRunsUptoCardSaid : Prop := Claim7.holds Tryd.pinned (.plain (OpenSpec.upto fairRunsSpec)) fairRunsUptoCard

/-- THE SECOND FORM's CARD OF 'floodgatelaw2.FifoTells'. -/
def fifoTellsUptoCard : Claim7 := { stood := { row := fifoTellsUptoRow, standIns := [], harness := (true, "704d66748bd69ab7d919572fb0f89ea95e6813ee6ce9cc7dc09844a9ba29067a"), looks := true }, kinds := [], alts := [], laidByText := true, laidKinds := [.handle, .sentinel, .sentinel, .sentinel, .sentinel, .sentinel, .sentinel, .sentinel, .sentinel, .sentinel], laidTests := true, laidLooks := .later }
def FifoTellsUptoCardSaid : Prop := Claim7.holds Tryd.pinned (.plain (OpenSpec.upto fifoTellsSpec)) fifoTellsUptoCard

/-- THE SECOND FORM's CARD OF 'floodgatelaw2.RankLate'. -/
def rankLateUptoCard : Claim7 := { stood := { row := rankLateUptoRow, standIns := [], harness := (true, "704d66748bd69ab7d919572fb0f89ea95e6813ee6ce9cc7dc09844a9ba29067a"), looks := true }, kinds := [], alts := [], laidByText := true, laidKinds := [.handle, .sentinel, .sentinel, .sentinel, .sentinel, .sentinel, .sentinel, .sentinel, .sentinel, .sentinel], laidTests := true, laidLooks := .later }
def RankLateUptoCardSaid : Prop := Claim7.holds Tryd.pinned (.plain (OpenSpec.upto rankLateSpec)) rankLateUptoCard

/-- THE SECOND FORM's CARD OF 'floodgatelaw2.RoundSpread'. -/
def roundSpreadUptoCard : Claim7 := { stood := { row := roundSpreadUptoRow, standIns := [], harness := (true, "704d66748bd69ab7d919572fb0f89ea95e6813ee6ce9cc7dc09844a9ba29067a"), looks := true }, kinds := [], alts := [], laidByText := true, laidKinds := [.handle, .sentinel, .sentinel, .sentinel, .sentinel, .sentinel, .sentinel, .sentinel, .sentinel, .sentinel], laidTests := true, laidLooks := .later }
def RoundSpreadUptoCardSaid : Prop := Claim7.holds Tryd.pinned (.plain (OpenSpec.upto roundSpreadSpec)) roundSpreadUptoCard

/-- THE SECOND FORM's CARD OF 'floodgatelaw2.RoundRuns'. -/
def roundRunsUptoCard : Claim7 := { stood := { row := roundRunsUptoRow, standIns := [], harness := (true, "704d66748bd69ab7d919572fb0f89ea95e6813ee6ce9cc7dc09844a9ba29067a"), looks := true }, kinds := [], alts := [], laidByText := true, laidKinds := [.handle, .sentinel, .sentinel, .sentinel, .sentinel, .sentinel, .sentinel, .sentinel, .sentinel, .sentinel], laidTests := true, laidLooks := .later }
def RoundRunsUptoCardSaid : Prop := Claim7.holds Tryd.pinned (.plain (OpenSpec.upto roundRunsSpec)) roundRunsUptoCard

/-- THE SECOND FORM's CARD OF 'floodgatelaw2.RankRuns'. -/
def rankRunsUptoCard : Claim7 := { stood := { row := rankRunsUptoRow, standIns := [], harness := (true, "704d66748bd69ab7d919572fb0f89ea95e6813ee6ce9cc7dc09844a9ba29067a"), looks := true }, kinds := [], alts := [], laidByText := true, laidKinds := [.handle, .sentinel, .sentinel, .sentinel, .sentinel, .sentinel, .sentinel, .sentinel, .sentinel, .sentinel], laidTests := true, laidLooks := .later }
def RankRunsUptoCardSaid : Prop := Claim7.holds Tryd.pinned (.plain (OpenSpec.upto rankRunsSpec)) rankRunsUptoCard
end Rows
end Go.Proofs.YtkkecnofgmpekaaDoor
