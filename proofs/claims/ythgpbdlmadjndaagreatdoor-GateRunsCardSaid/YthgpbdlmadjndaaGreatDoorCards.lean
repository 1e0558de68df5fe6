/-
  DERIVED. GIVEN WITH THE SEED: THE CARDS: each row of YthgpbdlmadjndaaGreatDoorRows.lean that lists a variable, with what it lists TIED to the program's text (the seventh form; the later family's looks); each row that meets fmt, with fmt's text TOLD by the authors' own Lean function (tested against real Go, not proved from fmt's source: count such statements apart). THE CARD IS WHAT COUNTS. Prove the row's statement (the work); the ties are given (YthgpbdlmadjndaaGreatDoorTie.lean); close each card by the builder's one call (the guide's Derived/Test/ToyasCard.lean, 'card_holds'). Laid BY PROGRAM, IN A SANDBOX (cutbox-door.mjs). By AI agents, Wed Nov 11 2026. No macro, syntax, notation, axiom, sorry.
-/
import Derived.Test.YthgpbdlmadjndaaGreatDoorRows
import GoSem.ClaimSeven
namespace Go.Proofs.YthgpbdlmadjndaaGreatDoor
namespace Rows

/-- THE TIED CARD OF 'floodgatelaw3.GateRuns'. -/
def gateRunsCard : Claim7 := { stood := { row := gateRunsRow, standIns := [], harness := (true, "74896e7520389d3802dcdbbf5c0a78b897be1185a5d51628a153cc3afb35c2fe"), looks := true }, kinds := [], alts := [], laidByText := true, laidKinds := [.handle, .sentinel, .sentinel, .sentinel, .sentinel, .sentinel, .sentinel, .sentinel, .sentinel, .sentinel], laidTests := true, laidLooks := .later }
def GateRunsCardSaid : Prop := Claim7.holds Tryz.pinned (.plain (OpenSpec.ofChange gateRunsSpec)) gateRunsCard

/-- THE TIED CARD OF 'floodgatelaw3.GateBounds'. -/
def gateBoundsCard : Claim7 := { stood := { row := gateBoundsRow, standIns := [], harness := (true, "74896e7520389d3802dcdbbf5c0a78b897be1185a5d51628a153cc3afb35c2fe"), looks := true }, kinds := [], alts := [], laidByText := true, laidKinds := [.handle, .sentinel, .sentinel, .sentinel, .sentinel, .sentinel, .sentinel, .sentinel, .sentinel, .sentinel], laidTests := true, laidLooks := .later }
def GateBoundsCardSaid : Prop := Claim7.holds Tryz.pinned (.plain (OpenSpec.ofChange gateBoundsSpec)) gateBoundsCard

/-- THE TIED CARD OF 'floodgatelaw3.GateKeeps'. -/
def gateKeepsCard : Claim7 := { stood := { row := gateKeepsRow, standIns := [], harness := (true, "74896e7520389d3802dcdbbf5c0a78b897be1185a5d51628a153cc3afb35c2fe"), looks := true }, kinds := [], alts := [], laidByText := true, laidKinds := [.handle, .sentinel, .sentinel, .sentinel, .sentinel, .sentinel, .sentinel, .sentinel], laidTests := true, laidLooks := .later }
def GateKeepsCardSaid : Prop := Claim7.holds Tryz.pinned (.plain (OpenSpec.ofChange gateKeepsSpec)) gateKeepsCard

/-- THE SECOND FORM's CARD OF 'floodgatelaw3.GateRuns'. -/
def gateRunsUptoCard : Claim7 := { stood := { row := gateRunsUptoRow, standIns := [], harness := (true, "74896e7520389d3802dcdbbf5c0a78b897be1185a5d51628a153cc3afb35c2fe"), looks := true }, kinds := [], alts := [], laidByText := true, laidKinds := [.handle, .sentinel, .sentinel, .sentinel, .sentinel, .sentinel, .sentinel, .sentinel, .sentinel, .sentinel], laidTests := true, laidLooks := .later }
def GateRunsUptoCardSaid : Prop := Claim7.holds Tryz.pinned (.plain (OpenSpec.upto gateRunsSpec)) gateRunsUptoCard

/-- THE SECOND FORM's CARD OF 'floodgatelaw3.GateBounds'. -/
def gateBoundsUptoCard : Claim7 := { stood := { row := gateBoundsUptoRow, standIns := [], harness := (true, "74896e7520389d3802dcdbbf5c0a78b897be1185a5d51628a153cc3afb35c2fe"), looks := true }, kinds := [], alts := [], laidByText := true, laidKinds := [.handle, .sentinel, .sentinel, .sentinel, .sentinel, .sentinel, .sentinel, .sentinel, .sentinel, .sentinel], laidTests := true, laidLooks := .later }
def GateBoundsUptoCardSaid : Prop := Claim7.holds Tryz.pinned (.plain (OpenSpec.upto gateBoundsSpec)) gateBoundsUptoCard

/-- THE SECOND FORM's CARD OF 'floodgatelaw3.GateKeeps'. -/
def gateKeepsUptoCard : Claim7 := { stood := { row := gateKeepsUptoRow, standIns := [], harness := (true, "74896e7520389d3802dcdbbf5c0a78b897be1185a5d51628a153cc3afb35c2fe"), looks := true }, kinds := [], alts := [], laidByText := true, laidKinds := [.handle, .sentinel, .sentinel, .sentinel, .sentinel, .sentinel, .sentinel, .sentinel], laidTests := true, laidLooks := .later }
def GateKeepsUptoCardSaid : Prop := Claim7.holds Tryz.pinned (.plain (OpenSpec.upto gateKeepsSpec)) gateKeepsUptoCard
end Rows
end Go.Proofs.YthgpbdlmadjndaaGreatDoor
