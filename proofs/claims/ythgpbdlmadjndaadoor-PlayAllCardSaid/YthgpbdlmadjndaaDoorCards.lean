/-
  DERIVED. GIVEN WITH THE SEED: THE CARDS: each row of YthgpbdlmadjndaaDoorRows.lean that lists a variable, with what it lists TIED to the program's text (the seventh form; the later family's looks); each row that meets fmt, with fmt's text TOLD by the authors' own Lean function (tested against real Go, not proved from fmt's source: count such statements apart). THE CARD IS WHAT COUNTS. Prove the row's statement (the work); the ties are given (YthgpbdlmadjndaaDoorTie.lean); close each card by the builder's one call (the guide's Derived/Test/ToyasCard.lean, 'card_holds'). Laid BY PROGRAM, IN A SANDBOX (cutbox-door.mjs). By AI agents, Wed Nov 11 2026. No macro, syntax, notation, axiom, sorry.
-/
import Derived.Test.YthgpbdlmadjndaaDoorRows
import GoSem.ClaimSeven
namespace Go.Proofs.YthgpbdlmadjndaaDoor
namespace Rows

/-- THE TIED CARD OF 'floodgatelaw3.PlayPackets'. -/
def playPacketsCard : Claim7 := { stood := { row := playPacketsRow, standIns := [], harness := (true, "5176c2a989f8830cd982420b9e0a50362fa111e8a0388900ff391d33169bddc3"), looks := true }, kinds := [], alts := [], laidByText := true, laidKinds := [.handle, .sentinel, .sentinel, .sentinel, .sentinel, .sentinel, .sentinel, .sentinel, .sentinel, .sentinel], laidTests := true, laidLooks := .later }
def PlayPacketsCardSaid : Prop := Claim7.holds Tryd.pinned (.plain (OpenSpec.ofChange playPacketsSpec)) playPacketsCard

/-- THE TIED CARD OF 'floodgatelaw3.AuditChecks'. -/
def auditChecksCard : Claim7 := { stood := { row := auditChecksRow, standIns := [], harness := (true, "5176c2a989f8830cd982420b9e0a50362fa111e8a0388900ff391d33169bddc3"), looks := true }, kinds := [], alts := [], laidByText := true, laidKinds := [.handle, .sentinel, .sentinel, .sentinel, .sentinel, .sentinel, .sentinel, .sentinel, .sentinel, .sentinel], laidTests := true, laidLooks := .later }
def AuditChecksCardSaid : Prop := Claim7.holds Tryd.pinned (.plain (OpenSpec.ofChange auditChecksSpec)) auditChecksCard

/-- THE TIED CARD OF 'floodgatelaw3.AuditRuns'. -/
def auditRunsCard : Claim7 := { stood := { row := auditRunsRow, standIns := [], harness := (true, "5176c2a989f8830cd982420b9e0a50362fa111e8a0388900ff391d33169bddc3"), looks := true }, kinds := [], alts := [], laidByText := true, laidKinds := [.handle, .sentinel, .sentinel, .sentinel, .sentinel, .sentinel, .sentinel, .sentinel, .sentinel, .sentinel], laidTests := true, laidLooks := .later }
def AuditRunsCardSaid : Prop := Claim7.holds Tryd.pinned (.plain (OpenSpec.ofChange auditRunsSpec)) auditRunsCard

/-- THE TIED CARD OF 'floodgatelaw3.GateOpen'. -/
def gateOpenCard : Claim7 := { stood := { row := gateOpenRow, standIns := [], harness := (true, "5176c2a989f8830cd982420b9e0a50362fa111e8a0388900ff391d33169bddc3"), looks := true }, kinds := [], alts := [], laidByText := true, laidKinds := [.handle, .sentinel, .sentinel, .sentinel, .sentinel, .sentinel], laidTests := true, laidLooks := .later }
def GateOpenCardSaid : Prop := Claim7.holds Tryd.pinned (.plain (OpenSpec.ofChange gateOpenSpec)) gateOpenCard

/-- THE TIED CARD OF 'floodgatelaw3.GateBusy'. -/
def gateBusyCard : Claim7 := { stood := { row := gateBusyRow, standIns := [], harness := (true, "5176c2a989f8830cd982420b9e0a50362fa111e8a0388900ff391d33169bddc3"), looks := true }, kinds := [], alts := [], laidByText := true, laidKinds := [.handle, .sentinel, .sentinel, .sentinel, .sentinel, .sentinel], laidTests := true, laidLooks := .later }
def GateBusyCardSaid : Prop := Claim7.holds Tryd.pinned (.plain (OpenSpec.ofChange gateBusySpec)) gateBusyCard

/-- THE TIED CARD OF 'floodgatelaw3.PlayAll'. -/
def playAllCard : Claim7 := { stood := { row := playAllRow, standIns := [], harness := (true, "5176c2a989f8830cd982420b9e0a50362fa111e8a0388900ff391d33169bddc3"), looks := true }, kinds := [], alts := [], laidByText := true, laidKinds := [.handle, .sentinel, .sentinel, .sentinel, .sentinel, .sentinel], laidTests := true, laidLooks := .later }
def PlayAllCardSaid : Prop := Claim7.holds Tryd.pinned (.plain (OpenSpec.ofChange playAllSpec)) playAllCard

/-- THE SECOND FORM's CARD OF 'floodgatelaw3.PlayPackets'. -/
def playPacketsUptoCard : Claim7 := { stood := { row := playPacketsUptoRow, standIns := [], harness := (true, "5176c2a989f8830cd982420b9e0a50362fa111e8a0388900ff391d33169bddc3"), looks := true }, kinds := [], alts := [], laidByText := true, laidKinds := [.handle, .sentinel, .sentinel, .sentinel, .sentinel, .sentinel, .sentinel, .sentinel, .sentinel, .sentinel], laidTests := true, laidLooks := .later }
def PlayPacketsUptoCardSaid : Prop := Claim7.holds Tryd.pinned (.plain (OpenSpec.upto playPacketsSpec)) playPacketsUptoCard

/-- THE SECOND FORM's CARD OF 'floodgatelaw3.AuditChecks'. -/
def auditChecksUptoCard : Claim7 := { stood := { row := auditChecksUptoRow, standIns := [], harness := (true, "5176c2a989f8830cd982420b9e0a50362fa111e8a0388900ff391d33169bddc3"), looks := true }, kinds := [], alts := [], laidByText := true, laidKinds := [.handle, .sentinel, .sentinel, .sentinel, .sentinel, .sentinel, .sentinel, .sentinel, .sentinel, .sentinel], laidTests := true, laidLooks := .later }
def AuditChecksUptoCardSaid : Prop := Claim7.holds Tryd.pinned (.plain (OpenSpec.upto auditChecksSpec)) auditChecksUptoCard

/-- THE SECOND FORM's CARD OF 'floodgatelaw3.AuditRuns'. -/
def auditRunsUptoCard : Claim7 := { stood := { row := auditRunsUptoRow, standIns := [], harness := (true, "5176c2a989f8830cd982420b9e0a50362fa111e8a0388900ff391d33169bddc3"), looks := true }, kinds := [], alts := [], laidByText := true, laidKinds := [.handle, .sentinel, .sentinel, .sentinel, .sentinel, .sentinel, .sentinel, .sentinel, .sentinel, .sentinel], laidTests := true, laidLooks := .later }
def AuditRunsUptoCardSaid : Prop := Claim7.holds Tryd.pinned (.plain (OpenSpec.upto auditRunsSpec)) auditRunsUptoCard

/-- THE SECOND FORM's CARD OF 'floodgatelaw3.GateOpen'. -/
def gateOpenUptoCard : Claim7 := { stood := { row := gateOpenUptoRow, standIns := [], harness := (true, "5176c2a989f8830cd982420b9e0a50362fa111e8a0388900ff391d33169bddc3"), looks := true }, kinds := [], alts := [], laidByText := true, laidKinds := [.handle, .sentinel, .sentinel, .sentinel, .sentinel, .sentinel], laidTests := true, laidLooks := .later }
def GateOpenUptoCardSaid : Prop := Claim7.holds Tryd.pinned (.plain (OpenSpec.upto gateOpenSpec)) gateOpenUptoCard

/-- THE SECOND FORM's CARD OF 'floodgatelaw3.GateBusy'. -/
def gateBusyUptoCard : Claim7 := { stood := { row := gateBusyUptoRow, standIns := [], harness := (true, "5176c2a989f8830cd982420b9e0a50362fa111e8a0388900ff391d33169bddc3"), looks := true }, kinds := [], alts := [], laidByText := true, laidKinds := [.handle, .sentinel, .sentinel, .sentinel, .sentinel, .sentinel], laidTests := true, laidLooks := .later }
def GateBusyUptoCardSaid : Prop := Claim7.holds Tryd.pinned (.plain (OpenSpec.upto gateBusySpec)) gateBusyUptoCard

/-- THE SECOND FORM's CARD OF 'floodgatelaw3.PlayAll'. -/
def playAllUptoCard : Claim7 := { stood := { row := playAllUptoRow, standIns := [], harness := (true, "5176c2a989f8830cd982420b9e0a50362fa111e8a0388900ff391d33169bddc3"), looks := true }, kinds := [], alts := [], laidByText := true, laidKinds := [.handle, .sentinel, .sentinel, .sentinel, .sentinel, .sentinel], laidTests := true, laidLooks := .later }
def PlayAllUptoCardSaid : Prop := Claim7.holds Tryd.pinned (.plain (OpenSpec.upto playAllSpec)) playAllUptoCard
end Rows
end Go.Proofs.YthgpbdlmadjndaaDoor
