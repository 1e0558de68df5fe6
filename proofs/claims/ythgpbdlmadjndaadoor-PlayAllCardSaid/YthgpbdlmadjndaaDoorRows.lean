/-
  NARROWER THAN 'FOR EVERY INPUT', by the rows' own cells (each row's printed sentence says how): PlayPackets: laid · AuditChecks: laid · AuditRuns: laid · GateOpen: laid · GateBusy: laid · PlayAll: laid.
  DERIVED. THE GIVEN ROWS OF THIS SEAT. 6 by the template 'for every input the law returns true; each argument reads behind the call as it read before'; 0 by the template 'total and deterministic' (their statements: YthgpbdlmadjndaaDoorTotals.lean).
  GIVEN WITH THE SEED: the statements are not yours to turn. If you find one false, say at which input.
  Laid BY PROGRAM, IN A SANDBOX (cutbox-rows.mjs): the forced cells as the released guide's own fill.sh prints them over the translation e7b8355487cf50cf… (all of the seat's roots in one cut). By AI agents, Wed Nov 11 2026. No macro, syntax, notation, axiom, sorry.
-/
import Derived.Test.YthgpbdlmadjndaaDoorChecked
import GoSem.Claim
import GoSem.ClaimJoined
import GoSem.ClaimMapViews
import Derived.JoinedTies
import Derived.KernelRfl
namespace Go.Proofs.YthgpbdlmadjndaaDoor
/- THE CELL 'sum', in the pinned program and in every row, IS THE sha256 OF THE DUMP (.gsa) THAT YthgpbdlmadjndaaDoorProg.lean LOADS. Nothing in Lean hashes anything: it is a label: what it is worth is what the hold of that sum in a sandbox is worth. -/
noncomputable def Tryd.pinned : Pinned := { name := "ythgpbdlmadjndaadoor", sum := "e7b8355487cf50cfc280bd5598171ba8c5908d76729fbb8268a3c4fa1631a331", checked := Tryd.checked }
namespace Rows
def none {H : Type} : Left H := { results := [], args := [] }

/- WHAT THE LISTED PACKAGE-LEVEL VARIABLES READ AS WHEN THE CALL BEGINS. Each datum BY PROGRAM (the guide's laid-datum.mjs) off the statement by which the dump's own 'gosem.cut.vars' lays the variable. In a bare row this is a premise. The card (YthgpbdlmadjndaaDoorCards.lean) ties it to the program's text. -/
def laid_errors_errorType {H : Type} : DataW H := .iface "internal/reflectlite.rtype" (.agg [.ptr (.lit (.string [101, 114, 114, 111, 114]))])
def laid_floodgate_api_ErrText {H : Type} : DataW H := .iface "*errors.errorString" (.ptr (.agg [.lit (.string [102, 108, 111, 111, 100, 103, 97, 116, 101, 58, 32, 116, 101, 120, 116])]))
def laid_floodgate_api_ErrBound {H : Type} : DataW H := .iface "*errors.errorString" (.ptr (.agg [.lit (.string [102, 108, 111, 111, 100, 103, 97, 116, 101, 58, 32, 98, 111, 117, 110, 100])]))
def laid_floodgate_api_ErrShape {H : Type} : DataW H := .iface "*errors.errorString" (.ptr (.agg [.lit (.string [102, 108, 111, 111, 100, 103, 97, 116, 101, 58, 32, 115, 104, 97, 112, 101])]))
def laid_floodgate_api_ErrNone {H : Type} : DataW H := .iface "*errors.errorString" (.ptr (.agg [.lit (.string [102, 108, 111, 111, 100, 103, 97, 116, 101, 58, 32, 110, 111, 110, 101])]))
def laid_floodgate_api_ErrOld {H : Type} : DataW H := .iface "*errors.errorString" (.ptr (.agg [.lit (.string [102, 108, 111, 111, 100, 103, 97, 116, 101, 58, 32, 111, 108, 100])]))
def laid_floodgate_api_ErrOver {H : Type} : DataW H := .iface "*errors.errorString" (.ptr (.agg [.lit (.string [102, 108, 111, 111, 100, 103, 97, 116, 101, 58, 32, 111, 118, 101, 114])]))
def laid_floodgate_api_ErrIdle {H : Type} : DataW H := .iface "*errors.errorString" (.ptr (.agg [.lit (.string [102, 108, 111, 111, 100, 103, 97, 116, 101, 58, 32, 105, 100, 108, 101])]))
def laid_floodgate_api_ErrTurn {H : Type} : DataW H := .iface "*errors.errorString" (.ptr (.agg [.lit (.string [102, 108, 111, 111, 100, 103, 97, 116, 101, 58, 32, 116, 117, 114, 110])]))
def laid_floodgate_api_ErrKind {H : Type} : DataW H := .iface "*errors.errorString" (.ptr (.agg [.lit (.string [102, 108, 111, 111, 100, 103, 97, 116, 101, 58, 32, 107, 105, 110, 100])]))

/-- 'floodgatelaw3.PlayPackets': WHATEVER THE INPUT: true; the input reads as it did. -/
def playPacketsSpec : ChangeSpec := { name := "playPackets", fn := fun _ => fun
  | [d1, d2] => { results := [.lit (.bool true)], args := [d1, d2] }
  | _ => none }
def playPacketsRow : OpenClaim := { program := "ythgpbdlmadjndaadoor", sum := "e7b8355487cf50cfc280bd5598171ba8c5908d76729fbb8268a3c4fa1631a331", func := "floodgate/floodgatelaw3.PlayPackets", spec := "playPackets", inPlace := ["internal/reflectlite.ValueOf", "(internal/reflectlite.Value).Type", "(internal/reflectlite.Value).IsNil", "internal/reflectlite.TypeOf", "(internal/reflectlite.Value).Elem", "(internal/reflectlite.Value).Set"], unfollowed := true, recurses := true, named := ["floodgate/api.ErrBound", "floodgate/api.ErrOld", "floodgate/api.ErrNone", "floodgate/api.ErrText", "floodgate/api.ErrShape", "floodgate/api.ErrOver", "floodgate/api.ErrIdle", "floodgate/api.ErrTurn", "floodgate/api.ErrKind", "errors.errorType"], apart := false, laid := [("errors.errorType", laid_errors_errorType), ("floodgate/api.ErrText", laid_floodgate_api_ErrText), ("floodgate/api.ErrBound", laid_floodgate_api_ErrBound), ("floodgate/api.ErrShape", laid_floodgate_api_ErrShape), ("floodgate/api.ErrNone", laid_floodgate_api_ErrNone), ("floodgate/api.ErrOld", laid_floodgate_api_ErrOld), ("floodgate/api.ErrOver", laid_floodgate_api_ErrOver), ("floodgate/api.ErrIdle", laid_floodgate_api_ErrIdle), ("floodgate/api.ErrTurn", laid_floodgate_api_ErrTurn), ("floodgate/api.ErrKind", laid_floodgate_api_ErrKind)] }
def PlayPacketsSaid : Prop := playPacketsRow.holds Tryd.pinned (OpenSpec.ofChange playPacketsSpec)

/-- ITS FALSE NEIGHBOUR: 'it returns false'. Refute it at one input. -/
def playPacketsWrong : ChangeSpec := { name := "playPackets", fn := fun _ => fun
  | [d1, d2] => { results := [.lit (.bool false)], args := [d1, d2] }
  | _ => none }
def PlayPacketsWrongFalsely : Prop := playPacketsRow.holds Tryd.pinned (OpenSpec.ofChange playPacketsWrong)

/-- 'floodgatelaw3.AuditChecks': WHATEVER THE INPUT: true; the input reads as it did. -/
def auditChecksSpec : ChangeSpec := { name := "auditChecks", fn := fun _ => fun
  | [d1, d2, d3, d4, d5, d6] => { results := [.lit (.bool true)], args := [d1, d2, d3, d4, d5, d6] }
  | _ => none }
def auditChecksRow : OpenClaim := { program := "ythgpbdlmadjndaadoor", sum := "e7b8355487cf50cfc280bd5598171ba8c5908d76729fbb8268a3c4fa1631a331", func := "floodgate/floodgatelaw3.AuditChecks", spec := "auditChecks", inPlace := ["internal/reflectlite.ValueOf", "(internal/reflectlite.Value).Type", "(internal/reflectlite.Value).IsNil", "internal/reflectlite.TypeOf", "(internal/reflectlite.Value).Elem", "(internal/reflectlite.Value).Set"], unfollowed := true, recurses := true, named := ["floodgate/api.ErrNone", "floodgate/api.ErrBound", "floodgate/api.ErrOld", "floodgate/api.ErrShape", "floodgate/api.ErrIdle", "floodgate/api.ErrTurn", "floodgate/api.ErrText", "floodgate/api.ErrOver", "floodgate/api.ErrKind", "errors.errorType"], apart := false, laid := [("errors.errorType", laid_errors_errorType), ("floodgate/api.ErrText", laid_floodgate_api_ErrText), ("floodgate/api.ErrBound", laid_floodgate_api_ErrBound), ("floodgate/api.ErrShape", laid_floodgate_api_ErrShape), ("floodgate/api.ErrNone", laid_floodgate_api_ErrNone), ("floodgate/api.ErrOld", laid_floodgate_api_ErrOld), ("floodgate/api.ErrOver", laid_floodgate_api_ErrOver), ("floodgate/api.ErrIdle", laid_floodgate_api_ErrIdle), ("floodgate/api.ErrTurn", laid_floodgate_api_ErrTurn), ("floodgate/api.ErrKind", laid_floodgate_api_ErrKind)] }
def AuditChecksSaid : Prop := auditChecksRow.holds Tryd.pinned (OpenSpec.ofChange auditChecksSpec)

/-- ITS FALSE NEIGHBOUR: 'it returns false'. Refute it at one input. -/
def auditChecksWrong : ChangeSpec := { name := "auditChecks", fn := fun _ => fun
  | [d1, d2, d3, d4, d5, d6] => { results := [.lit (.bool false)], args := [d1, d2, d3, d4, d5, d6] }
  | _ => none }
def AuditChecksWrongFalsely : Prop := auditChecksRow.holds Tryd.pinned (OpenSpec.ofChange auditChecksWrong)

/-- 'floodgatelaw3.AuditRuns': WHATEVER THE INPUT: true; the input reads as it did. -/
def auditRunsSpec : ChangeSpec := { name := "auditRuns", fn := fun _ => fun
  | [d1, d2, d3] => { results := [.lit (.bool true)], args := [d1, d2, d3] }
  | _ => none }
def auditRunsRow : OpenClaim := { program := "ythgpbdlmadjndaadoor", sum := "e7b8355487cf50cfc280bd5598171ba8c5908d76729fbb8268a3c4fa1631a331", func := "floodgate/floodgatelaw3.AuditRuns", spec := "auditRuns", inPlace := ["internal/reflectlite.ValueOf", "(internal/reflectlite.Value).Type", "(internal/reflectlite.Value).IsNil", "internal/reflectlite.TypeOf", "(internal/reflectlite.Value).Elem", "(internal/reflectlite.Value).Set"], unfollowed := true, recurses := true, named := ["floodgate/api.ErrNone", "floodgate/api.ErrBound", "floodgate/api.ErrOld", "floodgate/api.ErrShape", "floodgate/api.ErrIdle", "floodgate/api.ErrTurn", "floodgate/api.ErrText", "floodgate/api.ErrOver", "floodgate/api.ErrKind", "errors.errorType"], apart := false, laid := [("errors.errorType", laid_errors_errorType), ("floodgate/api.ErrText", laid_floodgate_api_ErrText), ("floodgate/api.ErrBound", laid_floodgate_api_ErrBound), ("floodgate/api.ErrShape", laid_floodgate_api_ErrShape), ("floodgate/api.ErrNone", laid_floodgate_api_ErrNone), ("floodgate/api.ErrOld", laid_floodgate_api_ErrOld), ("floodgate/api.ErrOver", laid_floodgate_api_ErrOver), ("floodgate/api.ErrIdle", laid_floodgate_api_ErrIdle), ("floodgate/api.ErrTurn", laid_floodgate_api_ErrTurn), ("floodgate/api.ErrKind", laid_floodgate_api_ErrKind)] }
def AuditRunsSaid : Prop := auditRunsRow.holds Tryd.pinned (OpenSpec.ofChange auditRunsSpec)

/-- ITS FALSE NEIGHBOUR: 'it returns false'. Refute it at one input. -/
def auditRunsWrong : ChangeSpec := { name := "auditRuns", fn := fun _ => fun
  | [d1, d2, d3] => { results := [.lit (.bool false)], args := [d1, d2, d3] }
  | _ => none }
def AuditRunsWrongFalsely : Prop := auditRunsRow.holds Tryd.pinned (OpenSpec.ofChange auditRunsWrong)

/-- 'floodgatelaw3.GateOpen': WHATEVER THE INPUT: true; the input reads as it did. -/
def gateOpenSpec : ChangeSpec := { name := "gateOpen", fn := fun _ => fun
  | [d1, d2, d3] => { results := [.lit (.bool true)], args := [d1, d2, d3] }
  | _ => none }
def gateOpenRow : OpenClaim := { program := "ythgpbdlmadjndaadoor", sum := "e7b8355487cf50cfc280bd5598171ba8c5908d76729fbb8268a3c4fa1631a331", func := "floodgate/floodgatelaw3.GateOpen", spec := "gateOpen", inPlace := ["internal/reflectlite.ValueOf", "(internal/reflectlite.Value).Type", "(internal/reflectlite.Value).IsNil", "internal/reflectlite.TypeOf", "(internal/reflectlite.Value).Elem", "(internal/reflectlite.Value).Set"], unfollowed := true, recurses := true, named := ["floodgate/api.ErrShape", "floodgate/api.ErrKind", "floodgate/api.ErrBound", "errors.errorType", "floodgate/api.ErrOld", "floodgate/api.ErrNone"], apart := false, laid := [("errors.errorType", laid_errors_errorType), ("floodgate/api.ErrBound", laid_floodgate_api_ErrBound), ("floodgate/api.ErrShape", laid_floodgate_api_ErrShape), ("floodgate/api.ErrNone", laid_floodgate_api_ErrNone), ("floodgate/api.ErrOld", laid_floodgate_api_ErrOld), ("floodgate/api.ErrKind", laid_floodgate_api_ErrKind)] }
def GateOpenSaid : Prop := gateOpenRow.holds Tryd.pinned (OpenSpec.ofChange gateOpenSpec)

/-- ITS FALSE NEIGHBOUR: 'it returns false'. Refute it at one input. -/
def gateOpenWrong : ChangeSpec := { name := "gateOpen", fn := fun _ => fun
  | [d1, d2, d3] => { results := [.lit (.bool false)], args := [d1, d2, d3] }
  | _ => none }
def GateOpenWrongFalsely : Prop := gateOpenRow.holds Tryd.pinned (OpenSpec.ofChange gateOpenWrong)

/-- 'floodgatelaw3.GateBusy': WHATEVER THE INPUT: true; the input reads as it did. -/
def gateBusySpec : ChangeSpec := { name := "gateBusy", fn := fun _ => fun
  | [d1, d2, d3] => { results := [.lit (.bool true)], args := [d1, d2, d3] }
  | _ => none }
def gateBusyRow : OpenClaim := { program := "ythgpbdlmadjndaadoor", sum := "e7b8355487cf50cfc280bd5598171ba8c5908d76729fbb8268a3c4fa1631a331", func := "floodgate/floodgatelaw3.GateBusy", spec := "gateBusy", inPlace := ["internal/reflectlite.ValueOf", "(internal/reflectlite.Value).Type", "(internal/reflectlite.Value).IsNil", "internal/reflectlite.TypeOf", "(internal/reflectlite.Value).Elem", "(internal/reflectlite.Value).Set"], unfollowed := true, recurses := true, named := ["floodgate/api.ErrShape", "floodgate/api.ErrKind", "floodgate/api.ErrBound", "errors.errorType", "floodgate/api.ErrOld", "floodgate/api.ErrNone"], apart := false, laid := [("errors.errorType", laid_errors_errorType), ("floodgate/api.ErrBound", laid_floodgate_api_ErrBound), ("floodgate/api.ErrShape", laid_floodgate_api_ErrShape), ("floodgate/api.ErrNone", laid_floodgate_api_ErrNone), ("floodgate/api.ErrOld", laid_floodgate_api_ErrOld), ("floodgate/api.ErrKind", laid_floodgate_api_ErrKind)] }
def GateBusySaid : Prop := gateBusyRow.holds Tryd.pinned (OpenSpec.ofChange gateBusySpec)

/-- ITS FALSE NEIGHBOUR: 'it returns false'. Refute it at one input. -/
def gateBusyWrong : ChangeSpec := { name := "gateBusy", fn := fun _ => fun
  | [d1, d2, d3] => { results := [.lit (.bool false)], args := [d1, d2, d3] }
  | _ => none }
def GateBusyWrongFalsely : Prop := gateBusyRow.holds Tryd.pinned (OpenSpec.ofChange gateBusyWrong)

/-- 'floodgatelaw3.PlayAll': WHATEVER THE INPUT: true; the input reads as it did. -/
def playAllSpec : ChangeSpec := { name := "playAll", fn := fun _ => fun
  | [d1, d2] => { results := [.lit (.bool true)], args := [d1, d2] }
  | _ => none }
def playAllRow : OpenClaim := { program := "ythgpbdlmadjndaadoor", sum := "e7b8355487cf50cfc280bd5598171ba8c5908d76729fbb8268a3c4fa1631a331", func := "floodgate/floodgatelaw3.PlayAll", spec := "playAll", inPlace := ["internal/reflectlite.ValueOf", "(internal/reflectlite.Value).Type", "(internal/reflectlite.Value).IsNil", "internal/reflectlite.TypeOf", "(internal/reflectlite.Value).Elem", "(internal/reflectlite.Value).Set"], unfollowed := true, recurses := true, named := ["floodgate/api.ErrShape", "floodgate/api.ErrKind", "floodgate/api.ErrBound", "errors.errorType", "floodgate/api.ErrOld", "floodgate/api.ErrNone"], apart := false, laid := [("errors.errorType", laid_errors_errorType), ("floodgate/api.ErrBound", laid_floodgate_api_ErrBound), ("floodgate/api.ErrShape", laid_floodgate_api_ErrShape), ("floodgate/api.ErrNone", laid_floodgate_api_ErrNone), ("floodgate/api.ErrOld", laid_floodgate_api_ErrOld), ("floodgate/api.ErrKind", laid_floodgate_api_ErrKind)] }
def PlayAllSaid : Prop := playAllRow.holds Tryd.pinned (OpenSpec.ofChange playAllSpec)

/-- ITS FALSE NEIGHBOUR: 'it returns false'. Refute it at one input. -/
def playAllWrong : ChangeSpec := { name := "playAll", fn := fun _ => fun
  | [d1, d2] => { results := [.lit (.bool false)], args := [d1, d2] }
  | _ => none }
def PlayAllWrongFalsely : Prop := playAllRow.holds Tryd.pinned (OpenSpec.ofChange playAllWrong)

/- THE SECOND FORM. 'bulk': how many values and letters a reading holds, each counted each time it is reached (what is shared counts as often as it is met; a slice's spare places count too). A statement '..UptoSaid' is the law's where the arguments, and the package variables that the reading takes, are together of bulk at most 1048576: NARROWER than '..Said'. Prove '..Said' where nothing that the law and all that it calls make is longer than what came in: it says more and counts as full. Else prove '..UptoSaid'. A law counts once. -/
mutual
def uptoBulk {H : Type} : DataW H → Nat
  | .lit (.string bytes) => bytes.length + 1
  | .lit _ => 1
  | .nil => 1
  | .ptr d => uptoBulk d + 1
  | .slice elems spare => uptoBulkAll elems + uptoBulkAll spare + 1
  | .agg parts => uptoBulkAll parts + 1
  | .iface _ d => uptoBulk d + 1
  | .map entries => uptoBulkEntries entries + 1
  | .held _ => 1
def uptoBulkAll {H : Type} : List (DataW H) → Nat
  | [] => 0
  | d :: r => uptoBulk d + uptoBulkAll r
def uptoBulkEntries {H : Type} : List (Lit × DataW H) → Nat
  | [] => 0
  | x :: r => uptoBulkEntry x + uptoBulkEntries r
def uptoBulkEntry {H : Type} : Lit × DataW H → Nat
  | (.string bytes, d) => bytes.length + uptoBulk d + 1
  | (_, d) => uptoBulk d + 1
 end
def uptoSmall : (H : Type) → List (DataW H) → Bool := fun _ ds => decide (uptoBulkAll ds ≤ 1048576)
def OpenSpec.upto (s : _root_.Go.ChangeSpec) : _root_.Go.OpenSpec := { _root_.Go.OpenSpec.ofChange s with cond := some uptoSmall }

/-- 'floodgatelaw3.PlayPackets', WHERE WHAT IT READS IS OF BULK AT MOST 1048576: true; the input reads as it did. -/
def playPacketsUptoRow : OpenClaim := { program := "ythgpbdlmadjndaadoor", sum := "e7b8355487cf50cfc280bd5598171ba8c5908d76729fbb8268a3c4fa1631a331", func := "floodgate/floodgatelaw3.PlayPackets", spec := "playPackets", inPlace := ["internal/reflectlite.ValueOf", "(internal/reflectlite.Value).Type", "(internal/reflectlite.Value).IsNil", "internal/reflectlite.TypeOf", "(internal/reflectlite.Value).Elem", "(internal/reflectlite.Value).Set"], unfollowed := true, recurses := true, named := ["floodgate/api.ErrBound", "floodgate/api.ErrOld", "floodgate/api.ErrNone", "floodgate/api.ErrText", "floodgate/api.ErrShape", "floodgate/api.ErrOver", "floodgate/api.ErrIdle", "floodgate/api.ErrTurn", "floodgate/api.ErrKind", "errors.errorType"], apart := false, laid := [("errors.errorType", laid_errors_errorType), ("floodgate/api.ErrText", laid_floodgate_api_ErrText), ("floodgate/api.ErrBound", laid_floodgate_api_ErrBound), ("floodgate/api.ErrShape", laid_floodgate_api_ErrShape), ("floodgate/api.ErrNone", laid_floodgate_api_ErrNone), ("floodgate/api.ErrOld", laid_floodgate_api_ErrOld), ("floodgate/api.ErrOver", laid_floodgate_api_ErrOver), ("floodgate/api.ErrIdle", laid_floodgate_api_ErrIdle), ("floodgate/api.ErrTurn", laid_floodgate_api_ErrTurn), ("floodgate/api.ErrKind", laid_floodgate_api_ErrKind)], narrowed := true }
def PlayPacketsUptoSaid : Prop := playPacketsUptoRow.holds Tryd.pinned (OpenSpec.upto playPacketsSpec)

/-- 'floodgatelaw3.AuditChecks', WHERE WHAT IT READS IS OF BULK AT MOST 1048576: true; the input reads as it did. -/
def auditChecksUptoRow : OpenClaim := { program := "ythgpbdlmadjndaadoor", sum := "e7b8355487cf50cfc280bd5598171ba8c5908d76729fbb8268a3c4fa1631a331", func := "floodgate/floodgatelaw3.AuditChecks", spec := "auditChecks", inPlace := ["internal/reflectlite.ValueOf", "(internal/reflectlite.Value).Type", "(internal/reflectlite.Value).IsNil", "internal/reflectlite.TypeOf", "(internal/reflectlite.Value).Elem", "(internal/reflectlite.Value).Set"], unfollowed := true, recurses := true, named := ["floodgate/api.ErrNone", "floodgate/api.ErrBound", "floodgate/api.ErrOld", "floodgate/api.ErrShape", "floodgate/api.ErrIdle", "floodgate/api.ErrTurn", "floodgate/api.ErrText", "floodgate/api.ErrOver", "floodgate/api.ErrKind", "errors.errorType"], apart := false, laid := [("errors.errorType", laid_errors_errorType), ("floodgate/api.ErrText", laid_floodgate_api_ErrText), ("floodgate/api.ErrBound", laid_floodgate_api_ErrBound), ("floodgate/api.ErrShape", laid_floodgate_api_ErrShape), ("floodgate/api.ErrNone", laid_floodgate_api_ErrNone), ("floodgate/api.ErrOld", laid_floodgate_api_ErrOld), ("floodgate/api.ErrOver", laid_floodgate_api_ErrOver), ("floodgate/api.ErrIdle", laid_floodgate_api_ErrIdle), ("floodgate/api.ErrTurn", laid_floodgate_api_ErrTurn), ("floodgate/api.ErrKind", laid_floodgate_api_ErrKind)], narrowed := true }
def AuditChecksUptoSaid : Prop := auditChecksUptoRow.holds Tryd.pinned (OpenSpec.upto auditChecksSpec)

/-- 'floodgatelaw3.AuditRuns', WHERE WHAT IT READS IS OF BULK AT MOST 1048576: true; the input reads as it did. -/
def auditRunsUptoRow : OpenClaim := { program := "ythgpbdlmadjndaadoor", sum := "e7b8355487cf50cfc280bd5598171ba8c5908d76729fbb8268a3c4fa1631a331", func := "floodgate/floodgatelaw3.AuditRuns", spec := "auditRuns", inPlace := ["internal/reflectlite.ValueOf", "(internal/reflectlite.Value).Type", "(internal/reflectlite.Value).IsNil", "internal/reflectlite.TypeOf", "(internal/reflectlite.Value).Elem", "(internal/reflectlite.Value).Set"], unfollowed := true, recurses := true, named := ["floodgate/api.ErrNone", "floodgate/api.ErrBound", "floodgate/api.ErrOld", "floodgate/api.ErrShape", "floodgate/api.ErrIdle", "floodgate/api.ErrTurn", "floodgate/api.ErrText", "floodgate/api.ErrOver", "floodgate/api.ErrKind", "errors.errorType"], apart := false, laid := [("errors.errorType", laid_errors_errorType), ("floodgate/api.ErrText", laid_floodgate_api_ErrText), ("floodgate/api.ErrBound", laid_floodgate_api_ErrBound), ("floodgate/api.ErrShape", laid_floodgate_api_ErrShape), ("floodgate/api.ErrNone", laid_floodgate_api_ErrNone), ("floodgate/api.ErrOld", laid_floodgate_api_ErrOld), ("floodgate/api.ErrOver", laid_floodgate_api_ErrOver), ("floodgate/api.ErrIdle", laid_floodgate_api_ErrIdle), ("floodgate/api.ErrTurn", laid_floodgate_api_ErrTurn), ("floodgate/api.ErrKind", laid_floodgate_api_ErrKind)], narrowed := true }
def AuditRunsUptoSaid : Prop := auditRunsUptoRow.holds Tryd.pinned (OpenSpec.upto auditRunsSpec)

/-- 'floodgatelaw3.GateOpen', WHERE WHAT IT READS IS OF BULK AT MOST 1048576: true; the input reads as it did. -/
def gateOpenUptoRow : OpenClaim := { program := "ythgpbdlmadjndaadoor", sum := "e7b8355487cf50cfc280bd5598171ba8c5908d76729fbb8268a3c4fa1631a331", func := "floodgate/floodgatelaw3.GateOpen", spec := "gateOpen", inPlace := ["internal/reflectlite.ValueOf", "(internal/reflectlite.Value).Type", "(internal/reflectlite.Value).IsNil", "internal/reflectlite.TypeOf", "(internal/reflectlite.Value).Elem", "(internal/reflectlite.Value).Set"], unfollowed := true, recurses := true, named := ["floodgate/api.ErrShape", "floodgate/api.ErrKind", "floodgate/api.ErrBound", "errors.errorType", "floodgate/api.ErrOld", "floodgate/api.ErrNone"], apart := false, laid := [("errors.errorType", laid_errors_errorType), ("floodgate/api.ErrBound", laid_floodgate_api_ErrBound), ("floodgate/api.ErrShape", laid_floodgate_api_ErrShape), ("floodgate/api.ErrNone", laid_floodgate_api_ErrNone), ("floodgate/api.ErrOld", laid_floodgate_api_ErrOld), ("floodgate/api.ErrKind", laid_floodgate_api_ErrKind)], narrowed := true }
def GateOpenUptoSaid : Prop := gateOpenUptoRow.holds Tryd.pinned (OpenSpec.upto gateOpenSpec)

/-- 'floodgatelaw3.GateBusy', WHERE WHAT IT READS IS OF BULK AT MOST 1048576: true; the input reads as it did. -/
def gateBusyUptoRow : OpenClaim := { program := "ythgpbdlmadjndaadoor", sum := "e7b8355487cf50cfc280bd5598171ba8c5908d76729fbb8268a3c4fa1631a331", func := "floodgate/floodgatelaw3.GateBusy", spec := "gateBusy", inPlace := ["internal/reflectlite.ValueOf", "(internal/reflectlite.Value).Type", "(internal/reflectlite.Value).IsNil", "internal/reflectlite.TypeOf", "(internal/reflectlite.Value).Elem", "(internal/reflectlite.Value).Set"], unfollowed := true, recurses := true, named := ["floodgate/api.ErrShape", "floodgate/api.ErrKind", "floodgate/api.ErrBound", "errors.errorType", "floodgate/api.ErrOld", "floodgate/api.ErrNone"], apart := false, laid := [("errors.errorType", laid_errors_errorType), ("floodgate/api.ErrBound", laid_floodgate_api_ErrBound), ("floodgate/api.ErrShape", laid_floodgate_api_ErrShape), ("floodgate/api.ErrNone", laid_floodgate_api_ErrNone), ("floodgate/api.ErrOld", laid_floodgate_api_ErrOld), ("floodgate/api.ErrKind", laid_floodgate_api_ErrKind)], narrowed := true }
def GateBusyUptoSaid : Prop := gateBusyUptoRow.holds Tryd.pinned (OpenSpec.upto gateBusySpec)

/-- 'floodgatelaw3.PlayAll', WHERE WHAT IT READS IS OF BULK AT MOST 1048576: true; the input reads as it did. -/
def playAllUptoRow : OpenClaim := { program := "ythgpbdlmadjndaadoor", sum := "e7b8355487cf50cfc280bd5598171ba8c5908d76729fbb8268a3c4fa1631a331", func := "floodgate/floodgatelaw3.PlayAll", spec := "playAll", inPlace := ["internal/reflectlite.ValueOf", "(internal/reflectlite.Value).Type", "(internal/reflectlite.Value).IsNil", "internal/reflectlite.TypeOf", "(internal/reflectlite.Value).Elem", "(internal/reflectlite.Value).Set"], unfollowed := true, recurses := true, named := ["floodgate/api.ErrShape", "floodgate/api.ErrKind", "floodgate/api.ErrBound", "errors.errorType", "floodgate/api.ErrOld", "floodgate/api.ErrNone"], apart := false, laid := [("errors.errorType", laid_errors_errorType), ("floodgate/api.ErrBound", laid_floodgate_api_ErrBound), ("floodgate/api.ErrShape", laid_floodgate_api_ErrShape), ("floodgate/api.ErrNone", laid_floodgate_api_ErrNone), ("floodgate/api.ErrOld", laid_floodgate_api_ErrOld), ("floodgate/api.ErrKind", laid_floodgate_api_ErrKind)], narrowed := true }
def PlayAllUptoSaid : Prop := playAllUptoRow.holds Tryd.pinned (OpenSpec.upto playAllSpec)

end Rows
end Go.Proofs.YthgpbdlmadjndaaDoor
