/-
  NARROWER THAN 'FOR EVERY INPUT', by the rows' own cells (each row's printed sentence says how): GateRuns: laid · GateBounds: laid · GateKeeps: laid.
  DERIVED. THE GIVEN ROWS OF THIS SEAT. 3 by the template 'for every input the law returns true; each argument reads behind the call as it read before'; 0 by the template 'total and deterministic' (their statements: YthgpbdlmadjndaaGreatDoorTotals.lean).
  GIVEN WITH THE SEED: the statements are not yours to turn. If you find one false, say at which input.
  Laid BY PROGRAM, IN A SANDBOX (cutbox-rows.mjs): the forced cells as the released guide's own fill.sh prints them over the translation fce2b4b1409371bb… (all of the seat's roots in one cut). By AI agents, Wed Nov 11 2026. No macro, syntax, notation, axiom, sorry.
-/
import Derived.Test.YthgpbdlmadjndaaGreatDoorChecked
import GoSem.Claim
import GoSem.ClaimJoined
import GoSem.ClaimMapViews
import Derived.JoinedTies
import Derived.KernelRfl
namespace Go.Proofs.YthgpbdlmadjndaaGreatDoor
/- THE CELL 'sum', in the pinned program and in every row, IS THE sha256 OF THE DUMP (.gsa) THAT YthgpbdlmadjndaaGreatDoorProg.lean LOADS. Nothing in Lean hashes anything: it is a label: what it is worth is what the hold of that sum in a sandbox is worth. -/
noncomputable def Tryz.pinned : Pinned := { name := "ythgpbdlmadjndaagreatdoor", sum := "fce2b4b1409371bbec23f803066a0e3fd8e7b8291cbeac2c7d90e93c682a7c55", checked := Tryz.checked }
namespace Rows
def none {H : Type} : Left H := { results := [], args := [] }

/- WHAT THE LISTED PACKAGE-LEVEL VARIABLES READ AS WHEN THE CALL BEGINS. Each datum BY PROGRAM (the guide's laid-datum.mjs) off the statement by which the dump's own 'gosem.cut.vars' lays the variable. In a bare row this is a premise. The card (YthgpbdlmadjndaaGreatDoorCards.lean) ties it to the program's text. -/
def laid_errors_errorType {H : Type} : DataW H := .iface "internal/reflectlite.rtype" (.agg [.ptr (.lit (.string [101, 114, 114, 111, 114]))])
def laid_floodgate_api_ErrText {H : Type} : DataW H := .iface "*errors.errorString" (.ptr (.agg [.lit (.string [102, 108, 111, 111, 100, 103, 97, 116, 101, 58, 32, 116, 101, 120, 116])]))
def laid_floodgate_api_ErrBound {H : Type} : DataW H := .iface "*errors.errorString" (.ptr (.agg [.lit (.string [102, 108, 111, 111, 100, 103, 97, 116, 101, 58, 32, 98, 111, 117, 110, 100])]))
def laid_floodgate_api_ErrShape {H : Type} : DataW H := .iface "*errors.errorString" (.ptr (.agg [.lit (.string [102, 108, 111, 111, 100, 103, 97, 116, 101, 58, 32, 115, 104, 97, 112, 101])]))
def laid_floodgate_api_ErrNone {H : Type} : DataW H := .iface "*errors.errorString" (.ptr (.agg [.lit (.string [102, 108, 111, 111, 100, 103, 97, 116, 101, 58, 32, 110, 111, 110, 101])]))
def laid_floodgate_api_ErrOld {H : Type} : DataW H := .iface "*errors.errorString" (.ptr (.agg [.lit (.string [102, 108, 111, 111, 100, 103, 97, 116, 101, 58, 32, 111, 108, 100])]))
def laid_floodgate_api_ErrOver {H : Type} : DataW H := .iface "*errors.errorString" (.ptr (.agg [.lit (.string [102, 108, 111, 111, 100, 103, 97, 116, 101, 58, 32, 111, 118, 101, 114])]))
def laid_floodgate_api_ErrIdle {H : Type} : DataW H := .iface "*errors.errorString" (.ptr (.agg [.lit (.string [102, 108, 111, 111, 100, 103, 97, 116, 101, 58, 32, 105, 100, 108, 101])]))
def laid_floodgate_api_ErrTurn {H : Type} : DataW H := .iface "*errors.errorString" (.ptr (.agg [.lit (.string [102, 108, 111, 111, 100, 103, 97, 116, 101, 58, 32, 116, 117, 114, 110])]))
def laid_floodgate_api_ErrKind {H : Type} : DataW H := .iface "*errors.errorString" (.ptr (.agg [.lit (.string [102, 108, 111, 111, 100, 103, 97, 116, 101, 58, 32, 107, 105, 110, 100])]))

/-- 'floodgatelaw3.GateRuns': WHATEVER THE INPUT: true; the input reads as it did. -/
def gateRunsSpec : ChangeSpec := { name := "gateRuns", fn := fun _ => fun
  | [d1, d2] => { results := [.lit (.bool true)], args := [d1, d2] }
  | _ => none }
def gateRunsRow : OpenClaim := { program := "ythgpbdlmadjndaagreatdoor", sum := "fce2b4b1409371bbec23f803066a0e3fd8e7b8291cbeac2c7d90e93c682a7c55", func := "floodgate/floodgatelaw3.GateRuns", spec := "gateRuns", inPlace := ["internal/reflectlite.ValueOf", "(internal/reflectlite.Value).Type", "(internal/reflectlite.Value).IsNil", "internal/reflectlite.TypeOf", "(internal/reflectlite.Value).Elem", "(internal/reflectlite.Value).Set"], unfollowed := true, recurses := true, named := ["floodgate/api.ErrShape", "floodgate/api.ErrKind", "floodgate/api.ErrBound", "errors.errorType", "floodgate/api.ErrOld", "floodgate/api.ErrNone", "floodgate/api.ErrText", "floodgate/api.ErrOver", "floodgate/api.ErrIdle", "floodgate/api.ErrTurn"], apart := false, laid := [("errors.errorType", laid_errors_errorType), ("floodgate/api.ErrText", laid_floodgate_api_ErrText), ("floodgate/api.ErrBound", laid_floodgate_api_ErrBound), ("floodgate/api.ErrShape", laid_floodgate_api_ErrShape), ("floodgate/api.ErrNone", laid_floodgate_api_ErrNone), ("floodgate/api.ErrOld", laid_floodgate_api_ErrOld), ("floodgate/api.ErrOver", laid_floodgate_api_ErrOver), ("floodgate/api.ErrIdle", laid_floodgate_api_ErrIdle), ("floodgate/api.ErrTurn", laid_floodgate_api_ErrTurn), ("floodgate/api.ErrKind", laid_floodgate_api_ErrKind)] }
def GateRunsSaid : Prop := gateRunsRow.holds Tryz.pinned (OpenSpec.ofChange gateRunsSpec)

/-- ITS FALSE NEIGHBOUR: 'it returns false'. Refute it at one input. -/
def gateRunsWrong : ChangeSpec := { name := "gateRuns", fn := fun _ => fun
  | [d1, d2] => { results := [.lit (.bool false)], args := [d1, d2] }
  | _ => none }
def GateRunsWrongFalsely : Prop := gateRunsRow.holds Tryz.pinned (OpenSpec.ofChange gateRunsWrong)

/-- 'floodgatelaw3.GateBounds': WHATEVER THE INPUT: true; the input reads as it did. -/
def gateBoundsSpec : ChangeSpec := { name := "gateBounds", fn := fun _ => fun
  | [d] => { results := [.lit (.bool true)], args := [d] }
  | _ => none }
def gateBoundsRow : OpenClaim := { program := "ythgpbdlmadjndaagreatdoor", sum := "fce2b4b1409371bbec23f803066a0e3fd8e7b8291cbeac2c7d90e93c682a7c55", func := "floodgate/floodgatelaw3.GateBounds", spec := "gateBounds", inPlace := ["internal/reflectlite.ValueOf", "(internal/reflectlite.Value).Type", "(internal/reflectlite.Value).IsNil", "internal/reflectlite.TypeOf", "(internal/reflectlite.Value).Elem", "(internal/reflectlite.Value).Set"], unfollowed := true, recurses := true, named := ["floodgate/api.ErrShape", "floodgate/api.ErrKind", "floodgate/api.ErrBound", "errors.errorType", "floodgate/api.ErrOld", "floodgate/api.ErrNone", "floodgate/api.ErrText", "floodgate/api.ErrOver", "floodgate/api.ErrIdle", "floodgate/api.ErrTurn"], apart := false, laid := [("errors.errorType", laid_errors_errorType), ("floodgate/api.ErrText", laid_floodgate_api_ErrText), ("floodgate/api.ErrBound", laid_floodgate_api_ErrBound), ("floodgate/api.ErrShape", laid_floodgate_api_ErrShape), ("floodgate/api.ErrNone", laid_floodgate_api_ErrNone), ("floodgate/api.ErrOld", laid_floodgate_api_ErrOld), ("floodgate/api.ErrOver", laid_floodgate_api_ErrOver), ("floodgate/api.ErrIdle", laid_floodgate_api_ErrIdle), ("floodgate/api.ErrTurn", laid_floodgate_api_ErrTurn), ("floodgate/api.ErrKind", laid_floodgate_api_ErrKind)] }
def GateBoundsSaid : Prop := gateBoundsRow.holds Tryz.pinned (OpenSpec.ofChange gateBoundsSpec)

/-- ITS FALSE NEIGHBOUR: 'it returns false'. Refute it at one input. -/
def gateBoundsWrong : ChangeSpec := { name := "gateBounds", fn := fun _ => fun
  | [d] => { results := [.lit (.bool false)], args := [d] }
  | _ => none }
def GateBoundsWrongFalsely : Prop := gateBoundsRow.holds Tryz.pinned (OpenSpec.ofChange gateBoundsWrong)

/-- 'floodgatelaw3.GateKeeps': WHATEVER THE INPUT: true; the input reads as it did. -/
def gateKeepsSpec : ChangeSpec := { name := "gateKeeps", fn := fun _ => fun
  | [d1, d2] => { results := [.lit (.bool true)], args := [d1, d2] }
  | _ => none }
def gateKeepsRow : OpenClaim := { program := "ythgpbdlmadjndaagreatdoor", sum := "fce2b4b1409371bbec23f803066a0e3fd8e7b8291cbeac2c7d90e93c682a7c55", func := "floodgate/floodgatelaw3.GateKeeps", spec := "gateKeeps", inPlace := ["internal/reflectlite.ValueOf", "(internal/reflectlite.Value).Type", "(internal/reflectlite.Value).IsNil", "internal/reflectlite.TypeOf", "(internal/reflectlite.Value).Elem", "(internal/reflectlite.Value).Set"], unfollowed := true, recurses := true, named := ["floodgate/api.ErrShape", "floodgate/api.ErrKind", "floodgate/api.ErrBound", "errors.errorType", "floodgate/api.ErrOld", "floodgate/api.ErrNone", "floodgate/api.ErrIdle", "floodgate/api.ErrTurn"], apart := false, laid := [("errors.errorType", laid_errors_errorType), ("floodgate/api.ErrBound", laid_floodgate_api_ErrBound), ("floodgate/api.ErrShape", laid_floodgate_api_ErrShape), ("floodgate/api.ErrNone", laid_floodgate_api_ErrNone), ("floodgate/api.ErrOld", laid_floodgate_api_ErrOld), ("floodgate/api.ErrIdle", laid_floodgate_api_ErrIdle), ("floodgate/api.ErrTurn", laid_floodgate_api_ErrTurn), ("floodgate/api.ErrKind", laid_floodgate_api_ErrKind)] }
def GateKeepsSaid : Prop := gateKeepsRow.holds Tryz.pinned (OpenSpec.ofChange gateKeepsSpec)

/-- ITS FALSE NEIGHBOUR: 'it returns false'. Refute it at one input. -/
def gateKeepsWrong : ChangeSpec := { name := "gateKeeps", fn := fun _ => fun
  | [d1, d2] => { results := [.lit (.bool false)], args := [d1, d2] }
  | _ => none }
def GateKeepsWrongFalsely : Prop := gateKeepsRow.holds Tryz.pinned (OpenSpec.ofChange gateKeepsWrong)

/- THE SECOND FORM. 'bulk': how many values and letters a reading holds, each counted each time it is reached (what is shared counts as often as it is met; a slice's spare places count too). A statement '..UptoSaid' is the law's where the arguments, and the package variables that the reading takes, are together of bulk at most 1048576: NARROWER than '..Said'. Prove '..Said' where nothing that the law and all that it calls make is longer than what came in: it says more and counts as full. Else prove '..UptoSaid'. A law counts once. -/
mutual
def uptoBulk {H : Type} : DataW H → Nat
  | .lit (.string bytes) => bytes.length + 1
  | .lit _ => 1
  | .nil => 1
  | .ptr d => uptoBulk d + 1
  | .slice elems spare => uptoBulkAll elems + uptoBulkAll spare + 1
  | .agg parts => uptoBulkAll parts + 1
  | .iface _ d => uptoBulk d + 1
  | .map entries => uptoBulkEntries entries + 1
  | .held _ => 1
def uptoBulkAll {H : Type} : List (DataW H) → Nat
  | [] => 0
  | d :: r => uptoBulk d + uptoBulkAll r
def uptoBulkEntries {H : Type} : List (Lit × DataW H) → Nat
  | [] => 0
  | x :: r => uptoBulkEntry x + uptoBulkEntries r
def uptoBulkEntry {H : Type} : Lit × DataW H → Nat
  | (.string bytes, d) => bytes.length + uptoBulk d + 1
  | (_, d) => uptoBulk d + 1
 end
def uptoSmall : (H : Type) → List (DataW H) → Bool := fun _ ds => decide (uptoBulkAll ds ≤ 1048576)
def OpenSpec.upto (s : _root_.Go.ChangeSpec) : _root_.Go.OpenSpec := { _root_.Go.OpenSpec.ofChange s with cond := some uptoSmall }

/-- 'floodgatelaw3.GateRuns', WHERE WHAT IT READS IS OF BULK AT MOST 1048576: true; the input reads as it did. -/
def gateRunsUptoRow : OpenClaim := { program := "ythgpbdlmadjndaagreatdoor", sum := "fce2b4b1409371bbec23f803066a0e3fd8e7b8291cbeac2c7d90e93c682a7c55", func := "floodgate/floodgatelaw3.GateRuns", spec := "gateRuns", inPlace := ["internal/reflectlite.ValueOf", "(internal/reflectlite.Value).Type", "(internal/reflectlite.Value).IsNil", "internal/reflectlite.TypeOf", "(internal/reflectlite.Value).Elem", "(internal/reflectlite.Value).Set"], unfollowed := true, recurses := true, named := ["floodgate/api.ErrShape", "floodgate/api.ErrKind", "floodgate/api.ErrBound", "errors.errorType", "floodgate/api.ErrOld", "floodgate/api.ErrNone", "floodgate/api.ErrText", "floodgate/api.ErrOver", "floodgate/api.ErrIdle", "floodgate/api.ErrTurn"], apart := false, laid := [("errors.errorType", laid_errors_errorType), ("floodgate/api.ErrText", laid_floodgate_api_ErrText), ("floodgate/api.ErrBound", laid_floodgate_api_ErrBound), ("floodgate/api.ErrShape", laid_floodgate_api_ErrShape), ("floodgate/api.ErrNone", laid_floodgate_api_ErrNone), ("floodgate/api.ErrOld", laid_floodgate_api_ErrOld), ("floodgate/api.ErrOver", laid_floodgate_api_ErrOver), ("floodgate/api.ErrIdle", laid_floodgate_api_ErrIdle), ("floodgate/api.ErrTurn", laid_floodgate_api_ErrTurn), ("floodgate/api.ErrKind", laid_floodgate_api_ErrKind)], narrowed := true }
def GateRunsUptoSaid : Prop := gateRunsUptoRow.holds Tryz.pinned (OpenSpec.upto gateRunsSpec)

/-- 'floodgatelaw3.GateBounds', WHERE WHAT IT READS IS OF BULK AT MOST 1048576: true; the input reads as it did. -/
def gateBoundsUptoRow : OpenClaim := { program := "ythgpbdlmadjndaagreatdoor", sum := "fce2b4b1409371bbec23f803066a0e3fd8e7b8291cbeac2c7d90e93c682a7c55", func := "floodgate/floodgatelaw3.GateBounds", spec := "gateBounds", inPlace := ["internal/reflectlite.ValueOf", "(internal/reflectlite.Value).Type", "(internal/reflectlite.Value).IsNil", "internal/reflectlite.TypeOf", "(internal/reflectlite.Value).Elem", "(internal/reflectlite.Value).Set"], unfollowed := true, recurses := true, named := ["floodgate/api.ErrShape", "floodgate/api.ErrKind", "floodgate/api.ErrBound", "errors.errorType", "floodgate/api.ErrOld", "floodgate/api.ErrNone", "floodgate/api.ErrText", "floodgate/api.ErrOver", "floodgate/api.ErrIdle", "floodgate/api.ErrTurn"], apart := false, laid := [("errors.errorType", laid_errors_errorType), ("floodgate/api.ErrText", laid_floodgate_api_ErrText), ("floodgate/api.ErrBound", laid_floodgate_api_ErrBound), ("floodgate/api.ErrShape", laid_floodgate_api_ErrShape), ("floodgate/api.ErrNone", laid_floodgate_api_ErrNone), ("floodgate/api.ErrOld", laid_floodgate_api_ErrOld), ("floodgate/api.ErrOver", laid_floodgate_api_ErrOver), ("floodgate/api.ErrIdle", laid_floodgate_api_ErrIdle), ("floodgate/api.ErrTurn", laid_floodgate_api_ErrTurn), ("floodgate/api.ErrKind", laid_floodgate_api_ErrKind)], narrowed := true }
def GateBoundsUptoSaid : Prop := gateBoundsUptoRow.holds Tryz.pinned (OpenSpec.upto gateBoundsSpec)

/-- 'floodgatelaw3.GateKeeps', WHERE WHAT IT READS IS OF BULK AT MOST 1048576: true; the input reads as it did. -/
def gateKeepsUptoRow : OpenClaim := { program := "ythgpbdlmadjndaagreatdoor", sum := "fce2b4b1409371bbec23f803066a0e3fd8e7b8291cbeac2c7d90e93c682a7c55", func := "floodgate/floodgatelaw3.GateKeeps", spec := "gateKeeps", inPlace := ["internal/reflectlite.ValueOf", "(internal/reflectlite.Value).Type", "(internal/reflectlite.Value).IsNil", "internal/reflectlite.TypeOf", "(internal/reflectlite.Value).Elem", "(internal/reflectlite.Value).Set"], unfollowed := true, recurses := true, named := ["floodgate/api.ErrShape", "floodgate/api.ErrKind", "floodgate/api.ErrBound", "errors.errorType", "floodgate/api.ErrOld", "floodgate/api.ErrNone", "floodgate/api.ErrIdle", "floodgate/api.ErrTurn"], apart := false, laid := [("errors.errorType", laid_errors_errorType), ("floodgate/api.ErrBound", laid_floodgate_api_ErrBound), ("floodgate/api.ErrShape", laid_floodgate_api_ErrShape), ("floodgate/api.ErrNone", laid_floodgate_api_ErrNone), ("floodgate/api.ErrOld", laid_floodgate_api_ErrOld), ("floodgate/api.ErrIdle", laid_floodgate_api_ErrIdle), ("floodgate/api.ErrTurn", laid_floodgate_api_ErrTurn), ("floodgate/api.ErrKind", laid_floodgate_api_ErrKind)], narrowed := true }
def GateKeepsUptoSaid : Prop := gateKeepsUptoRow.holds Tryz.pinned (OpenSpec.upto gateKeepsSpec)

end Rows
end Go.Proofs.YthgpbdlmadjndaaGreatDoor
