/-
  NARROWER THAN 'FOR EVERY INPUT', by the rows' own cells (each row's printed sentence says how): FifoLindley: laid · RankWaits: laid · RoundShares: laid · RankDues: laid · FairShares: laid · FifoRuns: laid · FairRuns: laid · FifoTells: laid · RankLate: laid · RoundSpread: laid · RoundRuns: laid · RankRuns: laid.
  DERIVED. THE GIVEN ROWS OF THIS SEAT. 12 by the template 'for every input the law returns true; each argument reads behind the call as it read before'; 0 by the template 'total and deterministic' (their statements: YtkkecnofgmpekaaDoorTotals.lean).
  GIVEN WITH THE SEED: the statements are not yours to turn. If you find one false, say at which input.
  Laid BY PROGRAM, IN A SANDBOX (cutbox-rows.mjs): the forced cells as the released guide's own fill.sh prints them over the translation fab85c9bb979c54a… (all of the seat's roots in one cut). By AI agents, Wed Nov 11 2026. No macro, syntax, notation, axiom, sorry.
-/
import Derived.Test.YtkkecnofgmpekaaDoorChecked
import GoSem.Claim
import GoSem.ClaimJoined
import GoSem.ClaimMapViews
import Derived.JoinedTies
import Derived.KernelRfl
namespace Go.Proofs.YtkkecnofgmpekaaDoor
/- THE CELL 'sum', in the pinned program and in every row, IS THE sha256 OF THE DUMP (.gsa) THAT YtkkecnofgmpekaaDoorProg.lean LOADS. Nothing in Lean hashes anything: it is a label: what it is worth is what the hold of that sum in a sandbox is worth. -/
noncomputable def Tryd.pinned : Pinned := { name := "ytkkecnofgmpekaadoor", sum := "fab85c9bb979c54addf5971ce33d7d359ce469711bd72f0ef6c47ba47e7fa18a", checked := Tryd.checked }
namespace Rows
def none {H : Type} : Left H := { results := [], args := [] }

/- WHAT THE LISTED PACKAGE-LEVEL VARIABLES READ AS WHEN THE CALL BEGINS. Each datum BY PROGRAM (the guide's laid-datum.mjs) off the statement by which the dump's own 'gosem.cut.vars' lays the variable. In a bare row this is a premise. The card (YtkkecnofgmpekaaDoorCards.lean) ties it to the program's text. -/
def laid_floodgate_api_ErrBound {H : Type} : DataW H := .iface "*errors.errorString" (.ptr (.agg [.lit (.string [102, 108, 111, 111, 100, 103, 97, 116, 101, 58, 32, 98, 111, 117, 110, 100])]))
def laid_floodgate_api_ErrOld {H : Type} : DataW H := .iface "*errors.errorString" (.ptr (.agg [.lit (.string [102, 108, 111, 111, 100, 103, 97, 116, 101, 58, 32, 111, 108, 100])]))
def laid_floodgate_api_ErrShape {H : Type} : DataW H := .iface "*errors.errorString" (.ptr (.agg [.lit (.string [102, 108, 111, 111, 100, 103, 97, 116, 101, 58, 32, 115, 104, 97, 112, 101])]))
def laid_floodgate_api_ErrNone {H : Type} : DataW H := .iface "*errors.errorString" (.ptr (.agg [.lit (.string [102, 108, 111, 111, 100, 103, 97, 116, 101, 58, 32, 110, 111, 110, 101])]))
def laid_errors_errorType {H : Type} : DataW H := .iface "internal/reflectlite.rtype" (.agg [.ptr (.lit (.string [101, 114, 114, 111, 114]))])
def laid_floodgate_api_ErrText {H : Type} : DataW H := .iface "*errors.errorString" (.ptr (.agg [.lit (.string [102, 108, 111, 111, 100, 103, 97, 116, 101, 58, 32, 116, 101, 120, 116])]))
def laid_floodgate_api_ErrOver {H : Type} : DataW H := .iface "*errors.errorString" (.ptr (.agg [.lit (.string [102, 108, 111, 111, 100, 103, 97, 116, 101, 58, 32, 111, 118, 101, 114])]))
def laid_floodgate_api_ErrIdle {H : Type} : DataW H := .iface "*errors.errorString" (.ptr (.agg [.lit (.string [102, 108, 111, 111, 100, 103, 97, 116, 101, 58, 32, 105, 100, 108, 101])]))
def laid_floodgate_api_ErrTurn {H : Type} : DataW H := .iface "*errors.errorString" (.ptr (.agg [.lit (.string [102, 108, 111, 111, 100, 103, 97, 116, 101, 58, 32, 116, 117, 114, 110])]))
def laid_floodgate_api_ErrKind {H : Type} : DataW H := .iface "*errors.errorString" (.ptr (.agg [.lit (.string [102, 108, 111, 111, 100, 103, 97, 116, 101, 58, 32, 107, 105, 110, 100])]))

/-- 'floodgatelaw2.FifoLindley': WHATEVER THE INPUT: true; the input reads as it did. -/
def fifoLindleySpec : ChangeSpec := { name := "fifoLindley", fn := fun _ => fun
  | [d1, d2] => { results := [.lit (.bool true)], args := [d1, d2] }
  | _ => none }
def fifoLindleyRow : OpenClaim := { program := "ytkkecnofgmpekaadoor", sum := "fab85c9bb979c54addf5971ce33d7d359ce469711bd72f0ef6c47ba47e7fa18a", func := "floodgate/floodgatelaw2.FifoLindley", spec := "fifoLindley", unfollowed := true, recurses := true, named := ["floodgate/api.ErrBound", "floodgate/api.ErrOld"], apart := false, laid := [("floodgate/api.ErrBound", laid_floodgate_api_ErrBound), ("floodgate/api.ErrOld", laid_floodgate_api_ErrOld)] }
def FifoLindleySaid : Prop := fifoLindleyRow.holds Tryd.pinned (OpenSpec.ofChange fifoLindleySpec)

/-- ITS FALSE NEIGHBOUR: 'it returns false'. Refute it at one input. -/
def fifoLindleyWrong : ChangeSpec := { name := "fifoLindley", fn := fun _ => fun
  | [d1, d2] => { results := [.lit (.bool false)], args := [d1, d2] }
  | _ => none }
def FifoLindleyWrongFalsely : Prop := fifoLindleyRow.holds Tryd.pinned (OpenSpec.ofChange fifoLindleyWrong)

/-- 'floodgatelaw2.RankWaits': WHATEVER THE INPUT: true; the input reads as it did. -/
def rankWaitsSpec : ChangeSpec := { name := "rankWaits", fn := fun _ => fun
  | [d1, d2, d3] => { results := [.lit (.bool true)], args := [d1, d2, d3] }
  | _ => none }
def rankWaitsRow : OpenClaim := { program := "ytkkecnofgmpekaadoor", sum := "fab85c9bb979c54addf5971ce33d7d359ce469711bd72f0ef6c47ba47e7fa18a", func := "floodgate/floodgatelaw2.RankWaits", spec := "rankWaits", unfollowed := true, recurses := true, named := ["floodgate/api.ErrBound", "floodgate/api.ErrOld", "floodgate/api.ErrShape"], apart := false, laid := [("floodgate/api.ErrBound", laid_floodgate_api_ErrBound), ("floodgate/api.ErrShape", laid_floodgate_api_ErrShape), ("floodgate/api.ErrOld", laid_floodgate_api_ErrOld)] }
def RankWaitsSaid : Prop := rankWaitsRow.holds Tryd.pinned (OpenSpec.ofChange rankWaitsSpec)

/-- ITS FALSE NEIGHBOUR: 'it returns false'. Refute it at one input. -/
def rankWaitsWrong : ChangeSpec := { name := "rankWaits", fn := fun _ => fun
  | [d1, d2, d3] => { results := [.lit (.bool false)], args := [d1, d2, d3] }
  | _ => none }
def RankWaitsWrongFalsely : Prop := rankWaitsRow.holds Tryd.pinned (OpenSpec.ofChange rankWaitsWrong)

/-- 'floodgatelaw2.RoundShares': WHATEVER THE INPUT: true; the input reads as it did. -/
def roundSharesSpec : ChangeSpec := { name := "roundShares", fn := fun _ => fun
  | [d1, d2, d3, d4, d5] => { results := [.lit (.bool true)], args := [d1, d2, d3, d4, d5] }
  | _ => none }
def roundSharesRow : OpenClaim := { program := "ytkkecnofgmpekaadoor", sum := "fab85c9bb979c54addf5971ce33d7d359ce469711bd72f0ef6c47ba47e7fa18a", func := "floodgate/floodgatelaw2.RoundShares", spec := "roundShares", unfollowed := true, recurses := true, named := ["floodgate/api.ErrBound", "floodgate/api.ErrOld", "floodgate/api.ErrShape", "floodgate/api.ErrNone"], apart := false, laid := [("floodgate/api.ErrBound", laid_floodgate_api_ErrBound), ("floodgate/api.ErrShape", laid_floodgate_api_ErrShape), ("floodgate/api.ErrNone", laid_floodgate_api_ErrNone), ("floodgate/api.ErrOld", laid_floodgate_api_ErrOld)] }
def RoundSharesSaid : Prop := roundSharesRow.holds Tryd.pinned (OpenSpec.ofChange roundSharesSpec)

/-- ITS FALSE NEIGHBOUR: 'it returns false'. Refute it at one input. -/
def roundSharesWrong : ChangeSpec := { name := "roundShares", fn := fun _ => fun
  | [d1, d2, d3, d4, d5] => { results := [.lit (.bool false)], args := [d1, d2, d3, d4, d5] }
  | _ => none }
def RoundSharesWrongFalsely : Prop := roundSharesRow.holds Tryd.pinned (OpenSpec.ofChange roundSharesWrong)

/-- 'floodgatelaw2.RankDues': WHATEVER THE INPUT: true; the input reads as it did. -/
def rankDuesSpec : ChangeSpec := { name := "rankDues", fn := fun _ => fun
  | [d1, d2, d3, d4] => { results := [.lit (.bool true)], args := [d1, d2, d3, d4] }
  | _ => none }
def rankDuesRow : OpenClaim := { program := "ytkkecnofgmpekaadoor", sum := "fab85c9bb979c54addf5971ce33d7d359ce469711bd72f0ef6c47ba47e7fa18a", func := "floodgate/floodgatelaw2.RankDues", spec := "rankDues", unfollowed := true, recurses := true, named := ["floodgate/api.ErrBound", "floodgate/api.ErrOld", "floodgate/api.ErrShape", "floodgate/api.ErrNone"], apart := false, laid := [("floodgate/api.ErrBound", laid_floodgate_api_ErrBound), ("floodgate/api.ErrShape", laid_floodgate_api_ErrShape), ("floodgate/api.ErrNone", laid_floodgate_api_ErrNone), ("floodgate/api.ErrOld", laid_floodgate_api_ErrOld)] }
def RankDuesSaid : Prop := rankDuesRow.holds Tryd.pinned (OpenSpec.ofChange rankDuesSpec)

/-- ITS FALSE NEIGHBOUR: 'it returns false'. Refute it at one input. -/
def rankDuesWrong : ChangeSpec := { name := "rankDues", fn := fun _ => fun
  | [d1, d2, d3, d4] => { results := [.lit (.bool false)], args := [d1, d2, d3, d4] }
  | _ => none }
def RankDuesWrongFalsely : Prop := rankDuesRow.holds Tryd.pinned (OpenSpec.ofChange rankDuesWrong)

/-- 'floodgatelaw2.FairShares': WHATEVER THE INPUT: true; the input reads as it did. -/
def fairSharesSpec : ChangeSpec := { name := "fairShares", fn := fun _ => fun
  | [d1, d2, d3, d4, d5] => { results := [.lit (.bool true)], args := [d1, d2, d3, d4, d5] }
  | _ => none }
def fairSharesRow : OpenClaim := { program := "ytkkecnofgmpekaadoor", sum := "fab85c9bb979c54addf5971ce33d7d359ce469711bd72f0ef6c47ba47e7fa18a", func := "floodgate/floodgatelaw2.FairShares", spec := "fairShares", unfollowed := true, recurses := true, named := ["floodgate/api.ErrShape", "floodgate/api.ErrBound", "floodgate/api.ErrOld", "floodgate/api.ErrNone"], apart := false, laid := [("floodgate/api.ErrBound", laid_floodgate_api_ErrBound), ("floodgate/api.ErrShape", laid_floodgate_api_ErrShape), ("floodgate/api.ErrNone", laid_floodgate_api_ErrNone), ("floodgate/api.ErrOld", laid_floodgate_api_ErrOld)] }
def FairSharesSaid : Prop := fairSharesRow.holds Tryd.pinned (OpenSpec.ofChange fairSharesSpec)

/-- ITS FALSE NEIGHBOUR: 'it returns false'. Refute it at one input. -/
def fairSharesWrong : ChangeSpec := { name := "fairShares", fn := fun _ => fun
  | [d1, d2, d3, d4, d5] => { results := [.lit (.bool false)], args := [d1, d2, d3, d4, d5] }
  | _ => none }
def FairSharesWrongFalsely : Prop := fairSharesRow.holds Tryd.pinned (OpenSpec.ofChange fairSharesWrong)

/-- 'floodgatelaw2.FifoRuns': WHATEVER THE INPUT: true; the input reads as it did. -/
def fifoRunsSpec : ChangeSpec := { name := "fifoRuns", fn := fun _ => fun
  | [d1, d2] => { results := [.lit (.bool true)], args := [d1, d2] }
  | _ => none }
def fifoRunsRow : OpenClaim := { program := "ytkkecnofgmpekaadoor", sum := "fab85c9bb979c54addf5971ce33d7d359ce469711bd72f0ef6c47ba47e7fa18a", func := "floodgate/floodgatelaw2.FifoRuns", spec := "fifoRuns", inPlace := ["internal/reflectlite.ValueOf", "(internal/reflectlite.Value).Type", "(internal/reflectlite.Value).IsNil", "internal/reflectlite.TypeOf", "(internal/reflectlite.Value).Elem", "(internal/reflectlite.Value).Set"], unfollowed := true, recurses := true, named := ["floodgate/api.ErrBound", "floodgate/api.ErrOld", "floodgate/api.ErrText", "floodgate/api.ErrShape", "floodgate/api.ErrNone", "floodgate/api.ErrOver", "floodgate/api.ErrIdle", "floodgate/api.ErrTurn", "floodgate/api.ErrKind", "errors.errorType"], apart := false, laid := [("errors.errorType", laid_errors_errorType), ("floodgate/api.ErrText", laid_floodgate_api_ErrText), ("floodgate/api.ErrBound", laid_floodgate_api_ErrBound), ("floodgate/api.ErrShape", laid_floodgate_api_ErrShape), ("floodgate/api.ErrNone", laid_floodgate_api_ErrNone), ("floodgate/api.ErrOld", laid_floodgate_api_ErrOld), ("floodgate/api.ErrOver", laid_floodgate_api_ErrOver), ("floodgate/api.ErrIdle", laid_floodgate_api_ErrIdle), ("floodgate/api.ErrTurn", laid_floodgate_api_ErrTurn), ("floodgate/api.ErrKind", laid_floodgate_api_ErrKind)] }
def FifoRunsSaid : Prop := fifoRunsRow.holds Tryd.pinned (OpenSpec.ofChange fifoRunsSpec)

/-- ITS FALSE NEIGHBOUR: 'it returns false'. Refute it at one input. -/
def fifoRunsWrong : ChangeSpec := { name := "fifoRuns", fn := fun _ => fun
  | [d1, d2] => { results := [.lit (.bool false)], args := [d1, d2] }
  | _ => none }
def FifoRunsWrongFalsely : Prop := fifoRunsRow.holds Tryd.pinned (OpenSpec.ofChange fifoRunsWrong)

/-- 'floodgatelaw2.FairRuns': WHATEVER THE INPUT: true; the input reads as it did. -/
def fairRunsSpec : ChangeSpec := { name := "fairRuns", fn := fun _ => fun
  | [d1, d2, d3] => { results := [.lit (.bool true)], args := [d1, d2, d3] }
  | _ => none }
def fairRunsRow : OpenClaim := { program := "ytkkecnofgmpekaadoor", sum := "fab85c9bb979c54addf5971ce33d7d359ce469711bd72f0ef6c47ba47e7fa18a", func := "floodgate/floodgatelaw2.FairRuns", spec := "fairRuns", inPlace := ["internal/reflectlite.ValueOf", "(internal/reflectlite.Value).Type", "(internal/reflectlite.Value).IsNil", "internal/reflectlite.TypeOf", "(internal/reflectlite.Value).Elem", "(internal/reflectlite.Value).Set"], unfollowed := true, recurses := true, named := ["floodgate/api.ErrShape", "floodgate/api.ErrBound", "floodgate/api.ErrOld", "floodgate/api.ErrText", "floodgate/api.ErrNone", "floodgate/api.ErrOver", "floodgate/api.ErrIdle", "floodgate/api.ErrTurn", "floodgate/api.ErrKind", "errors.errorType"], apart := false, laid := [("errors.errorType", laid_errors_errorType), ("floodgate/api.ErrText", laid_floodgate_api_ErrText), ("floodgate/api.ErrBound", laid_floodgate_api_ErrBound), ("floodgate/api.ErrShape", laid_floodgate_api_ErrShape), ("floodgate/api.ErrNone", laid_floodgate_api_ErrNone), ("floodgate/api.ErrOld", laid_floodgate_api_ErrOld), ("floodgate/api.ErrOver", laid_floodgate_api_ErrOver), ("floodgate/api.ErrIdle", laid_floodgate_api_ErrIdle), ("floodgate/api.ErrTurn", laid_floodgate_api_ErrTurn), ("floodgate/api.ErrKind", laid_floodgate_api_ErrKind)] }
def FairRunsSaid : Prop := fairRunsRow.holds Tryd.pinned (OpenSpec.ofChange fairRunsSpec)

/-- ITS FALSE NEIGHBOUR: 'it returns false'. Refute it at one input. -/
def fairRunsWrong : ChangeSpec := { name := "fairRuns", fn := fun _ => fun
  | [d1, d2, d3] => { results := [.lit (.bool false)], args := [d1, d2, d3] }
  | _ => none }
def FairRunsWrongFalsely : Prop := fairRunsRow.holds Tryd.pinned (OpenSpec.ofChange fairRunsWrong)

/-- 'floodgatelaw2.FifoTells': WHATEVER THE INPUT: true; the input reads as it did. -/
def fifoTellsSpec : ChangeSpec := { name := "fifoTells", fn := fun _ => fun
  | [d1, d2] => { results := [.lit (.bool true)], args := [d1, d2] }
  | _ => none }
def fifoTellsRow : OpenClaim := { program := "ytkkecnofgmpekaadoor", sum := "fab85c9bb979c54addf5971ce33d7d359ce469711bd72f0ef6c47ba47e7fa18a", func := "floodgate/floodgatelaw2.FifoTells", spec := "fifoTells", inPlace := ["internal/reflectlite.ValueOf", "(internal/reflectlite.Value).Type", "(internal/reflectlite.Value).IsNil", "internal/reflectlite.TypeOf", "(internal/reflectlite.Value).Elem", "(internal/reflectlite.Value).Set"], unfollowed := true, recurses := true, named := ["floodgate/api.ErrBound", "floodgate/api.ErrOld", "floodgate/api.ErrNone", "floodgate/api.ErrText", "floodgate/api.ErrShape", "floodgate/api.ErrOver", "floodgate/api.ErrIdle", "floodgate/api.ErrTurn", "floodgate/api.ErrKind", "errors.errorType"], apart := false, laid := [("errors.errorType", laid_errors_errorType), ("floodgate/api.ErrText", laid_floodgate_api_ErrText), ("floodgate/api.ErrBound", laid_floodgate_api_ErrBound), ("floodgate/api.ErrShape", laid_floodgate_api_ErrShape), ("floodgate/api.ErrNone", laid_floodgate_api_ErrNone), ("floodgate/api.ErrOld", laid_floodgate_api_ErrOld), ("floodgate/api.ErrOver", laid_floodgate_api_ErrOver), ("floodgate/api.ErrIdle", laid_floodgate_api_ErrIdle), ("floodgate/api.ErrTurn", laid_floodgate_api_ErrTurn), ("floodgate/api.ErrKind", laid_floodgate_api_ErrKind)] }
def FifoTellsSaid : Prop := fifoTellsRow.holds Tryd.pinned (OpenSpec.ofChange fifoTellsSpec)

/-- ITS FALSE NEIGHBOUR: 'it returns false'. Refute it at one input. -/
def fifoTellsWrong : ChangeSpec := { name := "fifoTells", fn := fun _ => fun
  | [d1, d2] => { results := [.lit (.bool false)], args := [d1, d2] }
  | _ => none }
def FifoTellsWrongFalsely : Prop := fifoTellsRow.holds Tryd.pinned (OpenSpec.ofChange fifoTellsWrong)

/-- 'floodgatelaw2.RankLate': WHATEVER THE INPUT: true; the input reads as it did. -/
def rankLateSpec : ChangeSpec := { name := "rankLate", fn := fun _ => fun
  | [d1, d2, d3] => { results := [.lit (.bool true)], args := [d1, d2, d3] }
  | _ => none }
def rankLateRow : OpenClaim := { program := "ytkkecnofgmpekaadoor", sum := "fab85c9bb979c54addf5971ce33d7d359ce469711bd72f0ef6c47ba47e7fa18a", func := "floodgate/floodgatelaw2.RankLate", spec := "rankLate", inPlace := ["internal/reflectlite.ValueOf", "(internal/reflectlite.Value).Type", "(internal/reflectlite.Value).IsNil", "internal/reflectlite.TypeOf", "(internal/reflectlite.Value).Elem", "(internal/reflectlite.Value).Set"], unfollowed := true, recurses := true, named := ["floodgate/api.ErrBound", "floodgate/api.ErrOld", "floodgate/api.ErrShape", "floodgate/api.ErrNone", "floodgate/api.ErrText", "floodgate/api.ErrOver", "floodgate/api.ErrIdle", "floodgate/api.ErrTurn", "floodgate/api.ErrKind", "errors.errorType"], apart := false, laid := [("errors.errorType", laid_errors_errorType), ("floodgate/api.ErrText", laid_floodgate_api_ErrText), ("floodgate/api.ErrBound", laid_floodgate_api_ErrBound), ("floodgate/api.ErrShape", laid_floodgate_api_ErrShape), ("floodgate/api.ErrNone", laid_floodgate_api_ErrNone), ("floodgate/api.ErrOld", laid_floodgate_api_ErrOld), ("floodgate/api.ErrOver", laid_floodgate_api_ErrOver), ("floodgate/api.ErrIdle", laid_floodgate_api_ErrIdle), ("floodgate/api.ErrTurn", laid_floodgate_api_ErrTurn), ("floodgate/api.ErrKind", laid_floodgate_api_ErrKind)] }
def RankLateSaid : Prop := rankLateRow.holds Tryd.pinned (OpenSpec.ofChange rankLateSpec)

/-- ITS FALSE NEIGHBOUR: 'it returns false'. Refute it at one input. -/
def rankLateWrong : ChangeSpec := { name := "rankLate", fn := fun _ => fun
  | [d1, d2, d3] => { results := [.lit (.bool false)], args := [d1, d2, d3] }
  | _ => none }
def RankLateWrongFalsely : Prop := rankLateRow.holds Tryd.pinned (OpenSpec.ofChange rankLateWrong)

/-- 'floodgatelaw2.RoundSpread': WHATEVER THE INPUT: true; the input reads as it did. -/
def roundSpreadSpec : ChangeSpec := { name := "roundSpread", fn := fun _ => fun
  | [d1, d2, d3, d4, d5] => { results := [.lit (.bool true)], args := [d1, d2, d3, d4, d5] }
  | _ => none }
def roundSpreadRow : OpenClaim := { program := "ytkkecnofgmpekaadoor", sum := "fab85c9bb979c54addf5971ce33d7d359ce469711bd72f0ef6c47ba47e7fa18a", func := "floodgate/floodgatelaw2.RoundSpread", spec := "roundSpread", inPlace := ["internal/reflectlite.ValueOf", "(internal/reflectlite.Value).Type", "(internal/reflectlite.Value).IsNil", "internal/reflectlite.TypeOf", "(internal/reflectlite.Value).Elem", "(internal/reflectlite.Value).Set"], unfollowed := true, recurses := true, named := ["floodgate/api.ErrBound", "floodgate/api.ErrOld", "floodgate/api.ErrShape", "floodgate/api.ErrNone", "floodgate/api.ErrText", "floodgate/api.ErrOver", "floodgate/api.ErrIdle", "floodgate/api.ErrTurn", "floodgate/api.ErrKind", "errors.errorType"], apart := false, laid := [("errors.errorType", laid_errors_errorType), ("floodgate/api.ErrText", laid_floodgate_api_ErrText), ("floodgate/api.ErrBound", laid_floodgate_api_ErrBound), ("floodgate/api.ErrShape", laid_floodgate_api_ErrShape), ("floodgate/api.ErrNone", laid_floodgate_api_ErrNone), ("floodgate/api.ErrOld", laid_floodgate_api_ErrOld), ("floodgate/api.ErrOver", laid_floodgate_api_ErrOver), ("floodgate/api.ErrIdle", laid_floodgate_api_ErrIdle), ("floodgate/api.ErrTurn", laid_floodgate_api_ErrTurn), ("floodgate/api.ErrKind", laid_floodgate_api_ErrKind)] }
def RoundSpreadSaid : Prop := roundSpreadRow.holds Tryd.pinned (OpenSpec.ofChange roundSpreadSpec)

/-- ITS FALSE NEIGHBOUR: 'it returns false'. Refute it at one input. -/
def roundSpreadWrong : ChangeSpec := { name := "roundSpread", fn := fun _ => fun
  | [d1, d2, d3, d4, d5] => { results := [.lit (.bool false)], args := [d1, d2, d3, d4, d5] }
  | _ => none }
def RoundSpreadWrongFalsely : Prop := roundSpreadRow.holds Tryd.pinned (OpenSpec.ofChange roundSpreadWrong)

/-- 'floodgatelaw2.RoundRuns': WHATEVER THE INPUT: true; the input reads as it did. -/
def roundRunsSpec : ChangeSpec := { name := "roundRuns", fn := fun _ => fun
  | [d1, d2, d3, d4, d5] => { results := [.lit (.bool true)], args := [d1, d2, d3, d4, d5] }
  | _ => none }
def roundRunsRow : OpenClaim := { program := "ytkkecnofgmpekaadoor", sum := "fab85c9bb979c54addf5971ce33d7d359ce469711bd72f0ef6c47ba47e7fa18a", func := "floodgate/floodgatelaw2.RoundRuns", spec := "roundRuns", inPlace := ["internal/reflectlite.ValueOf", "(internal/reflectlite.Value).Type", "(internal/reflectlite.Value).IsNil", "internal/reflectlite.TypeOf", "(internal/reflectlite.Value).Elem", "(internal/reflectlite.Value).Set"], unfollowed := true, recurses := true, named := ["floodgate/api.ErrBound", "floodgate/api.ErrOld", "floodgate/api.ErrShape", "floodgate/api.ErrText", "floodgate/api.ErrNone", "floodgate/api.ErrOver", "floodgate/api.ErrIdle", "floodgate/api.ErrTurn", "floodgate/api.ErrKind", "errors.errorType"], apart := false, laid := [("errors.errorType", laid_errors_errorType), ("floodgate/api.ErrText", laid_floodgate_api_ErrText), ("floodgate/api.ErrBound", laid_floodgate_api_ErrBound), ("floodgate/api.ErrShape", laid_floodgate_api_ErrShape), ("floodgate/api.ErrNone", laid_floodgate_api_ErrNone), ("floodgate/api.ErrOld", laid_floodgate_api_ErrOld), ("floodgate/api.ErrOver", laid_floodgate_api_ErrOver), ("floodgate/api.ErrIdle", laid_floodgate_api_ErrIdle), ("floodgate/api.ErrTurn", laid_floodgate_api_ErrTurn), ("floodgate/api.ErrKind", laid_floodgate_api_ErrKind)] }
def RoundRunsSaid : Prop := roundRunsRow.holds Tryd.pinned (OpenSpec.ofChange roundRunsSpec)

/-- ITS FALSE NEIGHBOUR: 'it returns false'. Refute it at one input. -/
def roundRunsWrong : ChangeSpec := { name := "roundRuns", fn := fun _ => fun
  | [d1, d2, d3, d4, d5] => { results := [.lit (.bool false)], args := [d1, d2, d3, d4, d5] }
  | _ => none }
def RoundRunsWrongFalsely : Prop := roundRunsRow.holds Tryd.pinned (OpenSpec.ofChange roundRunsWrong)

/-- 'floodgatelaw2.RankRuns': WHATEVER THE INPUT: true; the input reads as it did. -/
def rankRunsSpec : ChangeSpec := { name := "rankRuns", fn := fun _ => fun
  | [d1, d2, d3, d4] => { results := [.lit (.bool true)], args := [d1, d2, d3, d4] }
  | _ => none }
def rankRunsRow : OpenClaim := { program := "ytkkecnofgmpekaadoor", sum := "fab85c9bb979c54addf5971ce33d7d359ce469711bd72f0ef6c47ba47e7fa18a", func := "floodgate/floodgatelaw2.RankRuns", spec := "rankRuns", inPlace := ["internal/reflectlite.ValueOf", "(internal/reflectlite.Value).Type", "(internal/reflectlite.Value).IsNil", "internal/reflectlite.TypeOf", "(internal/reflectlite.Value).Elem", "(internal/reflectlite.Value).Set"], unfollowed := true, recurses := true, named := ["floodgate/api.ErrBound", "floodgate/api.ErrOld", "floodgate/api.ErrShape", "floodgate/api.ErrText", "floodgate/api.ErrNone", "floodgate/api.ErrOver", "floodgate/api.ErrIdle", "floodgate/api.ErrTurn", "floodgate/api.ErrKind", "errors.errorType"], apart := false, laid := [("errors.errorType", laid_errors_errorType), ("floodgate/api.ErrText", laid_floodgate_api_ErrText), ("floodgate/api.ErrBound", laid_floodgate_api_ErrBound), ("floodgate/api.ErrShape", laid_floodgate_api_ErrShape), ("floodgate/api.ErrNone", laid_floodgate_api_ErrNone), ("floodgate/api.ErrOld", laid_floodgate_api_ErrOld), ("floodgate/api.ErrOver", laid_floodgate_api_ErrOver), ("floodgate/api.ErrIdle", laid_floodgate_api_ErrIdle), ("floodgate/api.ErrTurn", laid_floodgate_api_ErrTurn), ("floodgate/api.ErrKind", laid_floodgate_api_ErrKind)] }
def RankRunsSaid : Prop := rankRunsRow.holds Tryd.pinned (OpenSpec.ofChange rankRunsSpec)

/-- ITS FALSE NEIGHBOUR: 'it returns false'. Refute it at one input. -/
def rankRunsWrong : ChangeSpec := { name := "rankRuns", fn := fun _ => fun
  | [d1, d2, d3, d4] => { results := [.lit (.bool false)], args := [d1, d2, d3, d4] }
  | _ => none }
def RankRunsWrongFalsely : Prop := rankRunsRow.holds Tryd.pinned (OpenSpec.ofChange rankRunsWrong)

/- THE SECOND FORM. 'bulk': how many values and letters a reading holds, each counted each time it is reached (what is shared counts as often as it is met; a slice's spare places count too). A statement '..UptoSaid' is the law's where the arguments, and the package variables that the reading takes, are together of bulk at most 1048576: NARROWER than '..Said'. Prove '..Said' where nothing that the law and all that it calls make is longer than what came in: it says more and counts as full. Else prove '..UptoSaid'. A law counts once. -/
mutual
def uptoBulk {H : Type} : DataW H → Nat
  | .lit (.string bytes) => bytes.length + 1
  | .lit _ => 1
  | .nil => 1
  | .ptr d => uptoBulk d + 1
  | .slice elems spare => uptoBulkAll elems + uptoBulkAll spare + 1
  | .agg parts => uptoBulkAll parts + 1
  | .iface _ d => uptoBulk d + 1
  | .map entries => uptoBulkEntries entries + 1
  | .held _ => 1
def uptoBulkAll {H : Type} : List (DataW H) → Nat
  | [] => 0
  | d :: r => uptoBulk d + uptoBulkAll r
def uptoBulkEntries {H : Type} : List (Lit × DataW H) → Nat
  | [] => 0
  | x :: r => uptoBulkEntry x + uptoBulkEntries r
def uptoBulkEntry {H : Type} : Lit × DataW H → Nat
  | (.string bytes, d) => bytes.length + uptoBulk d + 1
  | (_, d) => uptoBulk d + 1
 end
def uptoSmall : (H : Type) → List (DataW H) → Bool := fun _ ds => decide (uptoBulkAll ds ≤ 1048576)
def OpenSpec.upto (s : _root_.Go.ChangeSpec) : _root_.Go.OpenSpec := { _root_.Go.OpenSpec.ofChange s with cond := some uptoSmall }

/-- 'floodgatelaw2.FifoLindley', WHERE WHAT IT READS IS OF BULK AT MOST 1048576: true; the input reads as it did. -/
def fifoLindleyUptoRow : OpenClaim := { program := "ytkkecnofgmpekaadoor", sum := "fab85c9bb979c54addf5971ce33d7d359ce469711bd72f0ef6c47ba47e7fa18a", func := "floodgate/floodgatelaw2.FifoLindley", spec := "fifoLindley", unfollowed := true, recurses := true, named := ["floodgate/api.ErrBound", "floodgate/api.ErrOld"], apart := false, laid := [("floodgate/api.ErrBound", laid_floodgate_api_ErrBound), ("floodgate/api.ErrOld", laid_floodgate_api_ErrOld)], narrowed := true }
def FifoLindleyUptoSaid : Prop := fifoLindleyUptoRow.holds Tryd.pinned (OpenSpec.upto fifoLindleySpec)

/-- 'floodgatelaw2.RankWaits', WHERE WHAT IT READS IS OF BULK AT MOST 1048576: true; the input reads as it did. -/
def rankWaitsUptoRow : OpenClaim := { program := "ytkkecnofgmpekaadoor", sum := "fab85c9bb979c54addf5971ce33d7d359ce469711bd72f0ef6c47ba47e7fa18a", func := "floodgate/floodgatelaw2.RankWaits", spec := "rankWaits", unfollowed := true, recurses := true, named := ["floodgate/api.ErrBound", "floodgate/api.ErrOld", "floodgate/api.ErrShape"], apart := false, laid := [("floodgate/api.ErrBound", laid_floodgate_api_ErrBound), ("floodgate/api.ErrShape", laid_floodgate_api_ErrShape), ("floodgate/api.ErrOld", laid_floodgate_api_ErrOld)], narrowed := true }
def RankWaitsUptoSaid : Prop := rankWaitsUptoRow.holds Tryd.pinned (OpenSpec.upto rankWaitsSpec)

/-- 'floodgatelaw2.RoundShares', WHERE WHAT IT READS IS OF BULK AT MOST 1048576: true; the input reads as it did. -/
def roundSharesUptoRow : OpenClaim := { program := "ytkkecnofgmpekaadoor", sum := "fab85c9bb979c54addf5971ce33d7d359ce469711bd72f0ef6c47ba47e7fa18a", func := "floodgate/floodgatelaw2.RoundShares", spec := "roundShares", unfollowed := true, recurses := true, named := ["floodgate/api.ErrBound", "floodgate/api.ErrOld", "floodgate/api.ErrShape", "floodgate/api.ErrNone"], apart := false, laid := [("floodgate/api.ErrBound", laid_floodgate_api_ErrBound), ("floodgate/api.ErrShape", laid_floodgate_api_ErrShape), ("floodgate/api.ErrNone", laid_floodgate_api_ErrNone), ("floodgate/api.ErrOld", laid_floodgate_api_ErrOld)], narrowed := true }
def RoundSharesUptoSaid : Prop := roundSharesUptoRow.holds Tryd.pinned (OpenSpec.upto roundSharesSpec)

/-- 'floodgatelaw2.RankDues', WHERE WHAT IT READS IS OF BULK AT MOST 1048576: true; the input reads as it did. -/
def rankDuesUptoRow : OpenClaim := { program := "ytkkecnofgmpekaadoor", sum := "fab85c9bb979c54addf5971ce33d7d359ce469711bd72f0ef6c47ba47e7fa18a", func := "floodgate/floodgatelaw2.RankDues", spec := "rankDues", unfollowed := true, recurses := true, named := ["floodgate/api.ErrBound", "floodgate/api.ErrOld", "floodgate/api.ErrShape", "floodgate/api.ErrNone"], apart := false, laid := [("floodgate/api.ErrBound", laid_floodgate_api_ErrBound), ("floodgate/api.ErrShape", laid_floodgate_api_ErrShape), ("floodgate/api.ErrNone", laid_floodgate_api_ErrNone), ("floodgate/api.ErrOld", laid_floodgate_api_ErrOld)], narrowed := true }
def RankDuesUptoSaid : Prop := rankDuesUptoRow.holds Tryd.pinned (OpenSpec.upto rankDuesSpec)

/-- 'floodgatelaw2.FairShares', WHERE WHAT IT READS IS OF BULK AT MOST 1048576: true; the input reads as it did. -/
def fairSharesUptoRow : OpenClaim := { program := "ytkkecnofgmpekaadoor", sum := "fab85c9bb979c54addf5971ce33d7d359ce469711bd72f0ef6c47ba47e7fa18a", func := "floodgate/floodgatelaw2.FairShares", spec := "fairShares", unfollowed := true, recurses := true, named := ["floodgate/api.ErrShape", "floodgate/api.ErrBound", "floodgate/api.ErrOld", "floodgate/api.ErrNone"], apart := false, laid := [("floodgate/api.ErrBound", laid_floodgate_api_ErrBound), ("floodgate/api.ErrShape", laid_floodgate_api_ErrShape), ("floodgate/api.ErrNone", laid_floodgate_api_ErrNone), ("floodgate/api.ErrOld", laid_floodgate_api_ErrOld)], narrowed := true }
def FairSharesUptoSaid : Prop := fairSharesUptoRow.holds Tryd.pinned (OpenSpec.upto fairSharesSpec)

/-- 'floodgatelaw2.FifoRuns', WHERE WHAT IT READS IS OF BULK AT MOST 1048576: true; the input reads as it did. -/
def fifoRunsUptoRow : OpenClaim := { program := "ytkkecnofgmpekaadoor", sum := "fab85c9bb979c54addf5971ce33d7d359ce469711bd72f0ef6c47ba47e7fa18a", func := "floodgate/floodgatelaw2.FifoRuns", spec := "fifoRuns", inPlace := ["internal/reflectlite.ValueOf", "(internal/reflectlite.Value).Type", "(internal/reflectlite.Value).IsNil", "internal/reflectlite.TypeOf", "(internal/reflectlite.Value).Elem", "(internal/reflectlite.Value).Set"], unfollowed := true, recurses := true, named := ["floodgate/api.ErrBound", "floodgate/api.ErrOld", "floodgate/api.ErrText", "floodgate/api.ErrShape", "floodgate/api.ErrNone", "floodgate/api.ErrOver", "floodgate/api.ErrIdle", "floodgate/api.ErrTurn", "floodgate/api.ErrKind", "errors.errorType"], apart := false, laid := [("errors.errorType", laid_errors_errorType), ("floodgate/api.ErrText", laid_floodgate_api_ErrText), ("floodgate/api.ErrBound", laid_floodgate_api_ErrBound), ("floodgate/api.ErrShape", laid_floodgate_api_ErrShape), ("floodgate/api.ErrNone", laid_floodgate_api_ErrNone), ("floodgate/api.ErrOld", laid_floodgate_api_ErrOld), ("floodgate/api.ErrOver", laid_floodgate_api_ErrOver), ("floodgate/api.ErrIdle", laid_floodgate_api_ErrIdle), ("floodgate/api.ErrTurn", laid_floodgate_api_ErrTurn), ("floodgate/api.ErrKind", laid_floodgate_api_ErrKind)], narrowed := true }
def FifoRunsUptoSaid : Prop := fifoRunsUptoRow.holds Tryd.pinned (OpenSpec.upto fifoRunsSpec)

/-- 'floodgatelaw2.FairRuns', WHERE WHAT IT READS IS OF BULK AT MOST 1048576: true; the input reads as it did. -/
def fairRunsUptoRow : OpenClaim := { program := "ytkkecnofgmpekaadoor", sum := "fab85c9bb979c54addf5971ce33d7d359ce469711bd72f0ef6c47ba47e7fa18a", func := "floodgate/floodgatelaw2.FairRuns", spec := "fairRuns", inPlace := ["internal/reflectlite.ValueOf", "(internal/reflectlite.Value).Type", "(internal/reflectlite.Value).IsNil", "internal/reflectlite.TypeOf", "(internal/reflectlite.Value).Elem", "(internal/reflectlite.Value).Set"], unfollowed := true, recurses := true, named := ["floodgate/api.ErrShape", "floodgate/api.ErrBound", "floodgate/api.ErrOld", "floodgate/api.ErrText", "floodgate/api.ErrNone", "floodgate/api.ErrOver", "floodgate/api.ErrIdle", "floodgate/api.ErrTurn", "floodgate/api.ErrKind", "errors.errorType"], apart := false, laid := [("errors.errorType", laid_errors_errorType), ("floodgate/api.ErrText", laid_floodgate_api_ErrText), ("floodgate/api.ErrBound", laid_floodgate_api_ErrBound), ("floodgate/api.ErrShape", laid_floodgate_api_ErrShape), ("floodgate/api.ErrNone", laid_floodgate_api_ErrNone), ("floodgate/api.ErrOld", laid_floodgate_api_ErrOld), ("floodgate/api.ErrOver", laid_floodgate_api_ErrOver), ("floodgate/api.ErrIdle", laid_floodgate_api_ErrIdle), ("floodgate/api.ErrTurn", laid_floodgate_api_ErrTurn), ("floodgate/api.ErrKind", laid_floodgate_api_ErrKind)], narrowed := true }
def FairRunsUptoSaid : Prop := fairRunsUptoRow.holds Tryd.pinned (OpenSpec.upto fairRunsSpec)

/-- 'floodgatelaw2.FifoTells', WHERE WHAT IT READS IS OF BULK AT MOST 1048576: true; the input reads as it did. -/
def fifoTellsUptoRow : OpenClaim := { program := "ytkkecnofgmpekaadoor", sum := "fab85c9bb979c54addf5971ce33d7d359ce469711bd72f0ef6c47ba47e7fa18a", func := "floodgate/floodgatelaw2.FifoTells", spec := "fifoTells", inPlace := ["internal/reflectlite.ValueOf", "(internal/reflectlite.Value).Type", "(internal/reflectlite.Value).IsNil", "internal/reflectlite.TypeOf", "(internal/reflectlite.Value).Elem", "(internal/reflectlite.Value).Set"], unfollowed := true, recurses := true, named := ["floodgate/api.ErrBound", "floodgate/api.ErrOld", "floodgate/api.ErrNone", "floodgate/api.ErrText", "floodgate/api.ErrShape", "floodgate/api.ErrOver", "floodgate/api.ErrIdle", "floodgate/api.ErrTurn", "floodgate/api.ErrKind", "errors.errorType"], apart := false, laid := [("errors.errorType", laid_errors_errorType), ("floodgate/api.ErrText", laid_floodgate_api_ErrText), ("floodgate/api.ErrBound", laid_floodgate_api_ErrBound), ("floodgate/api.ErrShape", laid_floodgate_api_ErrShape), ("floodgate/api.ErrNone", laid_floodgate_api_ErrNone), ("floodgate/api.ErrOld", laid_floodgate_api_ErrOld), ("floodgate/api.ErrOver", laid_floodgate_api_ErrOver), ("floodgate/api.ErrIdle", laid_floodgate_api_ErrIdle), ("floodgate/api.ErrTurn", laid_floodgate_api_ErrTurn), ("floodgate/api.ErrKind", laid_floodgate_api_ErrKind)], narrowed := true }
def FifoTellsUptoSaid : Prop := fifoTellsUptoRow.holds Tryd.pinned (OpenSpec.upto fifoTellsSpec)

/-- 'floodgatelaw2.RankLate', WHERE WHAT IT READS IS OF BULK AT MOST 1048576: true; the input reads as it did. -/
def rankLateUptoRow : OpenClaim := { program := "ytkkecnofgmpekaadoor", sum := "fab85c9bb979c54addf5971ce33d7d359ce469711bd72f0ef6c47ba47e7fa18a", func := "floodgate/floodgatelaw2.RankLate", spec := "rankLate", inPlace := ["internal/reflectlite.ValueOf", "(internal/reflectlite.Value).Type", "(internal/reflectlite.Value).IsNil", "internal/reflectlite.TypeOf", "(internal/reflectlite.Value).Elem", "(internal/reflectlite.Value).Set"], unfollowed := true, recurses := true, named := ["floodgate/api.ErrBound", "floodgate/api.ErrOld", "floodgate/api.ErrShape", "floodgate/api.ErrNone", "floodgate/api.ErrText", "floodgate/api.ErrOver", "floodgate/api.ErrIdle", "floodgate/api.ErrTurn", "floodgate/api.ErrKind", "errors.errorType"], apart := false, laid := [("errors.errorType", laid_errors_errorType), ("floodgate/api.ErrText", laid_floodgate_api_ErrText), ("floodgate/api.ErrBound", laid_floodgate_api_ErrBound), ("floodgate/api.ErrShape", laid_floodgate_api_ErrShape), ("floodgate/api.ErrNone", laid_floodgate_api_ErrNone), ("floodgate/api.ErrOld", laid_floodgate_api_ErrOld), ("floodgate/api.ErrOver", laid_floodgate_api_ErrOver), ("floodgate/api.ErrIdle", laid_floodgate_api_ErrIdle), ("floodgate/api.ErrTurn", laid_floodgate_api_ErrTurn), ("floodgate/api.ErrKind", laid_floodgate_api_ErrKind)], narrowed := true }
def RankLateUptoSaid : Prop := rankLateUptoRow.holds Tryd.pinned (OpenSpec.upto rankLateSpec)

/-- 'floodgatelaw2.RoundSpread', WHERE WHAT IT READS IS OF BULK AT MOST 1048576: true; the input reads as it did. -/
def roundSpreadUptoRow : OpenClaim := { program := "ytkkecnofgmpekaadoor", sum := "fab85c9bb979c54addf5971ce33d7d359ce469711bd72f0ef6c47ba47e7fa18a", func := "floodgate/floodgatelaw2.RoundSpread", spec := "roundSpread", inPlace := ["internal/reflectlite.ValueOf", "(internal/reflectlite.Value).Type", "(internal/reflectlite.Value).IsNil", "internal/reflectlite.TypeOf", "(internal/reflectlite.Value).Elem", "(internal/reflectlite.Value).Set"], unfollowed := true, recurses := true, named := ["floodgate/api.ErrBound", "floodgate/api.ErrOld", "floodgate/api.ErrShape", "floodgate/api.ErrNone", "floodgate/api.ErrText", "floodgate/api.ErrOver", "floodgate/api.ErrIdle", "floodgate/api.ErrTurn", "floodgate/api.ErrKind", "errors.errorType"], apart := false, laid := [("errors.errorType", laid_errors_errorType), ("floodgate/api.ErrText", laid_floodgate_api_ErrText), ("floodgate/api.ErrBound", laid_floodgate_api_ErrBound), ("floodgate/api.ErrShape", laid_floodgate_api_ErrShape), ("floodgate/api.ErrNone", laid_floodgate_api_ErrNone), ("floodgate/api.ErrOld", laid_floodgate_api_ErrOld), ("floodgate/api.ErrOver", laid_floodgate_api_ErrOver), ("floodgate/api.ErrIdle", laid_floodgate_api_ErrIdle), ("floodgate/api.ErrTurn", laid_floodgate_api_ErrTurn), ("floodgate/api.ErrKind", laid_floodgate_api_ErrKind)], narrowed := true }
def RoundSpreadUptoSaid : Prop := roundSpreadUptoRow.holds Tryd.pinned (OpenSpec.upto roundSpreadSpec)

/-- 'floodgatelaw2.RoundRuns', WHERE WHAT IT READS IS OF BULK AT MOST 1048576: true; the input reads as it did. -/
def roundRunsUptoRow : OpenClaim := { program := "ytkkecnofgmpekaadoor", sum := "fab85c9bb979c54addf5971ce33d7d359ce469711bd72f0ef6c47ba47e7fa18a", func := "floodgate/floodgatelaw2.RoundRuns", spec := "roundRuns", inPlace := ["internal/reflectlite.ValueOf", "(internal/reflectlite.Value).Type", "(internal/reflectlite.Value).IsNil", "internal/reflectlite.TypeOf", "(internal/reflectlite.Value).Elem", "(internal/reflectlite.Value).Set"], unfollowed := true, recurses := true, named := ["floodgate/api.ErrBound", "floodgate/api.ErrOld", "floodgate/api.ErrShape", "floodgate/api.ErrText", "floodgate/api.ErrNone", "floodgate/api.ErrOver", "floodgate/api.ErrIdle", "floodgate/api.ErrTurn", "floodgate/api.ErrKind", "errors.errorType"], apart := false, laid := [("errors.errorType", laid_errors_errorType), ("floodgate/api.ErrText", laid_floodgate_api_ErrText), ("floodgate/api.ErrBound", laid_floodgate_api_ErrBound), ("floodgate/api.ErrShape", laid_floodgate_api_ErrShape), ("floodgate/api.ErrNone", laid_floodgate_api_ErrNone), ("floodgate/api.ErrOld", laid_floodgate_api_ErrOld), ("floodgate/api.ErrOver", laid_floodgate_api_ErrOver), ("floodgate/api.ErrIdle", laid_floodgate_api_ErrIdle), ("floodgate/api.ErrTurn", laid_floodgate_api_ErrTurn), ("floodgate/api.ErrKind", laid_floodgate_api_ErrKind)], narrowed := true }
def RoundRunsUptoSaid : Prop := roundRunsUptoRow.holds Tryd.pinned (OpenSpec.upto roundRunsSpec)

/-- 'floodgatelaw2.RankRuns', WHERE WHAT IT READS IS OF BULK AT MOST 1048576: true; the input reads as it did. -/
def rankRunsUptoRow : OpenClaim := { program := "ytkkecnofgmpekaadoor", sum := "fab85c9bb979c54addf5971ce33d7d359ce469711bd72f0ef6c47ba47e7fa18a", func := "floodgate/floodgatelaw2.RankRuns", spec := "rankRuns", inPlace := ["internal/reflectlite.ValueOf", "(internal/reflectlite.Value).Type", "(internal/reflectlite.Value).IsNil", "internal/reflectlite.TypeOf", "(internal/reflectlite.Value).Elem", "(internal/reflectlite.Value).Set"], unfollowed := true, recurses := true, named := ["floodgate/api.ErrBound", "floodgate/api.ErrOld", "floodgate/api.ErrShape", "floodgate/api.ErrText", "floodgate/api.ErrNone", "floodgate/api.ErrOver", "floodgate/api.ErrIdle", "floodgate/api.ErrTurn", "floodgate/api.ErrKind", "errors.errorType"], apart := false, laid := [("errors.errorType", laid_errors_errorType), ("floodgate/api.ErrText", laid_floodgate_api_ErrText), ("floodgate/api.ErrBound", laid_floodgate_api_ErrBound), ("floodgate/api.ErrShape", laid_floodgate_api_ErrShape), ("floodgate/api.ErrNone", laid_floodgate_api_ErrNone), ("floodgate/api.ErrOld", laid_floodgate_api_ErrOld), ("floodgate/api.ErrOver", laid_floodgate_api_ErrOver), ("floodgate/api.ErrIdle", laid_floodgate_api_ErrIdle), ("floodgate/api.ErrTurn", laid_floodgate_api_ErrTurn), ("floodgate/api.ErrKind", laid_floodgate_api_ErrKind)], narrowed := true }
def RankRunsUptoSaid : Prop := rankRunsUptoRow.holds Tryd.pinned (OpenSpec.upto rankRunsSpec)

end Rows
end Go.Proofs.YtkkecnofgmpekaaDoor
