/-
  NARROWER THAN 'FOR EVERY INPUT', by the rows' own cells (each row's printed sentence says how): CurveRises: laid · Names: laid · CurveAt: laid · BucketWhen: laid · BucketPasses: laid · BucketActs: laid · BucketFits: laid · CurveMeets: laid · CurveBounds: laid · BucketShape: laid · CurveSame: laid · CurveTidy: laid.
  DERIVED. THE GIVEN ROWS OF THIS SEAT. 12 by the template 'for every input the law returns true; each argument reads behind the call as it read before'; 0 by the template 'total and deterministic' (their statements: YteeaipehkhldhaaDoorTotals.lean).
  GIVEN WITH THE SEED: the statements are not yours to turn. If you find one false, say at which input.
  Laid BY PROGRAM, IN A SANDBOX (cutbox-rows.mjs): the forced cells as the released guide's own fill.sh prints them over the translation 23265b4e09da998c… (all of the seat's roots in one cut). By AI agents, Wed Nov 11 2026. No macro, syntax, notation, axiom, sorry.
-/
import Derived.Test.YteeaipehkhldhaaDoorChecked
import GoSem.Claim
import GoSem.ClaimJoined
import GoSem.ClaimMapViews
import Derived.JoinedTies
import Derived.KernelRfl
namespace Go.Proofs.YteeaipehkhldhaaDoor
/- THE CELL 'sum', in the pinned program and in every row, IS THE sha256 OF THE DUMP (.gsa) THAT YteeaipehkhldhaaDoorProg.lean LOADS. Nothing in Lean hashes anything: it is a label: what it is worth is what the hold of that sum in a sandbox is worth. -/
noncomputable def Tryd.pinned : Pinned := { name := "yteeaipehkhldhaadoor", sum := "23265b4e09da998cf35cec5aa6e16871c8439e68e127fc2e3c7b20887571a69e", checked := Tryd.checked }
namespace Rows
def none {H : Type} : Left H := { results := [], args := [] }

/- WHAT THE LISTED PACKAGE-LEVEL VARIABLES READ AS WHEN THE CALL BEGINS. Each datum BY PROGRAM (the guide's laid-datum.mjs) off the statement by which the dump's own 'gosem.cut.vars' lays the variable. In a bare row this is a premise. The card (YteeaipehkhldhaaDoorCards.lean) ties it to the program's text. -/
def laid_floodgate_api_ErrBound {H : Type} : DataW H := .iface "*errors.errorString" (.ptr (.agg [.lit (.string [102, 108, 111, 111, 100, 103, 97, 116, 101, 58, 32, 98, 111, 117, 110, 100])]))
def laid_floodgate_api_ErrShape {H : Type} : DataW H := .iface "*errors.errorString" (.ptr (.agg [.lit (.string [102, 108, 111, 111, 100, 103, 97, 116, 101, 58, 32, 115, 104, 97, 112, 101])]))
def laid_errors_errorType {H : Type} : DataW H := .iface "internal/reflectlite.rtype" (.agg [.ptr (.lit (.string [101, 114, 114, 111, 114]))])
def laid_floodgate_api_ErrText {H : Type} : DataW H := .iface "*errors.errorString" (.ptr (.agg [.lit (.string [102, 108, 111, 111, 100, 103, 97, 116, 101, 58, 32, 116, 101, 120, 116])]))
def laid_floodgate_api_ErrNone {H : Type} : DataW H := .iface "*errors.errorString" (.ptr (.agg [.lit (.string [102, 108, 111, 111, 100, 103, 97, 116, 101, 58, 32, 110, 111, 110, 101])]))
def laid_floodgate_api_ErrOld {H : Type} : DataW H := .iface "*errors.errorString" (.ptr (.agg [.lit (.string [102, 108, 111, 111, 100, 103, 97, 116, 101, 58, 32, 111, 108, 100])]))
def laid_floodgate_api_ErrOver {H : Type} : DataW H := .iface "*errors.errorString" (.ptr (.agg [.lit (.string [102, 108, 111, 111, 100, 103, 97, 116, 101, 58, 32, 111, 118, 101, 114])]))
def laid_floodgate_api_ErrIdle {H : Type} : DataW H := .iface "*errors.errorString" (.ptr (.agg [.lit (.string [102, 108, 111, 111, 100, 103, 97, 116, 101, 58, 32, 105, 100, 108, 101])]))
def laid_floodgate_api_ErrTurn {H : Type} : DataW H := .iface "*errors.errorString" (.ptr (.agg [.lit (.string [102, 108, 111, 111, 100, 103, 97, 116, 101, 58, 32, 116, 117, 114, 110])]))
def laid_floodgate_api_ErrKind {H : Type} : DataW H := .iface "*errors.errorString" (.ptr (.agg [.lit (.string [102, 108, 111, 111, 100, 103, 97, 116, 101, 58, 32, 107, 105, 110, 100])]))

/-- 'floodgatelaw1.CurveRises': WHATEVER THE INPUT: true; the input reads as it did. -/
def curveRisesSpec : ChangeSpec := { name := "curveRises", fn := fun _ => fun
  | [d1, d2, d3] => { results := [.lit (.bool true)], args := [d1, d2, d3] }
  | _ => none }
def curveRisesRow : OpenClaim := { program := "yteeaipehkhldhaadoor", sum := "23265b4e09da998cf35cec5aa6e16871c8439e68e127fc2e3c7b20887571a69e", func := "floodgate/floodgatelaw1.CurveRises", spec := "curveRises", unfollowed := true, recurses := true, named := ["floodgate/api.ErrBound", "floodgate/api.ErrShape"], apart := false, laid := [("floodgate/api.ErrBound", laid_floodgate_api_ErrBound), ("floodgate/api.ErrShape", laid_floodgate_api_ErrShape)] }
def CurveRisesSaid : Prop := curveRisesRow.holds Tryd.pinned (OpenSpec.ofChange curveRisesSpec)

/-- ITS FALSE NEIGHBOUR: 'it returns false'. Refute it at one input. -/
def curveRisesWrong : ChangeSpec := { name := "curveRises", fn := fun _ => fun
  | [d1, d2, d3] => { results := [.lit (.bool false)], args := [d1, d2, d3] }
  | _ => none }
def CurveRisesWrongFalsely : Prop := curveRisesRow.holds Tryd.pinned (OpenSpec.ofChange curveRisesWrong)

/-- 'floodgatelaw1.Names': WHATEVER THE INPUT: true; the input reads as it did. -/
def namesSpec : ChangeSpec := { name := "names", fn := fun _ => fun
  | [] => { results := [.lit (.bool true)], args := [] }
  | _ => none }
def namesRow : OpenClaim := { program := "yteeaipehkhldhaadoor", sum := "23265b4e09da998cf35cec5aa6e16871c8439e68e127fc2e3c7b20887571a69e", func := "floodgate/floodgatelaw1.Names", spec := "names", inPlace := ["internal/reflectlite.ValueOf", "(internal/reflectlite.Value).Type", "(internal/reflectlite.Value).IsNil", "internal/reflectlite.TypeOf", "(internal/reflectlite.Value).Elem", "(internal/reflectlite.Value).Set"], unfollowed := true, recurses := true, named := ["floodgate/api.ErrText", "floodgate/api.ErrBound", "floodgate/api.ErrShape", "floodgate/api.ErrNone", "floodgate/api.ErrOld", "floodgate/api.ErrOver", "floodgate/api.ErrIdle", "floodgate/api.ErrTurn", "floodgate/api.ErrKind", "errors.errorType"], apart := false, laid := [("errors.errorType", laid_errors_errorType), ("floodgate/api.ErrText", laid_floodgate_api_ErrText), ("floodgate/api.ErrBound", laid_floodgate_api_ErrBound), ("floodgate/api.ErrShape", laid_floodgate_api_ErrShape), ("floodgate/api.ErrNone", laid_floodgate_api_ErrNone), ("floodgate/api.ErrOld", laid_floodgate_api_ErrOld), ("floodgate/api.ErrOver", laid_floodgate_api_ErrOver), ("floodgate/api.ErrIdle", laid_floodgate_api_ErrIdle), ("floodgate/api.ErrTurn", laid_floodgate_api_ErrTurn), ("floodgate/api.ErrKind", laid_floodgate_api_ErrKind)] }
def NamesSaid : Prop := namesRow.holds Tryd.pinned (OpenSpec.ofChange namesSpec)

/-- ITS FALSE NEIGHBOUR: 'it returns false'. Refute it at one input. -/
def namesWrong : ChangeSpec := { name := "names", fn := fun _ => fun
  | [] => { results := [.lit (.bool false)], args := [] }
  | _ => none }
def NamesWrongFalsely : Prop := namesRow.holds Tryd.pinned (OpenSpec.ofChange namesWrong)

/-- 'floodgatelaw1.CurveAt': WHATEVER THE INPUT: true; the input reads as it did. -/
def curveAtSpec : ChangeSpec := { name := "curveAt", fn := fun _ => fun
  | [d1, d2] => { results := [.lit (.bool true)], args := [d1, d2] }
  | _ => none }
def curveAtRow : OpenClaim := { program := "yteeaipehkhldhaadoor", sum := "23265b4e09da998cf35cec5aa6e16871c8439e68e127fc2e3c7b20887571a69e", func := "floodgate/floodgatelaw1.CurveAt", spec := "curveAt", inPlace := ["internal/reflectlite.ValueOf", "(internal/reflectlite.Value).Type", "(internal/reflectlite.Value).IsNil", "internal/reflectlite.TypeOf", "(internal/reflectlite.Value).Elem", "(internal/reflectlite.Value).Set"], unfollowed := true, recurses := true, named := ["floodgate/api.ErrBound", "floodgate/api.ErrShape", "floodgate/api.ErrText", "floodgate/api.ErrNone", "floodgate/api.ErrOld", "floodgate/api.ErrOver", "floodgate/api.ErrIdle", "floodgate/api.ErrTurn", "floodgate/api.ErrKind", "errors.errorType"], apart := false, laid := [("errors.errorType", laid_errors_errorType), ("floodgate/api.ErrText", laid_floodgate_api_ErrText), ("floodgate/api.ErrBound", laid_floodgate_api_ErrBound), ("floodgate/api.ErrShape", laid_floodgate_api_ErrShape), ("floodgate/api.ErrNone", laid_floodgate_api_ErrNone), ("floodgate/api.ErrOld", laid_floodgate_api_ErrOld), ("floodgate/api.ErrOver", laid_floodgate_api_ErrOver), ("floodgate/api.ErrIdle", laid_floodgate_api_ErrIdle), ("floodgate/api.ErrTurn", laid_floodgate_api_ErrTurn), ("floodgate/api.ErrKind", laid_floodgate_api_ErrKind)] }
def CurveAtSaid : Prop := curveAtRow.holds Tryd.pinned (OpenSpec.ofChange curveAtSpec)

/-- ITS FALSE NEIGHBOUR: 'it returns false'. Refute it at one input. -/
def curveAtWrong : ChangeSpec := { name := "curveAt", fn := fun _ => fun
  | [d1, d2] => { results := [.lit (.bool false)], args := [d1, d2] }
  | _ => none }
def CurveAtWrongFalsely : Prop := curveAtRow.holds Tryd.pinned (OpenSpec.ofChange curveAtWrong)

/-- 'floodgatelaw1.BucketWhen': WHATEVER THE INPUT: true; the input reads as it did. -/
def bucketWhenSpec : ChangeSpec := { name := "bucketWhen", fn := fun _ => fun
  | [d1, d2, d3, d4] => { results := [.lit (.bool true)], args := [d1, d2, d3, d4] }
  | _ => none }
def bucketWhenRow : OpenClaim := { program := "yteeaipehkhldhaadoor", sum := "23265b4e09da998cf35cec5aa6e16871c8439e68e127fc2e3c7b20887571a69e", func := "floodgate/floodgatelaw1.BucketWhen", spec := "bucketWhen", inPlace := ["internal/reflectlite.ValueOf", "(internal/reflectlite.Value).Type", "(internal/reflectlite.Value).IsNil", "internal/reflectlite.TypeOf", "(internal/reflectlite.Value).Elem", "(internal/reflectlite.Value).Set"], unfollowed := true, recurses := true, named := ["floodgate/api.ErrShape", "floodgate/api.ErrBound", "errors.errorType", "floodgate/api.ErrOld", "floodgate/api.ErrNone"], apart := false, laid := [("errors.errorType", laid_errors_errorType), ("floodgate/api.ErrBound", laid_floodgate_api_ErrBound), ("floodgate/api.ErrShape", laid_floodgate_api_ErrShape), ("floodgate/api.ErrNone", laid_floodgate_api_ErrNone), ("floodgate/api.ErrOld", laid_floodgate_api_ErrOld)] }
def BucketWhenSaid : Prop := bucketWhenRow.holds Tryd.pinned (OpenSpec.ofChange bucketWhenSpec)

/-- ITS FALSE NEIGHBOUR: 'it returns false'. Refute it at one input. -/
def bucketWhenWrong : ChangeSpec := { name := "bucketWhen", fn := fun _ => fun
  | [d1, d2, d3, d4] => { results := [.lit (.bool false)], args := [d1, d2, d3, d4] }
  | _ => none }
def BucketWhenWrongFalsely : Prop := bucketWhenRow.holds Tryd.pinned (OpenSpec.ofChange bucketWhenWrong)

/-- 'floodgatelaw1.BucketPasses': WHATEVER THE INPUT: true; the input reads as it did. -/
def bucketPassesSpec : ChangeSpec := { name := "bucketPasses", fn := fun _ => fun
  | [d1, d2] => { results := [.lit (.bool true)], args := [d1, d2] }
  | _ => none }
def bucketPassesRow : OpenClaim := { program := "yteeaipehkhldhaadoor", sum := "23265b4e09da998cf35cec5aa6e16871c8439e68e127fc2e3c7b20887571a69e", func := "floodgate/floodgatelaw1.BucketPasses", spec := "bucketPasses", inPlace := ["internal/reflectlite.ValueOf", "(internal/reflectlite.Value).Type", "(internal/reflectlite.Value).IsNil", "internal/reflectlite.TypeOf", "(internal/reflectlite.Value).Elem", "(internal/reflectlite.Value).Set"], unfollowed := true, recurses := true, named := ["floodgate/api.ErrShape", "floodgate/api.ErrBound", "errors.errorType", "floodgate/api.ErrOld", "floodgate/api.ErrNone"], apart := false, laid := [("errors.errorType", laid_errors_errorType), ("floodgate/api.ErrBound", laid_floodgate_api_ErrBound), ("floodgate/api.ErrShape", laid_floodgate_api_ErrShape), ("floodgate/api.ErrNone", laid_floodgate_api_ErrNone), ("floodgate/api.ErrOld", laid_floodgate_api_ErrOld)] }
def BucketPassesSaid : Prop := bucketPassesRow.holds Tryd.pinned (OpenSpec.ofChange bucketPassesSpec)

/-- ITS FALSE NEIGHBOUR: 'it returns false'. Refute it at one input. -/
def bucketPassesWrong : ChangeSpec := { name := "bucketPasses", fn := fun _ => fun
  | [d1, d2] => { results := [.lit (.bool false)], args := [d1, d2] }
  | _ => none }
def BucketPassesWrongFalsely : Prop := bucketPassesRow.holds Tryd.pinned (OpenSpec.ofChange bucketPassesWrong)

/-- 'floodgatelaw1.BucketActs': WHATEVER THE INPUT: true; the input reads as it did. -/
def bucketActsSpec : ChangeSpec := { name := "bucketActs", fn := fun _ => fun
  | [d1, d2] => { results := [.lit (.bool true)], args := [d1, d2] }
  | _ => none }
def bucketActsRow : OpenClaim := { program := "yteeaipehkhldhaadoor", sum := "23265b4e09da998cf35cec5aa6e16871c8439e68e127fc2e3c7b20887571a69e", func := "floodgate/floodgatelaw1.BucketActs", spec := "bucketActs", inPlace := ["internal/reflectlite.ValueOf", "(internal/reflectlite.Value).Type", "(internal/reflectlite.Value).IsNil", "internal/reflectlite.TypeOf", "(internal/reflectlite.Value).Elem", "(internal/reflectlite.Value).Set"], unfollowed := true, recurses := true, named := ["floodgate/api.ErrShape", "floodgate/api.ErrBound", "errors.errorType", "floodgate/api.ErrOld", "floodgate/api.ErrNone", "floodgate/api.ErrText", "floodgate/api.ErrOver", "floodgate/api.ErrIdle", "floodgate/api.ErrTurn", "floodgate/api.ErrKind"], apart := false, laid := [("errors.errorType", laid_errors_errorType), ("floodgate/api.ErrText", laid_floodgate_api_ErrText), ("floodgate/api.ErrBound", laid_floodgate_api_ErrBound), ("floodgate/api.ErrShape", laid_floodgate_api_ErrShape), ("floodgate/api.ErrNone", laid_floodgate_api_ErrNone), ("floodgate/api.ErrOld", laid_floodgate_api_ErrOld), ("floodgate/api.ErrOver", laid_floodgate_api_ErrOver), ("floodgate/api.ErrIdle", laid_floodgate_api_ErrIdle), ("floodgate/api.ErrTurn", laid_floodgate_api_ErrTurn), ("floodgate/api.ErrKind", laid_floodgate_api_ErrKind)] }
def BucketActsSaid : Prop := bucketActsRow.holds Tryd.pinned (OpenSpec.ofChange bucketActsSpec)

/-- ITS FALSE NEIGHBOUR: 'it returns false'. Refute it at one input. -/
def bucketActsWrong : ChangeSpec := { name := "bucketActs", fn := fun _ => fun
  | [d1, d2] => { results := [.lit (.bool false)], args := [d1, d2] }
  | _ => none }
def BucketActsWrongFalsely : Prop := bucketActsRow.holds Tryd.pinned (OpenSpec.ofChange bucketActsWrong)

/-- 'floodgatelaw1.BucketFits': WHATEVER THE INPUT: true; the input reads as it did. -/
def bucketFitsSpec : ChangeSpec := { name := "bucketFits", fn := fun _ => fun
  | [d1, d2] => { results := [.lit (.bool true)], args := [d1, d2] }
  | _ => none }
def bucketFitsRow : OpenClaim := { program := "yteeaipehkhldhaadoor", sum := "23265b4e09da998cf35cec5aa6e16871c8439e68e127fc2e3c7b20887571a69e", func := "floodgate/floodgatelaw1.BucketFits", spec := "bucketFits", inPlace := ["internal/reflectlite.ValueOf", "(internal/reflectlite.Value).Type", "(internal/reflectlite.Value).IsNil", "internal/reflectlite.TypeOf", "(internal/reflectlite.Value).Elem", "(internal/reflectlite.Value).Set"], unfollowed := true, recurses := true, named := ["floodgate/api.ErrShape", "floodgate/api.ErrBound", "errors.errorType", "floodgate/api.ErrOld", "floodgate/api.ErrNone"], apart := false, laid := [("errors.errorType", laid_errors_errorType), ("floodgate/api.ErrBound", laid_floodgate_api_ErrBound), ("floodgate/api.ErrShape", laid_floodgate_api_ErrShape), ("floodgate/api.ErrNone", laid_floodgate_api_ErrNone), ("floodgate/api.ErrOld", laid_floodgate_api_ErrOld)] }
def BucketFitsSaid : Prop := bucketFitsRow.holds Tryd.pinned (OpenSpec.ofChange bucketFitsSpec)

/-- ITS FALSE NEIGHBOUR: 'it returns false'. Refute it at one input. -/
def bucketFitsWrong : ChangeSpec := { name := "bucketFits", fn := fun _ => fun
  | [d1, d2] => { results := [.lit (.bool false)], args := [d1, d2] }
  | _ => none }
def BucketFitsWrongFalsely : Prop := bucketFitsRow.holds Tryd.pinned (OpenSpec.ofChange bucketFitsWrong)

/-- 'floodgatelaw1.CurveMeets': WHATEVER THE INPUT: true; the input reads as it did. -/
def curveMeetsSpec : ChangeSpec := { name := "curveMeets", fn := fun _ => fun
  | [d1, d2, d3] => { results := [.lit (.bool true)], args := [d1, d2, d3] }
  | _ => none }
def curveMeetsRow : OpenClaim := { program := "yteeaipehkhldhaadoor", sum := "23265b4e09da998cf35cec5aa6e16871c8439e68e127fc2e3c7b20887571a69e", func := "floodgate/floodgatelaw1.CurveMeets", spec := "curveMeets", inPlace := ["internal/reflectlite.ValueOf", "(internal/reflectlite.Value).Type", "(internal/reflectlite.Value).IsNil", "internal/reflectlite.TypeOf", "(internal/reflectlite.Value).Elem", "(internal/reflectlite.Value).Set"], unfollowed := true, recurses := true, named := ["floodgate/api.ErrBound", "floodgate/api.ErrShape", "floodgate/api.ErrNone", "floodgate/api.ErrText", "floodgate/api.ErrOld", "floodgate/api.ErrOver", "floodgate/api.ErrIdle", "floodgate/api.ErrTurn", "floodgate/api.ErrKind", "errors.errorType"], apart := false, laid := [("errors.errorType", laid_errors_errorType), ("floodgate/api.ErrText", laid_floodgate_api_ErrText), ("floodgate/api.ErrBound", laid_floodgate_api_ErrBound), ("floodgate/api.ErrShape", laid_floodgate_api_ErrShape), ("floodgate/api.ErrNone", laid_floodgate_api_ErrNone), ("floodgate/api.ErrOld", laid_floodgate_api_ErrOld), ("floodgate/api.ErrOver", laid_floodgate_api_ErrOver), ("floodgate/api.ErrIdle", laid_floodgate_api_ErrIdle), ("floodgate/api.ErrTurn", laid_floodgate_api_ErrTurn), ("floodgate/api.ErrKind", laid_floodgate_api_ErrKind)] }
def CurveMeetsSaid : Prop := curveMeetsRow.holds Tryd.pinned (OpenSpec.ofChange curveMeetsSpec)

/-- ITS FALSE NEIGHBOUR: 'it returns false'. Refute it at one input. -/
def curveMeetsWrong : ChangeSpec := { name := "curveMeets", fn := fun _ => fun
  | [d1, d2, d3] => { results := [.lit (.bool false)], args := [d1, d2, d3] }
  | _ => none }
def CurveMeetsWrongFalsely : Prop := curveMeetsRow.holds Tryd.pinned (OpenSpec.ofChange curveMeetsWrong)

/-- 'floodgatelaw1.CurveBounds': WHATEVER THE INPUT: true; the input reads as it did. -/
def curveBoundsSpec : ChangeSpec := { name := "curveBounds", fn := fun _ => fun
  | [d1, d2] => { results := [.lit (.bool true)], args := [d1, d2] }
  | _ => none }
def curveBoundsRow : OpenClaim := { program := "yteeaipehkhldhaadoor", sum := "23265b4e09da998cf35cec5aa6e16871c8439e68e127fc2e3c7b20887571a69e", func := "floodgate/floodgatelaw1.CurveBounds", spec := "curveBounds", inPlace := ["internal/reflectlite.ValueOf", "(internal/reflectlite.Value).Type", "(internal/reflectlite.Value).IsNil", "internal/reflectlite.TypeOf", "(internal/reflectlite.Value).Elem", "(internal/reflectlite.Value).Set"], unfollowed := true, recurses := true, named := ["floodgate/api.ErrBound", "floodgate/api.ErrShape", "floodgate/api.ErrNone", "floodgate/api.ErrText", "floodgate/api.ErrOld", "floodgate/api.ErrOver", "floodgate/api.ErrIdle", "floodgate/api.ErrTurn", "floodgate/api.ErrKind", "errors.errorType"], apart := false, laid := [("errors.errorType", laid_errors_errorType), ("floodgate/api.ErrText", laid_floodgate_api_ErrText), ("floodgate/api.ErrBound", laid_floodgate_api_ErrBound), ("floodgate/api.ErrShape", laid_floodgate_api_ErrShape), ("floodgate/api.ErrNone", laid_floodgate_api_ErrNone), ("floodgate/api.ErrOld", laid_floodgate_api_ErrOld), ("floodgate/api.ErrOver", laid_floodgate_api_ErrOver), ("floodgate/api.ErrIdle", laid_floodgate_api_ErrIdle), ("floodgate/api.ErrTurn", laid_floodgate_api_ErrTurn), ("floodgate/api.ErrKind", laid_floodgate_api_ErrKind)] }
def CurveBoundsSaid : Prop := curveBoundsRow.holds Tryd.pinned (OpenSpec.ofChange curveBoundsSpec)

/-- ITS FALSE NEIGHBOUR: 'it returns false'. Refute it at one input. -/
def curveBoundsWrong : ChangeSpec := { name := "curveBounds", fn := fun _ => fun
  | [d1, d2] => { results := [.lit (.bool false)], args := [d1, d2] }
  | _ => none }
def CurveBoundsWrongFalsely : Prop := curveBoundsRow.holds Tryd.pinned (OpenSpec.ofChange curveBoundsWrong)

/-- 'floodgatelaw1.BucketShape': WHATEVER THE INPUT: true; the input reads as it did. -/
def bucketShapeSpec : ChangeSpec := { name := "bucketShape", fn := fun _ => fun
  | [d1, d2] => { results := [.lit (.bool true)], args := [d1, d2] }
  | _ => none }
def bucketShapeRow : OpenClaim := { program := "yteeaipehkhldhaadoor", sum := "23265b4e09da998cf35cec5aa6e16871c8439e68e127fc2e3c7b20887571a69e", func := "floodgate/floodgatelaw1.BucketShape", spec := "bucketShape", inPlace := ["internal/reflectlite.ValueOf", "(internal/reflectlite.Value).Type", "(internal/reflectlite.Value).IsNil", "internal/reflectlite.TypeOf", "(internal/reflectlite.Value).Elem", "(internal/reflectlite.Value).Set"], unfollowed := true, recurses := true, named := ["floodgate/api.ErrShape", "floodgate/api.ErrBound", "errors.errorType", "floodgate/api.ErrOld", "floodgate/api.ErrNone", "floodgate/api.ErrText", "floodgate/api.ErrOver", "floodgate/api.ErrIdle", "floodgate/api.ErrTurn", "floodgate/api.ErrKind"], apart := false, laid := [("errors.errorType", laid_errors_errorType), ("floodgate/api.ErrText", laid_floodgate_api_ErrText), ("floodgate/api.ErrBound", laid_floodgate_api_ErrBound), ("floodgate/api.ErrShape", laid_floodgate_api_ErrShape), ("floodgate/api.ErrNone", laid_floodgate_api_ErrNone), ("floodgate/api.ErrOld", laid_floodgate_api_ErrOld), ("floodgate/api.ErrOver", laid_floodgate_api_ErrOver), ("floodgate/api.ErrIdle", laid_floodgate_api_ErrIdle), ("floodgate/api.ErrTurn", laid_floodgate_api_ErrTurn), ("floodgate/api.ErrKind", laid_floodgate_api_ErrKind)] }
def BucketShapeSaid : Prop := bucketShapeRow.holds Tryd.pinned (OpenSpec.ofChange bucketShapeSpec)

/-- ITS FALSE NEIGHBOUR: 'it returns false'. Refute it at one input. -/
def bucketShapeWrong : ChangeSpec := { name := "bucketShape", fn := fun _ => fun
  | [d1, d2] => { results := [.lit (.bool false)], args := [d1, d2] }
  | _ => none }
def BucketShapeWrongFalsely : Prop := bucketShapeRow.holds Tryd.pinned (OpenSpec.ofChange bucketShapeWrong)

/-- 'floodgatelaw1.CurveSame': WHATEVER THE INPUT: true; the input reads as it did. -/
def curveSameSpec : ChangeSpec := { name := "curveSame", fn := fun _ => fun
  | [d1, d2, d3] => { results := [.lit (.bool true)], args := [d1, d2, d3] }
  | _ => none }
def curveSameRow : OpenClaim := { program := "yteeaipehkhldhaadoor", sum := "23265b4e09da998cf35cec5aa6e16871c8439e68e127fc2e3c7b20887571a69e", func := "floodgate/floodgatelaw1.CurveSame", spec := "curveSame", unfollowed := true, recurses := true, named := ["floodgate/api.ErrBound", "floodgate/api.ErrShape"], apart := false, laid := [("floodgate/api.ErrBound", laid_floodgate_api_ErrBound), ("floodgate/api.ErrShape", laid_floodgate_api_ErrShape)] }
def CurveSameSaid : Prop := curveSameRow.holds Tryd.pinned (OpenSpec.ofChange curveSameSpec)

/-- ITS FALSE NEIGHBOUR: 'it returns false'. Refute it at one input. -/
def curveSameWrong : ChangeSpec := { name := "curveSame", fn := fun _ => fun
  | [d1, d2, d3] => { results := [.lit (.bool false)], args := [d1, d2, d3] }
  | _ => none }
def CurveSameWrongFalsely : Prop := curveSameRow.holds Tryd.pinned (OpenSpec.ofChange curveSameWrong)

/-- 'floodgatelaw1.CurveTidy': WHATEVER THE INPUT: true; the input reads as it did. -/
def curveTidySpec : ChangeSpec := { name := "curveTidy", fn := fun _ => fun
  | [d1, d2] => { results := [.lit (.bool true)], args := [d1, d2] }
  | _ => none }
def curveTidyRow : OpenClaim := { program := "yteeaipehkhldhaadoor", sum := "23265b4e09da998cf35cec5aa6e16871c8439e68e127fc2e3c7b20887571a69e", func := "floodgate/floodgatelaw1.CurveTidy", spec := "curveTidy", inPlace := ["internal/reflectlite.ValueOf", "(internal/reflectlite.Value).Type", "(internal/reflectlite.Value).IsNil", "internal/reflectlite.TypeOf", "(internal/reflectlite.Value).Elem", "(internal/reflectlite.Value).Set"], unfollowed := true, recurses := true, named := ["floodgate/api.ErrBound", "floodgate/api.ErrShape", "floodgate/api.ErrText", "floodgate/api.ErrNone", "floodgate/api.ErrOld", "floodgate/api.ErrOver", "floodgate/api.ErrIdle", "floodgate/api.ErrTurn", "floodgate/api.ErrKind", "errors.errorType"], apart := false, laid := [("errors.errorType", laid_errors_errorType), ("floodgate/api.ErrText", laid_floodgate_api_ErrText), ("floodgate/api.ErrBound", laid_floodgate_api_ErrBound), ("floodgate/api.ErrShape", laid_floodgate_api_ErrShape), ("floodgate/api.ErrNone", laid_floodgate_api_ErrNone), ("floodgate/api.ErrOld", laid_floodgate_api_ErrOld), ("floodgate/api.ErrOver", laid_floodgate_api_ErrOver), ("floodgate/api.ErrIdle", laid_floodgate_api_ErrIdle), ("floodgate/api.ErrTurn", laid_floodgate_api_ErrTurn), ("floodgate/api.ErrKind", laid_floodgate_api_ErrKind)] }
def CurveTidySaid : Prop := curveTidyRow.holds Tryd.pinned (OpenSpec.ofChange curveTidySpec)

/-- ITS FALSE NEIGHBOUR: 'it returns false'. Refute it at one input. -/
def curveTidyWrong : ChangeSpec := { name := "curveTidy", fn := fun _ => fun
  | [d1, d2] => { results := [.lit (.bool false)], args := [d1, d2] }
  | _ => none }
def CurveTidyWrongFalsely : Prop := curveTidyRow.holds Tryd.pinned (OpenSpec.ofChange curveTidyWrong)

/- THE SECOND FORM. 'bulk': how many values and letters a reading holds, each counted each time it is reached (what is shared counts as often as it is met; a slice's spare places count too). A statement '..UptoSaid' is the law's where the arguments, and the package variables that the reading takes, are together of bulk at most 1048576: NARROWER than '..Said'. Prove '..Said' where nothing that the law and all that it calls make is longer than what came in: it says more and counts as full. Else prove '..UptoSaid'. A law counts once. -/
mutual
def uptoBulk {H : Type} : DataW H → Nat
  | .lit (.string bytes) => bytes.length + 1
  | .lit _ => 1
  | .nil => 1
  | .ptr d => uptoBulk d + 1
  | .slice elems spare => uptoBulkAll elems + uptoBulkAll spare + 1
  | .agg parts => uptoBulkAll parts + 1
  | .iface _ d => uptoBulk d + 1
  | .map entries => uptoBulkEntries entries + 1
  | .held _ => 1
def uptoBulkAll {H : Type} : List (DataW H) → Nat
  | [] => 0
  | d :: r => uptoBulk d + uptoBulkAll r
def uptoBulkEntries {H : Type} : List (Lit × DataW H) → Nat
  | [] => 0
  | x :: r => uptoBulkEntry x + uptoBulkEntries r
def uptoBulkEntry {H : Type} : Lit × DataW H → Nat
  | (.string bytes, d) => bytes.length + uptoBulk d + 1
  | (_, d) => uptoBulk d + 1
 end
def uptoSmall : (H : Type) → List (DataW H) → Bool := fun _ ds => decide (uptoBulkAll ds ≤ 1048576)
def OpenSpec.upto (s : _root_.Go.ChangeSpec) : _root_.Go.OpenSpec := { _root_.Go.OpenSpec.ofChange s with cond := some uptoSmall }

/-- 'floodgatelaw1.CurveRises', WHERE WHAT IT READS IS OF BULK AT MOST 1048576: true; the input reads as it did. -/
def curveRisesUptoRow : OpenClaim := { program := "yteeaipehkhldhaadoor", sum := "23265b4e09da998cf35cec5aa6e16871c8439e68e127fc2e3c7b20887571a69e", func := "floodgate/floodgatelaw1.CurveRises", spec := "curveRises", unfollowed := true, recurses := true, named := ["floodgate/api.ErrBound", "floodgate/api.ErrShape"], apart := false, laid := [("floodgate/api.ErrBound", laid_floodgate_api_ErrBound), ("floodgate/api.ErrShape", laid_floodgate_api_ErrShape)], narrowed := true }
def CurveRisesUptoSaid : Prop := curveRisesUptoRow.holds Tryd.pinned (OpenSpec.upto curveRisesSpec)

/-- 'floodgatelaw1.Names', WHERE WHAT IT READS IS OF BULK AT MOST 1048576: true; the input reads as it did. -/
def namesUptoRow : OpenClaim := { program := "yteeaipehkhldhaadoor", sum := "23265b4e09da998cf35cec5aa6e16871c8439e68e127fc2e3c7b20887571a69e", func := "floodgate/floodgatelaw1.Names", spec := "names", inPlace := ["internal/reflectlite.ValueOf", "(internal/reflectlite.Value).Type", "(internal/reflectlite.Value).IsNil", "internal/reflectlite.TypeOf", "(internal/reflectlite.Value).Elem", "(internal/reflectlite.Value).Set"], unfollowed := true, recurses := true, named := ["floodgate/api.ErrText", "floodgate/api.ErrBound", "floodgate/api.ErrShape", "floodgate/api.ErrNone", "floodgate/api.ErrOld", "floodgate/api.ErrOver", "floodgate/api.ErrIdle", "floodgate/api.ErrTurn", "floodgate/api.ErrKind", "errors.errorType"], apart := false, laid := [("errors.errorType", laid_errors_errorType), ("floodgate/api.ErrText", laid_floodgate_api_ErrText), ("floodgate/api.ErrBound", laid_floodgate_api_ErrBound), ("floodgate/api.ErrShape", laid_floodgate_api_ErrShape), ("floodgate/api.ErrNone", laid_floodgate_api_ErrNone), ("floodgate/api.ErrOld", laid_floodgate_api_ErrOld), ("floodgate/api.ErrOver", laid_floodgate_api_ErrOver), ("floodgate/api.ErrIdle", laid_floodgate_api_ErrIdle), ("floodgate/api.ErrTurn", laid_floodgate_api_ErrTurn), ("floodgate/api.ErrKind", laid_floodgate_api_ErrKind)], narrowed := true }
def NamesUptoSaid : Prop := namesUptoRow.holds Tryd.pinned (OpenSpec.upto namesSpec)

/-- 'floodgatelaw1.CurveAt', WHERE WHAT IT READS IS OF BULK AT MOST 1048576: true; the input reads as it did. -/
def curveAtUptoRow : OpenClaim := { program := "yteeaipehkhldhaadoor", sum := "23265b4e09da998cf35cec5aa6e16871c8439e68e127fc2e3c7b20887571a69e", func := "floodgate/floodgatelaw1.CurveAt", spec := "curveAt", inPlace := ["internal/reflectlite.ValueOf", "(internal/reflectlite.Value).Type", "(internal/reflectlite.Value).IsNil", "internal/reflectlite.TypeOf", "(internal/reflectlite.Value).Elem", "(internal/reflectlite.Value).Set"], unfollowed := true, recurses := true, named := ["floodgate/api.ErrBound", "floodgate/api.ErrShape", "floodgate/api.ErrText", "floodgate/api.ErrNone", "floodgate/api.ErrOld", "floodgate/api.ErrOver", "floodgate/api.ErrIdle", "floodgate/api.ErrTurn", "floodgate/api.ErrKind", "errors.errorType"], apart := false, laid := [("errors.errorType", laid_errors_errorType), ("floodgate/api.ErrText", laid_floodgate_api_ErrText), ("floodgate/api.ErrBound", laid_floodgate_api_ErrBound), ("floodgate/api.ErrShape", laid_floodgate_api_ErrShape), ("floodgate/api.ErrNone", laid_floodgate_api_ErrNone), ("floodgate/api.ErrOld", laid_floodgate_api_ErrOld), ("floodgate/api.ErrOver", laid_floodgate_api_ErrOver), ("floodgate/api.ErrIdle", laid_floodgate_api_ErrIdle), ("floodgate/api.ErrTurn", laid_floodgate_api_ErrTurn), ("floodgate/api.ErrKind", laid_floodgate_api_ErrKind)], narrowed := true }
def CurveAtUptoSaid : Prop := curveAtUptoRow.holds Tryd.pinned (OpenSpec.upto curveAtSpec)

/-- 'floodgatelaw1.BucketWhen', WHERE WHAT IT READS IS OF BULK AT MOST 1048576: true; the input reads as it did. -/
def bucketWhenUptoRow : OpenClaim := { program := "yteeaipehkhldhaadoor", sum := "23265b4e09da998cf35cec5aa6e16871c8439e68e127fc2e3c7b20887571a69e", func := "floodgate/floodgatelaw1.BucketWhen", spec := "bucketWhen", inPlace := ["internal/reflectlite.ValueOf", "(internal/reflectlite.Value).Type", "(internal/reflectlite.Value).IsNil", "internal/reflectlite.TypeOf", "(internal/reflectlite.Value).Elem", "(internal/reflectlite.Value).Set"], unfollowed := true, recurses := true, named := ["floodgate/api.ErrShape", "floodgate/api.ErrBound", "errors.errorType", "floodgate/api.ErrOld", "floodgate/api.ErrNone"], apart := false, laid := [("errors.errorType", laid_errors_errorType), ("floodgate/api.ErrBound", laid_floodgate_api_ErrBound), ("floodgate/api.ErrShape", laid_floodgate_api_ErrShape), ("floodgate/api.ErrNone", laid_floodgate_api_ErrNone), ("floodgate/api.ErrOld", laid_floodgate_api_ErrOld)], narrowed := true }
def BucketWhenUptoSaid : Prop := bucketWhenUptoRow.holds Tryd.pinned (OpenSpec.upto bucketWhenSpec)

/-- 'floodgatelaw1.BucketPasses', WHERE WHAT IT READS IS OF BULK AT MOST 1048576: true; the input reads as it did. -/
def bucketPassesUptoRow : OpenClaim := { program := "yteeaipehkhldhaadoor", sum := "23265b4e09da998cf35cec5aa6e16871c8439e68e127fc2e3c7b20887571a69e", func := "floodgate/floodgatelaw1.BucketPasses", spec := "bucketPasses", inPlace := ["internal/reflectlite.ValueOf", "(internal/reflectlite.Value).Type", "(internal/reflectlite.Value).IsNil", "internal/reflectlite.TypeOf", "(internal/reflectlite.Value).Elem", "(internal/reflectlite.Value).Set"], unfollowed := true, recurses := true, named := ["floodgate/api.ErrShape", "floodgate/api.ErrBound", "errors.errorType", "floodgate/api.ErrOld", "floodgate/api.ErrNone"], apart := false, laid := [("errors.errorType", laid_errors_errorType), ("floodgate/api.ErrBound", laid_floodgate_api_ErrBound), ("floodgate/api.ErrShape", laid_floodgate_api_ErrShape), ("floodgate/api.ErrNone", laid_floodgate_api_ErrNone), ("floodgate/api.ErrOld", laid_floodgate_api_ErrOld)], narrowed := true }
def BucketPassesUptoSaid : Prop := bucketPassesUptoRow.holds Tryd.pinned (OpenSpec.upto bucketPassesSpec)

/-- 'floodgatelaw1.BucketActs', WHERE WHAT IT READS IS OF BULK AT MOST 1048576: true; the input reads as it did. -/
def bucketActsUptoRow : OpenClaim := { program := "yteeaipehkhldhaadoor", sum := "23265b4e09da998cf35cec5aa6e16871c8439e68e127fc2e3c7b20887571a69e", func := "floodgate/floodgatelaw1.BucketActs", spec := "bucketActs", inPlace := ["internal/reflectlite.ValueOf", "(internal/reflectlite.Value).Type", "(internal/reflectlite.Value).IsNil", "internal/reflectlite.TypeOf", "(internal/reflectlite.Value).Elem", "(internal/reflectlite.Value).Set"], unfollowed := true, recurses := true, named := ["floodgate/api.ErrShape", "floodgate/api.ErrBound", "errors.errorType", "floodgate/api.ErrOld", "floodgate/api.ErrNone", "floodgate/api.ErrText", "floodgate/api.ErrOver", "floodgate/api.ErrIdle", "floodgate/api.ErrTurn", "floodgate/api.ErrKind"], apart := false, laid := [("errors.errorType", laid_errors_errorType), ("floodgate/api.ErrText", laid_floodgate_api_ErrText), ("floodgate/api.ErrBound", laid_floodgate_api_ErrBound), ("floodgate/api.ErrShape", laid_floodgate_api_ErrShape), ("floodgate/api.ErrNone", laid_floodgate_api_ErrNone), ("floodgate/api.ErrOld", laid_floodgate_api_ErrOld), ("floodgate/api.ErrOver", laid_floodgate_api_ErrOver), ("floodgate/api.ErrIdle", laid_floodgate_api_ErrIdle), ("floodgate/api.ErrTurn", laid_floodgate_api_ErrTurn), ("floodgate/api.ErrKind", laid_floodgate_api_ErrKind)], narrowed := true }
def BucketActsUptoSaid : Prop := bucketActsUptoRow.holds Tryd.pinned (OpenSpec.upto bucketActsSpec)

/-- 'floodgatelaw1.BucketFits', WHERE WHAT IT READS IS OF BULK AT MOST 1048576: true; the input reads as it did. -/
def bucketFitsUptoRow : OpenClaim := { program := "yteeaipehkhldhaadoor", sum := "23265b4e09da998cf35cec5aa6e16871c8439e68e127fc2e3c7b20887571a69e", func := "floodgate/floodgatelaw1.BucketFits", spec := "bucketFits", inPlace := ["internal/reflectlite.ValueOf", "(internal/reflectlite.Value).Type", "(internal/reflectlite.Value).IsNil", "internal/reflectlite.TypeOf", "(internal/reflectlite.Value).Elem", "(internal/reflectlite.Value).Set"], unfollowed := true, recurses := true, named := ["floodgate/api.ErrShape", "floodgate/api.ErrBound", "errors.errorType", "floodgate/api.ErrOld", "floodgate/api.ErrNone"], apart := false, laid := [("errors.errorType", laid_errors_errorType), ("floodgate/api.ErrBound", laid_floodgate_api_ErrBound), ("floodgate/api.ErrShape", laid_floodgate_api_ErrShape), ("floodgate/api.ErrNone", laid_floodgate_api_ErrNone), ("floodgate/api.ErrOld", laid_floodgate_api_ErrOld)], narrowed := true }
def BucketFitsUptoSaid : Prop := bucketFitsUptoRow.holds Tryd.pinned (OpenSpec.upto bucketFitsSpec)

/-- 'floodgatelaw1.CurveMeets', WHERE WHAT IT READS IS OF BULK AT MOST 1048576: true; the input reads as it did. -/
def curveMeetsUptoRow : OpenClaim := { program := "yteeaipehkhldhaadoor", sum := "23265b4e09da998cf35cec5aa6e16871c8439e68e127fc2e3c7b20887571a69e", func := "floodgate/floodgatelaw1.CurveMeets", spec := "curveMeets", inPlace := ["internal/reflectlite.ValueOf", "(internal/reflectlite.Value).Type", "(internal/reflectlite.Value).IsNil", "internal/reflectlite.TypeOf", "(internal/reflectlite.Value).Elem", "(internal/reflectlite.Value).Set"], unfollowed := true, recurses := true, named := ["floodgate/api.ErrBound", "floodgate/api.ErrShape", "floodgate/api.ErrNone", "floodgate/api.ErrText", "floodgate/api.ErrOld", "floodgate/api.ErrOver", "floodgate/api.ErrIdle", "floodgate/api.ErrTurn", "floodgate/api.ErrKind", "errors.errorType"], apart := false, laid := [("errors.errorType", laid_errors_errorType), ("floodgate/api.ErrText", laid_floodgate_api_ErrText), ("floodgate/api.ErrBound", laid_floodgate_api_ErrBound), ("floodgate/api.ErrShape", laid_floodgate_api_ErrShape), ("floodgate/api.ErrNone", laid_floodgate_api_ErrNone), ("floodgate/api.ErrOld", laid_floodgate_api_ErrOld), ("floodgate/api.ErrOver", laid_floodgate_api_ErrOver), ("floodgate/api.ErrIdle", laid_floodgate_api_ErrIdle), ("floodgate/api.ErrTurn", laid_floodgate_api_ErrTurn), ("floodgate/api.ErrKind", laid_floodgate_api_ErrKind)], narrowed := true }
def CurveMeetsUptoSaid : Prop := curveMeetsUptoRow.holds Tryd.pinned (OpenSpec.upto curveMeetsSpec)

/-- 'floodgatelaw1.CurveBounds', WHERE WHAT IT READS IS OF BULK AT MOST 1048576: true; the input reads as it did. -/
def curveBoundsUptoRow : OpenClaim := { program := "yteeaipehkhldhaadoor", sum := "23265b4e09da998cf35cec5aa6e16871c8439e68e127fc2e3c7b20887571a69e", func := "floodgate/floodgatelaw1.CurveBounds", spec := "curveBounds", inPlace := ["internal/reflectlite.ValueOf", "(internal/reflectlite.Value).Type", "(internal/reflectlite.Value).IsNil", "internal/reflectlite.TypeOf", "(internal/reflectlite.Value).Elem", "(internal/reflectlite.Value).Set"], unfollowed := true, recurses := true, named := ["floodgate/api.ErrBound", "floodgate/api.ErrShape", "floodgate/api.ErrNone", "floodgate/api.ErrText", "floodgate/api.ErrOld", "floodgate/api.ErrOver", "floodgate/api.ErrIdle", "floodgate/api.ErrTurn", "floodgate/api.ErrKind", "errors.errorType"], apart := false, laid := [("errors.errorType", laid_errors_errorType), ("floodgate/api.ErrText", laid_floodgate_api_ErrText), ("floodgate/api.ErrBound", laid_floodgate_api_ErrBound), ("floodgate/api.ErrShape", laid_floodgate_api_ErrShape), ("floodgate/api.ErrNone", laid_floodgate_api_ErrNone), ("floodgate/api.ErrOld", laid_floodgate_api_ErrOld), ("floodgate/api.ErrOver", laid_floodgate_api_ErrOver), ("floodgate/api.ErrIdle", laid_floodgate_api_ErrIdle), ("floodgate/api.ErrTurn", laid_floodgate_api_ErrTurn), ("floodgate/api.ErrKind", laid_floodgate_api_ErrKind)], narrowed := true }
def CurveBoundsUptoSaid : Prop := curveBoundsUptoRow.holds Tryd.pinned (OpenSpec.upto curveBoundsSpec)

/-- 'floodgatelaw1.BucketShape', WHERE WHAT IT READS IS OF BULK AT MOST 1048576: true; the input reads as it did. -/
def bucketShapeUptoRow : OpenClaim := { program := "yteeaipehkhldhaadoor", sum := "23265b4e09da998cf35cec5aa6e16871c8439e68e127fc2e3c7b20887571a69e", func := "floodgate/floodgatelaw1.BucketShape", spec := "bucketShape", inPlace := ["internal/reflectlite.ValueOf", "(internal/reflectlite.Value).Type", "(internal/reflectlite.Value).IsNil", "internal/reflectlite.TypeOf", "(internal/reflectlite.Value).Elem", "(internal/reflectlite.Value).Set"], unfollowed := true, recurses := true, named := ["floodgate/api.ErrShape", "floodgate/api.ErrBound", "errors.errorType", "floodgate/api.ErrOld", "floodgate/api.ErrNone", "floodgate/api.ErrText", "floodgate/api.ErrOver", "floodgate/api.ErrIdle", "floodgate/api.ErrTurn", "floodgate/api.ErrKind"], apart := false, laid := [("errors.errorType", laid_errors_errorType), ("floodgate/api.ErrText", laid_floodgate_api_ErrText), ("floodgate/api.ErrBound", laid_floodgate_api_ErrBound), ("floodgate/api.ErrShape", laid_floodgate_api_ErrShape), ("floodgate/api.ErrNone", laid_floodgate_api_ErrNone), ("floodgate/api.ErrOld", laid_floodgate_api_ErrOld), ("floodgate/api.ErrOver", laid_floodgate_api_ErrOver), ("floodgate/api.ErrIdle", laid_floodgate_api_ErrIdle), ("floodgate/api.ErrTurn", laid_floodgate_api_ErrTurn), ("floodgate/api.ErrKind", laid_floodgate_api_ErrKind)], narrowed := true }
def BucketShapeUptoSaid : Prop := bucketShapeUptoRow.holds Tryd.pinned (OpenSpec.upto bucketShapeSpec)

/-- 'floodgatelaw1.CurveSame', WHERE WHAT IT READS IS OF BULK AT MOST 1048576: true; the input reads as it did. -/
def curveSameUptoRow : OpenClaim := { program := "yteeaipehkhldhaadoor", sum := "23265b4e09da998cf35cec5aa6e16871c8439e68e127fc2e3c7b20887571a69e", func := "floodgate/floodgatelaw1.CurveSame", spec := "curveSame", unfollowed := true, recurses := true, named := ["floodgate/api.ErrBound", "floodgate/api.ErrShape"], apart := false, laid := [("floodgate/api.ErrBound", laid_floodgate_api_ErrBound), ("floodgate/api.ErrShape", laid_floodgate_api_ErrShape)], narrowed := true }
def CurveSameUptoSaid : Prop := curveSameUptoRow.holds Tryd.pinned (OpenSpec.upto curveSameSpec)

/-- 'floodgatelaw1.CurveTidy', WHERE WHAT IT READS IS OF BULK AT MOST 1048576: true; the input reads as it did. -/
def curveTidyUptoRow : OpenClaim := { program := "yteeaipehkhldhaadoor", sum := "23265b4e09da998cf35cec5aa6e16871c8439e68e127fc2e3c7b20887571a69e", func := "floodgate/floodgatelaw1.CurveTidy", spec := "curveTidy", inPlace := ["internal/reflectlite.ValueOf", "(internal/reflectlite.Value).Type", "(internal/reflectlite.Value).IsNil", "internal/reflectlite.TypeOf", "(internal/reflectlite.Value).Elem", "(internal/reflectlite.Value).Set"], unfollowed := true, recurses := true, named := ["floodgate/api.ErrBound", "floodgate/api.ErrShape", "floodgate/api.ErrText", "floodgate/api.ErrNone", "floodgate/api.ErrOld", "floodgate/api.ErrOver", "floodgate/api.ErrIdle", "floodgate/api.ErrTurn", "floodgate/api.ErrKind", "errors.errorType"], apart := false, laid := [("errors.errorType", laid_errors_errorType), ("floodgate/api.ErrText", laid_floodgate_api_ErrText), ("floodgate/api.ErrBound", laid_floodgate_api_ErrBound), ("floodgate/api.ErrShape", laid_floodgate_api_ErrShape), ("floodgate/api.ErrNone", laid_floodgate_api_ErrNone), ("floodgate/api.ErrOld", laid_floodgate_api_ErrOld), ("floodgate/api.ErrOver", laid_floodgate_api_ErrOver), ("floodgate/api.ErrIdle", laid_floodgate_api_ErrIdle), ("floodgate/api.ErrTurn", laid_floodgate_api_ErrTurn), ("floodgate/api.ErrKind", laid_floodgate_api_ErrKind)], narrowed := true }
def CurveTidyUptoSaid : Prop := curveTidyUptoRow.holds Tryd.pinned (OpenSpec.upto curveTidySpec)

end Rows
end Go.Proofs.YteeaipehkhldhaaDoor
