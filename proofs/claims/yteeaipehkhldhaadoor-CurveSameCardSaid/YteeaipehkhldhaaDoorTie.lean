/-
  DERIVED. GIVEN WITH THE SEED: THE PROGRAM's TIES (one call each: nine closed facts by the kernel) AND EACH ROW's TIE, after the 31st guide's Derived/Test/Toyas{Tie, Card}.lean. No idea stands in it: it is a product of the set-up. Laid BY PROGRAM, IN A SANDBOX (cutbox-door.mjs). By AI agents, Wed Nov 11 2026. No macro, syntax, notation, axiom, sorry.
-/
import Derived.Test.YteeaipehkhldhaaDoorRows
import Derived.LaidByTextLater
import Derived.SevenTiedAt
import Derived.LaidSub
import Derived.LaidOnce
namespace Go.Proofs.YteeaipehkhldhaaDoor
open Go
set_option maxRecDepth 100000
theorem seatTie1 : Tryd.prog.laidByTextLater [("errors.errorType", Rows.laid_errors_errorType), ("floodgate/api.ErrText", Rows.laid_floodgate_api_ErrText), ("floodgate/api.ErrBound", Rows.laid_floodgate_api_ErrBound), ("floodgate/api.ErrShape", Rows.laid_floodgate_api_ErrShape), ("floodgate/api.ErrNone", Rows.laid_floodgate_api_ErrNone), ("floodgate/api.ErrOld", Rows.laid_floodgate_api_ErrOld), ("floodgate/api.ErrOver", Rows.laid_floodgate_api_ErrOver), ("floodgate/api.ErrIdle", Rows.laid_floodgate_api_ErrIdle), ("floodgate/api.ErrTurn", Rows.laid_floodgate_api_ErrTurn), ("floodgate/api.ErrKind", Rows.laid_floodgate_api_ErrKind)] [.handle, .sentinel, .sentinel, .sentinel, .sentinel, .sentinel, .sentinel, .sentinel, .sentinel, .sentinel] true :=
  Program.laidByTextLater_by_one 187 8 2 (by kernel_rfl) (by kernel_rfl) (by kernel_rfl) (by kernel_rfl) (by kernel_rfl) (by kernel_rfl) (fun _ _ => by kernel_rfl)
theorem noOwnUnsafe : Tryd.pinned.checked.prog.headLifts.contains "ownunsafe" = false := by kernel_rfl
theorem tie : Tryd.prog.laidByTextLater [("floodgate/api.ErrBound", Rows.laid_floodgate_api_ErrBound), ("floodgate/api.ErrShape", Rows.laid_floodgate_api_ErrShape)] [.sentinel, .sentinel] true :=
  Program.laidByTextLater.sub seatTie1 ["floodgate/api.ErrBound", "floodgate/api.ErrShape"] (by kernel_rfl) (by kernel_rfl)
theorem curveRises_row_tie : Rows.curveRisesRow.laidByTextAt .later Tryd.pinned [.sentinel, .sentinel] true :=
  OpenClaim.laidByTextAt_later rfl rfl tie noOwnUnsafe
theorem curveSame_row_tie : Rows.curveSameRow.laidByTextAt .later Tryd.pinned [.sentinel, .sentinel] true :=
  OpenClaim.laidByTextAt_later rfl rfl tie noOwnUnsafe
theorem tie2 : Tryd.prog.laidByTextLater [("errors.errorType", Rows.laid_errors_errorType), ("floodgate/api.ErrText", Rows.laid_floodgate_api_ErrText), ("floodgate/api.ErrBound", Rows.laid_floodgate_api_ErrBound), ("floodgate/api.ErrShape", Rows.laid_floodgate_api_ErrShape), ("floodgate/api.ErrNone", Rows.laid_floodgate_api_ErrNone), ("floodgate/api.ErrOld", Rows.laid_floodgate_api_ErrOld), ("floodgate/api.ErrOver", Rows.laid_floodgate_api_ErrOver), ("floodgate/api.ErrIdle", Rows.laid_floodgate_api_ErrIdle), ("floodgate/api.ErrTurn", Rows.laid_floodgate_api_ErrTurn), ("floodgate/api.ErrKind", Rows.laid_floodgate_api_ErrKind)] [.handle, .sentinel, .sentinel, .sentinel, .sentinel, .sentinel, .sentinel, .sentinel, .sentinel, .sentinel] true :=
  Program.laidByTextLater.sub seatTie1 ["errors.errorType", "floodgate/api.ErrText", "floodgate/api.ErrBound", "floodgate/api.ErrShape", "floodgate/api.ErrNone", "floodgate/api.ErrOld", "floodgate/api.ErrOver", "floodgate/api.ErrIdle", "floodgate/api.ErrTurn", "floodgate/api.ErrKind"] (by kernel_rfl) (by kernel_rfl)
theorem names_row_tie : Rows.namesRow.laidByTextAt .later Tryd.pinned [.handle, .sentinel, .sentinel, .sentinel, .sentinel, .sentinel, .sentinel, .sentinel, .sentinel, .sentinel] true :=
  OpenClaim.laidByTextAt_later rfl rfl tie2 noOwnUnsafe
theorem curveAt_row_tie : Rows.curveAtRow.laidByTextAt .later Tryd.pinned [.handle, .sentinel, .sentinel, .sentinel, .sentinel, .sentinel, .sentinel, .sentinel, .sentinel, .sentinel] true :=
  OpenClaim.laidByTextAt_later rfl rfl tie2 noOwnUnsafe
theorem bucketActs_row_tie : Rows.bucketActsRow.laidByTextAt .later Tryd.pinned [.handle, .sentinel, .sentinel, .sentinel, .sentinel, .sentinel, .sentinel, .sentinel, .sentinel, .sentinel] true :=
  OpenClaim.laidByTextAt_later rfl rfl tie2 noOwnUnsafe
theorem curveMeets_row_tie : Rows.curveMeetsRow.laidByTextAt .later Tryd.pinned [.handle, .sentinel, .sentinel, .sentinel, .sentinel, .sentinel, .sentinel, .sentinel, .sentinel, .sentinel] true :=
  OpenClaim.laidByTextAt_later rfl rfl tie2 noOwnUnsafe
theorem curveBounds_row_tie : Rows.curveBoundsRow.laidByTextAt .later Tryd.pinned [.handle, .sentinel, .sentinel, .sentinel, .sentinel, .sentinel, .sentinel, .sentinel, .sentinel, .sentinel] true :=
  OpenClaim.laidByTextAt_later rfl rfl tie2 noOwnUnsafe
theorem bucketShape_row_tie : Rows.bucketShapeRow.laidByTextAt .later Tryd.pinned [.handle, .sentinel, .sentinel, .sentinel, .sentinel, .sentinel, .sentinel, .sentinel, .sentinel, .sentinel] true :=
  OpenClaim.laidByTextAt_later rfl rfl tie2 noOwnUnsafe
theorem curveTidy_row_tie : Rows.curveTidyRow.laidByTextAt .later Tryd.pinned [.handle, .sentinel, .sentinel, .sentinel, .sentinel, .sentinel, .sentinel, .sentinel, .sentinel, .sentinel] true :=
  OpenClaim.laidByTextAt_later rfl rfl tie2 noOwnUnsafe
theorem tie3 : Tryd.prog.laidByTextLater [("errors.errorType", Rows.laid_errors_errorType), ("floodgate/api.ErrBound", Rows.laid_floodgate_api_ErrBound), ("floodgate/api.ErrShape", Rows.laid_floodgate_api_ErrShape), ("floodgate/api.ErrNone", Rows.laid_floodgate_api_ErrNone), ("floodgate/api.ErrOld", Rows.laid_floodgate_api_ErrOld)] [.handle, .sentinel, .sentinel, .sentinel, .sentinel] true :=
  Program.laidByTextLater.sub seatTie1 ["errors.errorType", "floodgate/api.ErrBound", "floodgate/api.ErrShape", "floodgate/api.ErrNone", "floodgate/api.ErrOld"] (by kernel_rfl) (by kernel_rfl)
theorem bucketWhen_row_tie : Rows.bucketWhenRow.laidByTextAt .later Tryd.pinned [.handle, .sentinel, .sentinel, .sentinel, .sentinel] true :=
  OpenClaim.laidByTextAt_later rfl rfl tie3 noOwnUnsafe
theorem bucketPasses_row_tie : Rows.bucketPassesRow.laidByTextAt .later Tryd.pinned [.handle, .sentinel, .sentinel, .sentinel, .sentinel] true :=
  OpenClaim.laidByTextAt_later rfl rfl tie3 noOwnUnsafe
theorem bucketFits_row_tie : Rows.bucketFitsRow.laidByTextAt .later Tryd.pinned [.handle, .sentinel, .sentinel, .sentinel, .sentinel] true :=
  OpenClaim.laidByTextAt_later rfl rfl tie3 noOwnUnsafe
theorem curveRisesUpto_row_tie : Rows.curveRisesUptoRow.laidByTextAt .later Tryd.pinned [.sentinel, .sentinel] true :=
  OpenClaim.laidByTextAt_later rfl rfl tie noOwnUnsafe
theorem namesUpto_row_tie : Rows.namesUptoRow.laidByTextAt .later Tryd.pinned [.handle, .sentinel, .sentinel, .sentinel, .sentinel, .sentinel, .sentinel, .sentinel, .sentinel, .sentinel] true :=
  OpenClaim.laidByTextAt_later rfl rfl tie2 noOwnUnsafe
theorem curveAtUpto_row_tie : Rows.curveAtUptoRow.laidByTextAt .later Tryd.pinned [.handle, .sentinel, .sentinel, .sentinel, .sentinel, .sentinel, .sentinel, .sentinel, .sentinel, .sentinel] true :=
  OpenClaim.laidByTextAt_later rfl rfl tie2 noOwnUnsafe
theorem bucketWhenUpto_row_tie : Rows.bucketWhenUptoRow.laidByTextAt .later Tryd.pinned [.handle, .sentinel, .sentinel, .sentinel, .sentinel] true :=
  OpenClaim.laidByTextAt_later rfl rfl tie3 noOwnUnsafe
theorem bucketPassesUpto_row_tie : Rows.bucketPassesUptoRow.laidByTextAt .later Tryd.pinned [.handle, .sentinel, .sentinel, .sentinel, .sentinel] true :=
  OpenClaim.laidByTextAt_later rfl rfl tie3 noOwnUnsafe
theorem bucketActsUpto_row_tie : Rows.bucketActsUptoRow.laidByTextAt .later Tryd.pinned [.handle, .sentinel, .sentinel, .sentinel, .sentinel, .sentinel, .sentinel, .sentinel, .sentinel, .sentinel] true :=
  OpenClaim.laidByTextAt_later rfl rfl tie2 noOwnUnsafe
theorem bucketFitsUpto_row_tie : Rows.bucketFitsUptoRow.laidByTextAt .later Tryd.pinned [.handle, .sentinel, .sentinel, .sentinel, .sentinel] true :=
  OpenClaim.laidByTextAt_later rfl rfl tie3 noOwnUnsafe
theorem curveMeetsUpto_row_tie : Rows.curveMeetsUptoRow.laidByTextAt .later Tryd.pinned [.handle, .sentinel, .sentinel, .sentinel, .sentinel, .sentinel, .sentinel, .sentinel, .sentinel, .sentinel] true :=
  OpenClaim.laidByTextAt_later rfl rfl tie2 noOwnUnsafe
theorem curveBoundsUpto_row_tie : Rows.curveBoundsUptoRow.laidByTextAt .later Tryd.pinned [.handle, .sentinel, .sentinel, .sentinel, .sentinel, .sentinel, .sentinel, .sentinel, .sentinel, .sentinel] true :=
  OpenClaim.laidByTextAt_later rfl rfl tie2 noOwnUnsafe
theorem bucketShapeUpto_row_tie : Rows.bucketShapeUptoRow.laidByTextAt .later Tryd.pinned [.handle, .sentinel, .sentinel, .sentinel, .sentinel, .sentinel, .sentinel, .sentinel, .sentinel, .sentinel] true :=
  OpenClaim.laidByTextAt_later rfl rfl tie2 noOwnUnsafe
theorem curveSameUpto_row_tie : Rows.curveSameUptoRow.laidByTextAt .later Tryd.pinned [.sentinel, .sentinel] true :=
  OpenClaim.laidByTextAt_later rfl rfl tie noOwnUnsafe
theorem curveTidyUpto_row_tie : Rows.curveTidyUptoRow.laidByTextAt .later Tryd.pinned [.handle, .sentinel, .sentinel, .sentinel, .sentinel, .sentinel, .sentinel, .sentinel, .sentinel, .sentinel] true :=
  OpenClaim.laidByTextAt_later rfl rfl tie2 noOwnUnsafe
end Go.Proofs.YteeaipehkhldhaaDoor
