/-
  DERIVED. GIVEN WITH THE SEED: THE CARDS: each row of YteeaipehkhldhaaDoorRows.lean that lists a variable, with what it lists TIED to the program's text (the seventh form; the later family's looks); each row that meets fmt, with fmt's text TOLD by the authors' own Lean function (tested against real Go, not proved from fmt's source: count such statements apart). THE CARD IS WHAT COUNTS. Prove the row's statement (the work); the ties are given (YteeaipehkhldhaaDoorTie.lean); close each card by the builder's one call (the guide's Derived/Test/ToyasCard.lean, 'card_holds'). Laid BY PROGRAM, IN A SANDBOX (cutbox-door.mjs). By AI agents, Wed Nov 11 2026. No macro, syntax, notation, axiom, sorry.
-/
import Derived.Test.YteeaipehkhldhaaDoorRows
import GoSem.ClaimSeven
namespace Go.Proofs.YteeaipehkhldhaaDoor
namespace Rows

/-- THE TIED CARD OF 'floodgatelaw1.CurveRises'. -/
def curveRisesCard : Claim7 := { stood := { row := curveRisesRow, standIns := [], harness := (true, "fd44406750c1f5678f4cc9d4dc656f1a6176b9bd75026d562c117833c4287948"), looks := true }, kinds := [], alts := [], laidByText := true, laidKinds := [.sentinel, .sentinel], laidTests := true, laidLooks := .later }
def CurveRisesCardSaid : Prop := Claim7.holds Tryd.pinned (.plain (OpenSpec.ofChange curveRisesSpec)) curveRisesCard

/-- THE TIED CARD OF 'floodgatelaw1.Names'. -/
def namesCard : Claim7 := { stood := { row := namesRow, standIns := [], harness := (true, "fd44406750c1f5678f4cc9d4dc656f1a6176b9bd75026d562c117833c4287948"), looks := true }, kinds := [], alts := [], laidByText := true, laidKinds := [.handle, .sentinel, .sentinel, .sentinel, .sentinel, .sentinel, .sentinel, .sentinel, .sentinel, .sentinel], laidTests := true, laidLooks := .later }
def NamesCardSaid : Prop := Claim7.holds Tryd.pinned (.plain (OpenSpec.ofChange namesSpec)) namesCard

/-- THE TIED CARD OF 'floodgatelaw1.CurveAt'. -/
def curveAtCard : Claim7 := { stood := { row := curveAtRow, standIns := [], harness := (true, "fd44406750c1f5678f4cc9d4dc656f1a6176b9bd75026d562c117833c4287948"), looks := true }, kinds := [], alts := [], laidByText := true, laidKinds := [.handle, .sentinel, .sentinel, .sentinel, .sentinel, .sentinel, .sentinel, .sentinel, .sentinel, .sentinel], laidTests := true, laidLooks := .later }
def CurveAtCardSaid : Prop := Claim7.holds Tryd.pinned (.plain (OpenSpec.ofChange curveAtSpec)) curveAtCard

/-- THE TIED CARD OF 'floodgatelaw1.BucketWhen'. -/
def bucketWhenCard : Claim7 := { stood := { row := bucketWhenRow, standIns := [], harness := (true, "fd44406750c1f5678f4cc9d4dc656f1a6176b9bd75026d562c117833c4287948"), looks := true }, kinds := [], alts := [], laidByText := true, laidKinds := [.handle, .sentinel, .sentinel, .sentinel, .sentinel], laidTests := true, laidLooks := .later }
def BucketWhenCardSaid : Prop := Claim7.holds Tryd.pinned (.plain (OpenSpec.ofChange bucketWhenSpec)) bucketWhenCard

/-- THE TIED CARD OF 'floodgatelaw1.BucketPasses'. -/
def bucketPassesCard : Claim7 := { stood := { row := bucketPassesRow, standIns := [], harness := (true, "fd44406750c1f5678f4cc9d4dc656f1a6176b9bd75026d562c117833c4287948"), looks := true }, kinds := [], alts := [], laidByText := true, laidKinds := [.handle, .sentinel, .sentinel, .sentinel, .sentinel], laidTests := true, laidLooks := .later }
def BucketPassesCardSaid : Prop := Claim7.holds Tryd.pinned (.plain (OpenSpec.ofChange bucketPassesSpec)) bucketPassesCard

/-- THE TIED CARD OF 'floodgatelaw1.BucketActs'. -/
def bucketActsCard : Claim7 := { stood := { row := bucketActsRow, standIns := [], harness := (true, "fd44406750c1f5678f4cc9d4dc656f1a6176b9bd75026d562c117833c4287948"), looks := true }, kinds := [], alts := [], laidByText := true, laidKinds := [.handle, .sentinel, .sentinel, .sentinel, .sentinel, .sentinel, .sentinel, .sentinel, .sentinel, .sentinel], laidTests := true, laidLooks := .later }
def BucketActsCardSaid : Prop := Claim7.holds Tryd.pinned (.plain (OpenSpec.ofChange bucketActsSpec)) bucketActsCard

/-- THE TIED CARD OF 'floodgatelaw1.BucketFits'. -/
def bucketFitsCard : Claim7 := { stood := { row := bucketFitsRow, standIns := [], harness := (true, "fd44406750c1f5678f4cc9d4dc656f1a6176b9bd75026d562c117833c4287948"), looks := true }, kinds := [], alts := [], laidByText := true, laidKinds := [.handle, .sentinel, .sentinel, .sentinel, .sentinel], laidTests := true, laidLooks := .later }
def BucketFitsCardSaid : Prop := Claim7.holds Tryd.pinned (.plain (OpenSpec.ofChange bucketFitsSpec)) bucketFitsCard

/-- THE TIED CARD OF 'floodgatelaw1.CurveMeets'. -/
def curveMeetsCard : Claim7 := { stood := { row := curveMeetsRow, standIns := [], harness := (true, "fd44406750c1f5678f4cc9d4dc656f1a6176b9bd75026d562c117833c4287948"), looks := true }, kinds := [], alts := [], laidByText := true, laidKinds := [.handle, .sentinel, .sentinel, .sentinel, .sentinel, .sentinel, .sentinel, .sentinel, .sentinel, .sentinel], laidTests := true, laidLooks := .later }
def CurveMeetsCardSaid : Prop := Claim7.holds Tryd.pinned (.plain (OpenSpec.ofChange curveMeetsSpec)) curveMeetsCard

/-- THE TIED CARD OF 'floodgatelaw1.CurveBounds'. -/
def curveBoundsCard : Claim7 := { stood := { row := curveBoundsRow, standIns := [], harness := (true, "fd44406750c1f5678f4cc9d4dc656f1a6176b9bd75026d562c117833c4287948"), looks := true }, kinds := [], alts := [], laidByText := true, laidKinds := [.handle, .sentinel, .sentinel, .sentinel, .sentinel, .sentinel, .sentinel, .sentinel, .sentinel, .sentinel], laidTests := true, laidLooks := .later }
def CurveBoundsCardSaid : Prop := Claim7.holds Tryd.pinned (.plain (OpenSpec.ofChange curveBoundsSpec)) curveBoundsCard

/-- THE TIED CARD OF 'floodgatelaw1.BucketShape'. -/
def bucketShapeCard : Claim7 := { stood := { row := bucketShapeRow, standIns := [], harness := (true, "fd44406750c1f5678f4cc9d4dc656f1a6176b9bd75026d562c117833c4287948"), looks := true }, kinds := [], alts := [], laidByText := true, laidKinds := [.handle, .sentinel, .sentinel, .sentinel, .sentinel, .sentinel, .sentinel, .sentinel, .sentinel, .sentinel], laidTests := true, laidLooks := .later }
def BucketShapeCardSaid : Prop := Claim7.holds Tryd.pinned (.plain (OpenSpec.ofChange bucketShapeSpec)) bucketShapeCard

/-- THE TIED CARD OF 'floodgatelaw1.CurveSame'. -/
def curveSameCard : Claim7 := { stood := { row := curveSameRow, standIns := [], harness := (true, "fd44406750c1f5678f4cc9d4dc656f1a6176b9bd75026d562c117833c4287948"), looks := true }, kinds := [], alts := [], laidByText := true, laidKinds := [.sentinel, .sentinel], laidTests := true, laidLooks := .later }
def CurveSameCardSaid : Prop := Claim7.holds Tryd.pinned (.plain (OpenSpec.ofChange curveSameSpec)) curveSameCard

/-- THE TIED CARD OF 'floodgatelaw1.CurveTidy'. -/
def curveTidyCard : Claim7 := { stood := { row := curveTidyRow, standIns := [], harness := (true, "fd44406750c1f5678f4cc9d4dc656f1a6176b9bd75026d562c117833c4287948"), looks := true }, kinds := [], alts := [], laidByText := true, laidKinds := [.handle, .sentinel, .sentinel, .sentinel, .sentinel, .sentinel, .sentinel, .sentinel, .sentinel, .sentinel], laidTests := true, laidLooks := .later }
def CurveTidyCardSaid : Prop := Claim7.holds Tryd.pinned (.plain (OpenSpec.ofChange curveTidySpec)) curveTidyCard

/-- THE SECOND FORM's CARD OF 'floodgatelaw1.CurveRises'. -/
def curveRisesUptoCard : Claim7 := { stood := { row := curveRisesUptoRow, standIns := [], harness := (true, "fd44406750c1f5678f4cc9d4dc656f1a6176b9bd75026d562c117833c4287948"), looks := true }, kinds := [], alts := [], laidByText := true, laidKinds := [.sentinel, .sentinel], laidTests := true, laidLooks := .later }
def CurveRisesUptoCardSaid : Prop := Claim7.holds Tryd.pinned (.plain (OpenSpec.upto curveRisesSpec)) curveRisesUptoCard

/-- THE SECOND FORM's CARD OF 'floodgatelaw1.Names'. -/
def namesUptoCard : Claim7 := { stood := { row := namesUptoRow, standIns := [], harness := (true, "fd44406750c1f5678f4cc9d4dc656f1a6176b9bd75026d562c117833c4287948"), looks := true }, kinds := [], alts := [], laidByText := true, laidKinds := [.handle, .sentinel, .sentinel, .sentinel, .sentinel, .sentinel, .sentinel, .sentinel, .sentinel, .sentinel], laidTests := true, laidLooks := .later }
def NamesUptoCardSaid : Prop := Claim7.holds Tryd.pinned (.plain (OpenSpec.upto namesSpec)) namesUptoCard

/-- THE SECOND FORM's CARD OF 'floodgatelaw1.CurveAt'. -/
def curveAtUptoCard : Claim7 := { stood := { row := curveAtUptoRow, standIns := [], harness := (true, "fd44406750c1f5678f4cc9d4dc656f1a6176b9bd75026d562c117833c4287948"), looks := true }, kinds := [], alts := [], laidByText := true, laidKinds := [.handle, .sentinel, .sentinel, .sentinel, .sentinel, .sentinel, .sentinel, .sentinel, .sentinel, .sentinel], laidTests := true, laidLooks := .later }
def CurveAtUptoCardSaid : Prop := Claim7.holds Tryd.pinned (.plain (OpenSpec.upto curveAtSpec)) curveAtUptoCard

/-- THE SECOND FORM's CARD OF 'floodgatelaw1.BucketWhen'. -/
def bucketWhenUptoCard : Claim7 := { stood := { row := bucketWhenUptoRow, standIns := [], harness := (true, "fd44406750c1f5678f4cc9d4dc656f1a6176b9bd75026d562c117833c4287948"), looks := true }, kinds := [], alts := [], laidByText := true, laidKinds := [.handle, .sentinel, .sentinel, .sentinel, .sentinel], laidTests := true, laidLooks := .later }
def BucketWhenUptoCardSaid : Prop := Claim7.holds Tryd.pinned (.plain (OpenSpec.upto bucketWhenSpec)) bucketWhenUptoCard

/-- THE SECOND FORM's CARD OF 'floodgatelaw1.BucketPasses'. -/
def bucketPassesUptoCard : Claim7 := { stood := { row := bucketPassesUptoRow, standIns := [], harness := (true, "fd44406750c1f5678f4cc9d4dc656f1a6176b9bd75026d562c117833c4287948"), looks := true }, kinds := [], alts := [], laidByText := true, laidKinds := [.handle, .sentinel, .sentinel, .sentinel, .sentinel], laidTests := true, laidLooks := .later }
def BucketPassesUptoCardSaid : Prop := Claim7.holds Tryd.pinned (.plain (OpenSpec.upto bucketPassesSpec)) bucketPassesUptoCard

/-- THE SECOND FORM's CARD OF 'floodgatelaw1.BucketActs'. -/
def bucketActsUptoCard : Claim7 := { stood := { row := bucketActsUptoRow, standIns := [], harness := (true, "fd44406750c1f5678f4cc9d4dc656f1a6176b9bd75026d562c117833c4287948"), looks := true }, kinds := [], alts := [], laidByText := true, laidKinds := [.handle, .sentinel, .sentinel, .sentinel, .sentinel, .sentinel, .sentinel, .sentinel, .sentinel, .sentinel], laidTests := true, laidLooks := .later }
def BucketActsUptoCardSaid : Prop := Claim7.holds Tryd.pinned (.plain (OpenSpec.upto bucketActsSpec)) bucketActsUptoCard

/-- THE SECOND FORM's CARD OF 'floodgatelaw1.BucketFits'. -/
def bucketFitsUptoCard : Claim7 := { stood := { row := bucketFitsUptoRow, standIns := [], harness := (true, "fd44406750c1f5678f4cc9d4dc656f1a6176b9bd75026d562c117833c4287948"), looks := true }, kinds := [], alts := [], laidByText := true, laidKinds := [.handle, .sentinel, .sentinel, .sentinel, .sentinel], laidTests := true, laidLooks := .later }
def BucketFitsUptoCardSaid : Prop := Claim7.holds Tryd.pinned (.plain (OpenSpec.upto bucketFitsSpec)) bucketFitsUptoCard

/-- THE SECOND FORM's CARD OF 'floodgatelaw1.CurveMeets'. -/
def curveMeetsUptoCard : Claim7 := { stood := { row := curveMeetsUptoRow, standIns := [], harness := (true, "fd44406750c1f5678f4cc9d4dc656f1a6176b9bd75026d562c117833c4287948"), looks := true }, kinds := [], alts := [], laidByText := true, laidKinds := [.handle, .sentinel, .sentinel, .sentinel, .sentinel, .sentinel, .sentinel, .sentinel, .sentinel, .sentinel], laidTests := true, laidLooks := .later }
def CurveMeetsUptoCardSaid : Prop := Claim7.holds Tryd.pinned (.plain (OpenSpec.upto curveMeetsSpec)) curveMeetsUptoCard

/-- THE SECOND FORM's CARD OF 'floodgatelaw1.CurveBounds'. -/
def curveBoundsUptoCard : Claim7 := { stood := { row := curveBoundsUptoRow, standIns := [], harness := (true, "fd44406750c1f5678f4cc9d4dc656f1a6176b9bd75026d562c117833c4287948"), looks := true }, kinds := [], alts := [], laidByText := true, laidKinds := [.handle, .sentinel, .sentinel, .sentinel, .sentinel, .sentinel, .sentinel, .sentinel, .sentinel, .sentinel], laidTests := true, laidLooks := .later }
def CurveBoundsUptoCardSaid : Prop := Claim7.holds Tryd.pinned (.plain (OpenSpec.upto curveBoundsSpec)) curveBoundsUptoCard

/-- THE SECOND FORM's CARD OF 'floodgatelaw1.BucketShape'. -/
def bucketShapeUptoCard : Claim7 := { stood := { row := bucketShapeUptoRow, standIns := [], harness := (true, "fd44406750c1f5678f4cc9d4dc656f1a6176b9bd75026d562c117833c4287948"), looks := true }, kinds := [], alts := [], laidByText := true, laidKinds := [.handle, .sentinel, .sentinel, .sentinel, .sentinel, .sentinel, .sentinel, .sentinel, .sentinel, .sentinel], laidTests := true, laidLooks := .later }
def BucketShapeUptoCardSaid : Prop := Claim7.holds Tryd.pinned (.plain (OpenSpec.upto bucketShapeSpec)) bucketShapeUptoCard

/-- THE SECOND FORM's CARD OF 'floodgatelaw1.CurveSame'. -/
def curveSameUptoCard : Claim7 := { stood := { row := curveSameUptoRow, standIns := [], harness := (true, "fd44406750c1f5678f4cc9d4dc656f1a6176b9bd75026d562c117833c4287948"), looks := true }, kinds := [], alts := [], laidByText := true, laidKinds := [.sentinel, .sentinel], laidTests := true, laidLooks := .later }
def CurveSameUptoCardSaid : Prop := Claim7.holds Tryd.pinned (.plain (OpenSpec.upto curveSameSpec)) curveSameUptoCard

/-- THE SECOND FORM's CARD OF 'floodgatelaw1.CurveTidy'. -/
def curveTidyUptoCard : Claim7 := { stood := { row := curveTidyUptoRow, standIns := [], harness := (true, "fd44406750c1f5678f4cc9d4dc656f1a6176b9bd75026d562c117833c4287948"), looks := true }, kinds := [], alts := [], laidByText := true, laidKinds := [.handle, .sentinel, .sentinel, .sentinel, .sentinel, .sentinel, .sentinel, .sentinel, .sentinel, .sentinel], laidTests := true, laidLooks := .later }
def CurveTidyUptoCardSaid : Prop := Claim7.holds Tryd.pinned (.plain (OpenSpec.upto curveTidySpec)) curveTidyUptoCard
end Rows
end Go.Proofs.YteeaipehkhldhaaDoor
