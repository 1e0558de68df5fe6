/- The proof of ScriptPlays, part PlaysF. Conditions: in each statement. -/
import Derived.Test.YtoomffajodheaaaGreatDoorRows
import Derived.LaidMore
import Derived.Stop.LaidErr
import Derived.Lib.SmallJoins
import Derived.SevenTiedAt
import Derived.Lay
set_option linter.all false
namespace Go.Proofs.YtoomffajodheaaaGreatDoor.scriptPlays
open Go.ChangeShapes Go.WideShapes Go.ChangeAt Go.WideMaps Go.WideElems Go.RowKit Go.Joins
set_option linter.unusedVariables false
set_option maxRecDepth 100000
theorem zA0{p:Prop}(h:p:=by kernel_rfl):p:=h
theorem k1:(Rows.scriptPlaysRow.wf (OpenSpec.ofChange Rows.scriptPlaysSpec))=true:=zA0
theorem k2:(laidOutB Tryz.prog)=true:=zA0
theorem k3:(mapsRowed Tryz.prog)=true:=zA0
theorem k4:(Tryz.f3.params.all (Tryz.prog.readableRec ·))=true:=zA0
theorem k5:(namedTie Tryz.prog Rows.scriptPlaysRow.named Rows.scriptPlaysSpec.vars)=true:=zA0
theorem k6:((Rows.scriptPlaysRow.stops==[]))=true:=zA0
theorem k7:((Tryz.prog.stops==[]))=true:=zA0
theorem k8:((Rows.scriptPlaysRow.knobs==[]))=true:=zA0
theorem k9:((Tryz.prog.stopKnobs==[]))=true:=zA0
theorem k10:((Rows.scriptPlaysRow.inPlace==Tryz.prog.inPlace 3))=true:=zA0
theorem k11:((Rows.scriptPlaysRow.unfollowed==Tryz.prog.unfollowed 3))=true:=zA0
theorem k12:((Rows.scriptPlaysRow.recurses==Tryz.prog.recurses 3))=true:=zA0
theorem k13:((Rows.scriptPlaysRow.named==Tryz.prog.varsNamed 3))=true:=zA0
theorem k14:((Rows.scriptPlaysRow.maps==(Tryz.f3.params.toList++Rows.scriptPlaysSpec.plain.varTypes Tryz.prog).any (Tryz.prog.mapsRec ·)))=true:=zA0
theorem k15:((Rows.scriptPlaysRow.ifaces==(Tryz.f3.params.toList++Rows.scriptPlaysSpec.plain.varTypes Tryz.prog).any (Tryz.prog.ifacesRec ·)))=true:=zA0
theorem k16:((Rows.scriptPlaysRow.mapsOut==Tryz.prog.mapsAmong Tryz.f3.resultTypes.toList))=true:=zA0
theorem k17:((Rows.scriptPlaysRow.loops==(Tryz.f3.params.toList++Rows.scriptPlaysSpec.plain.varTypes Tryz.prog).any (Tryz.prog.loopsFrom ·)))=true:=zA0
theorem k18:((Rows.scriptPlaysRow.wideKeys==(Tryz.f3.params.toList++Rows.scriptPlaysSpec.plain.varTypes Tryz.prog++Tryz.f3.resultTypes.toList).any (Tryz.prog.wideKeysFrom ·)))=true:=zA0
theorem k19:(Rows.scriptPlaysSpec.vars.all (Tryz.prog.varReadable ·))=true:=zA0
theorem k20:(Tryz.f3.resultTypes.all (λt=>Tryz.prog.readableRec t&&decide (t<Tryz.prog.types.size)))=true:=zA0
theorem k21:((Rows.scriptPlaysRow.ifacesOut==Tryz.f3.resultTypes.toList.any (Tryz.prog.ifacesRec ·)))=true:=zA0
theorem k22:((Rows.scriptPlaysRow.loopsOut==Tryz.f3.resultTypes.toList.any (Tryz.prog.loopsFrom ·)))=true:=zA0
theorem k23:((Rows.scriptPlaysRow.plainKeys==Tryz.prog.plainKeys))=true:=zA0
theorem k24:(Rows.scriptPlaysRow.shortTexts.isNone)=true:=zA0
theorem k25:(Tryz.prog.stopsHeard)=true:=zA0
theorem k26:(Tryz.prog.mayEnter)=true:=zA0
theorem k27:((Rows.scriptPlaysRow.lifted==Tryz.prog.liftsFinal))=true:=zA0
theorem k28:((Tryz.prog.make==some Rows.scriptPlaysRow.make))=true:=zA0
theorem k29:((Rows.scriptPlaysRow.kinds==(if Rows.scriptPlaysRow.domain.isEmpty then [] else Tryz.f3.params.toList.map λt=>match Tryz.prog.underlying t with |some (.int k)=>some k|_=>none)))=true:=zA0
theorem k30:((Rows.scriptPlaysRow.pinned==Rows.scriptPlaysRow.pinnedBy))=true:=zA0
theorem k31:((Rows.scriptPlaysRow.veiled==(Tryz.f3.params.toList++Rows.scriptPlaysSpec.plain.varTypes Tryz.prog++Tryz.f3.resultTypes.toList).any (Tryz.prog.veiledRec ·)))=true:=zA0
theorem k32:(Rows.scriptPlaysRow.veiledFits Tryz.prog Tryz.f3.params.toList (Tryz.f3.params.toList++Rows.scriptPlaysSpec.plain.varTypes Tryz.prog++Tryz.f3.resultTypes.toList))=true:=zA0
theorem ax {a b:Bool} (h:a=true) (h':b=true):(a&&b)=true:=by rw [h,h'];rfl
theorem closed:joinedFacts Tryz.prog 3 Tryz.f3 Rows.scriptPlaysSpec Rows.scriptPlaysRow=true:=
 (ax (ax (ax (ax (ax (ax (ax (ax (ax (ax (ax (ax (ax (ax (ax (ax (ax (ax (ax (ax (ax (ax (ax (ax (ax (ax (ax (ax (ax (ax (ax k1 k2) k3) k4) k5) k6) k7) k8) k9) k10) k11) k12) k13) k14) k15) k16) k17) k18) k19) k20) k21) k22) k23) k24) k25) k26) k27) k28) k29) k30) k31) k32)
end Go.Proofs.YtoomffajodheaaaGreatDoor.scriptPlays
