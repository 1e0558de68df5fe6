/- The proof of ScriptPlays, part RowPlays. Conditions: in each statement. -/
import Derived.Test.YtoomffajodheaaaGreatDoorZPlaysA
import Derived.Test.YtoomffajodheaaaGreatDoorZPlaysF
set_option linter.all false
namespace Go.Proofs.YtoomffajodheaaaGreatDoor.scriptPlays
open Go.ChangeShapes Go.WideShapes Go.ChangeAt Go.WideMaps Go.WideElems Go.RowKit Go.Joins
set_option linter.unusedVariables false
set_option maxRecDepth 100000
theorem said:Rows.ScriptPlaysSaid:=
 OpenClaim.holds_of_wide 3 Tryz.f3 rfl rfl rfl rfl rfl rfl rfl ⟨rfl,rfl,rfl,rfl,rfl⟩ rfl rfl rfl rfl rfl zK Tryz.func3 closed
  (of_decide_eq_true zK) (by unfold Func.isWrapper;rw [z6 (of_decide_eq_false zK)];exact ⟨rfl,rfl⟩)
  (λos started H enc _=>lifted os started H enc)
theorem proved:Rows.ScriptPlaysCardSaid:=
 Claim7.holds_tied_plain_at .later [] [.data,.data,.data,.data,.handle,.sentinel,.sentinel,.sentinel,.sentinel,.sentinel,.sentinel,.sentinel,.sentinel,.pinned] true (true,"513b453fee6fd2bea73f63a70781aee9bb56883cc92da33e289269b9c0ba2bca") true
  said (λ_ h=>by cases h) zK (λ_ h=>by cases h) scriptPlays_row_tie rfl ⟨rfl,rfl⟩ zK rfl
  (λf fn hf hfn=>by
   obtain rfl:f=3:=Option.some.inj ((show Tryz.prog.funcNamed "floodgate/floodgatelaw3.ScriptPlays"=some 3 by kernel_rfl).symm.trans hf) |>.symm
   obtain rfl:fn=Tryz.f3:=(Option.some.inj (Tryz.func3.symm.trans hfn)).symm
   exact ⟨by kernel_rfl,λj t ht=>by
    rw [Tryz.params3] at ht
    have hm:t∈[22]:=by have h9:=Array.mem_of_getElem? ht;simp at h9;first |simpa using h9|(rcases h9 with h9|h9|h9|h9<;>simp [h9])
    have hall:([22].all λu=> !Tryz.prog.wantsStandIn u)=true:=zK
    exact (show Tryz.prog.wantsStandIn t=false by simpa using List.all_eq_true.1 hall t hm)⟩)
  zK
end Go.Proofs.YtoomffajodheaaaGreatDoor.scriptPlays
