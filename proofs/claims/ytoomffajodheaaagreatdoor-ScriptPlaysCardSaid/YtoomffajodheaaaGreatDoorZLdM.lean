/- The proof of ScriptPlays, part LdM. Conditions: in each statement. -/
import Derived.Test.YtoomffajodheaaaGreatDoorRows
import Derived.ProofKit
import Derived.LaidMore
import Derived.Stop.LaidErr
import Derived.Stop.Joined
import Derived.Test.YtoomffajodheaaaGreatDoorZIsM
set_option linter.all false
namespace Go.Proofs.YtoomffajodheaaaGreatDoor
open Go.ChangeShapes Go.WideShapes Go.RowKit
set_option maxRecDepth 100000
theorem zA5{p:Prop}(h:p:=by decide):p:=h
namespace Laid
theorem laidOut:laidOutB Tryz.prog=true:=zAy
theorem own:ownKnob Tryz.prog.godebug=none:=zAy
theorem star: "*"++ "errors.errorString"= "*errors.errorString":=zA5
theorem a2F (u:TypeId) (h:Tryz.prog.typeName? 3 u=some "*errors.errorString"):u=242:=
 typeName_ptr_named (nm:= "errors.errorString") (by rw [star];kernel_rfl) zAy zA5 u (by rw [star];exact h)
theorem a0B:Tryz.prog.cellsOf 244=1:=zAy
theorem axU:Tryz.prog.cellsOf 9=1:=zAy
end Laid
namespace LaidAll
theorem et:Tryz.prog.globalNamed "errors.errorType"=some 9:=zAy
theorem rt:(Tryz.prog.cutTypes.find? (·.1== "internal/reflectlite.rtype")).map (·.2)=some 170:=zAy
theorem a08:((List.range 351).filter λt=>Tryz.prog.rowNamed t [101,114,114,111,114])=[34]:=zAy
theorem size:Tryz.prog.types.size=351:=zAy
theorem hh:typeHandle Tryz.prog 34=.pointer (some ⟨23,34,none⟩):=zAy
theorem uy {n:String} {text:List UInt8} {r:List (String × DataW Unit)} {W:World} {g:Nat}
 (h:laidMet Tryz.prog ((n,.iface "*errors.errorString" (.ptr (.agg [.lit (.string text)])))::r) W) (hg:Tryz.prog.globalNamed n=some g) (ht:(Tryz.prog.globals[g]?).map (·.type)=some 34):
 ∃(a:Addr) (s:ByteArray),(g<W.heap.size/\a.block<W.heap.size/\W.cell? ⟨g,0,none⟩=some (.iface 242 (.pointer (some a))))/\W.cell? a=some (.string s)/\s.data.toList=text/\∃c t,W.heap[a.block]?=some (.cells c t (0,0)):=by
 obtain ⟨ps,⟨g0,t0,cs0,f0,p0,q0,hg0,ht0,hv0,hd0,_,e0⟩,hnd,hrows⟩:=h
 obtain rfl:=Option.some.inj (hg.symm.trans hg0)
 obtain rfl:=Option.some.inj (ht.symm.trans ht0)
 subst e0
 obtain ⟨l0⟩:=cs0
 have ok0:∀u v,l0=[.iface u v]->Value.okWide Tryz.prog W .any 0 u v:=λu v e=>by
  subst e
  exact (hrows g 0 (by simp [MemPlace.row])).2 u v (by simpa using World.var?_cell hg0 hv0 0)
 obtain ⟨a0,s0,rfl,hc0,hs0,hz0,rfl⟩:=errorString_of_trod Tryz.underlying34 Laid.a2F Tryz.underlying242 Tryz.underlying244 rfl rfl Tryz.underlying9 Laid.a0B Laid.axU hd0 ok0
 obtain ⟨c0,t0,hb0⟩:=(hrows a0.block a0.off (by simp [MemPlace.row])).1
 have hc1:W.cell? ⟨g,0,none⟩=some (.iface 242 (.pointer (some a0))):=by simpa using World.var?_cell hg hv0 0
 exact ⟨a0,s0,⟨zAU W _ hc1,zAU W _ hc0,hc1⟩,hc0,hs0,c0,t0,hb0⟩
end LaidAll
end Go.Proofs.YtoomffajodheaaaGreatDoor
