/- The proof of ScriptPlays, part IsM. Conditions: in each statement. -/
import Derived.Test.YtoomffajodheaaaGreatDoorChecked
import Derived.Test.YtoomffajodheaaaGreatDoorZBaseM
import Derived.Stop.Asserts
import Derived.RowKitTokens
set_option linter.all false
namespace Go.Proofs.YtoomffajodheaaaGreatDoor
open Go.RowKit Go.Extern.Stop Go.Stop Go.Extern
set_option maxRecDepth 100000
theorem zAy{p:Prop}(h:p:=by kernel_rfl):p:=h
theorem zB8{p:Prop}(h:p:=by rfl):p:=h
theorem zFM{p:Prop}(h:p:=by rw [World.cell?_alloc_lt _ _ ⟨9,0,none⟩ zA7,World.cell?_alloc_lt _ _ ⟨9,0,none⟩ hlt];exact hg):p:=h
namespace Rf
theorem aiZ (t:Addr) (w:World):(ReflectliteValue.unpack (.iface 97 (.pointer (some t)))).run Tryz.prog w
 =.ok (.agg #[.pointer (some ⟨23,97,none⟩),.pointer (some ⟨w.heap.size,0,none⟩),.int .u64 150]) (w.alloc (.cells #[.pointer (some t)] 97)):=zAy
theorem au4 (a:Addr) (w:World):(ReflectliteValue.methodAny (ReflectliteValue.valueError "reflectlite.Value.Type" 0) (λt _ _ _=>ReflectliteType.toType t) #[.agg #[.pointer (some ⟨23,97,none⟩),.pointer (some a),.int .u64 150]]).run Tryz.prog w
 =.ok (.iface 170 (.agg #[.pointer (some ⟨23,97,none⟩)])) w:=zAy
theorem ahG (h:Value) (w:World):(Go.method 451 170 (.agg #[h]) "Kind").run Tryz.prog w=.ok (242,h) w:=zAy
theorem awK (w:World):((ReflectliteType.abiMethod λt=>(λa:Nat=>Value.int IntKind.u8 (a:Int))<$> Rtype.kind t) #[.pointer (some ⟨23,97,none⟩)]).run Tryz.prog w=.ok (.int .u8 22) w:=zAy
theorem a0R (w:World):((ReflectliteType.abiMethod λt=>(λa:Nat=>Value.int IntKind.u8 (a:Int))<$> Rtype.kind t) #[.pointer (some ⟨23,95,none⟩)]).run Tryz.prog w=.ok (.int .u8 22) w:=zAy
theorem rlm (z:Sem Value) (f:TypeId->Addr->Nat->Nat->Sem Value) (v:Value):
 ReflectliteValue.method z f #[v]=(do match <-ReflectliteValue.parts v with |none=>z|some (t,a,fl)=>f t a fl (fl % 32)):=rfl
theorem aqI (a:Addr) (w:World):(ReflectliteValue.parts (.agg #[.pointer (some ⟨23,97,none⟩),.pointer (some a),.int .u64 150])).run Tryz.prog w=.ok (some (97,a,150)) w:=zAy
theorem aqX (a p:Addr) (W:World) (ha:W.cell? a=some (.pointer (some p))):
 (ReflectliteValue.method (ReflectliteValue.valueError "reflectlite.Value.IsNil" 0) ReflectliteValue.isNil #[.agg #[.pointer (some ⟨23,97,none⟩),.pointer (some a),.int .u64 150]]).run Tryz.prog W=.ok (.bool false) W:=by
 rw [rlm]
 simp only [Sem.run_bind,aqI,Result.andThen]
 simp [ReflectliteValue.isNil,loadVar,isAgg,underlying,Tryz.underlying97,ha,Result.andThen]
theorem ahH (h:Value) (w:World):(Go.method 451 170 (.agg #[h]) "Elem").run Tryz.prog w=.ok (254,.agg #[h]) w:=zAy
theorem aaW (h:Value) (w:World):(Go.method 451 170 (.agg #[h]) "Implements").run Tryz.prog w=.ok (255,.agg #[h]) w:=zAy
theorem kN (h:Value) (w:World):(Go.method 451 170 (.agg #[h]) "AssignableTo").run Tryz.prog w=.ok (252,.agg #[h]) w:=zAy
theorem axA (w:World):(ReflectliteType.method ReflectliteType.elem #[.agg #[.pointer (some ⟨23,97,none⟩)]]).run Tryz.prog w=.ok (.iface 170 (.agg #[.pointer (some ⟨23,95,none⟩)])) w:=zAy
theorem af4 (w:World):(ReflectliteType.relation "Implements" ReflectliteType.implements_ #[.agg #[.pointer (some ⟨23,95,none⟩)],.iface 170 (.agg #[.pointer (some ⟨23,34,none⟩)])]).run Tryz.prog w=.ok (.bool true) w:=zAy
theorem ayF (v:Value) (w:World):(ReflectliteType.typeOf #[.iface 95 v]).run Tryz.prog w=.ok (.iface 170 (.agg #[.pointer (some ⟨23,95,none⟩)])) w:=zAy
theorem ayG (v:Value) (w:World):(ReflectliteType.typeOf #[.iface 242 v]).run Tryz.prog w=.ok (.iface 170 (.agg #[.pointer (some ⟨23,242,none⟩)])) w:=zAy
theorem anD (w:World):(ReflectliteType.relation "AssignableTo" ReflectliteType.assignableTo #[.agg #[.pointer (some ⟨23,95,none⟩)],.iface 170 (.agg #[.pointer (some ⟨23,95,none⟩)])]).run Tryz.prog w=.ok (.bool true) w:=zAy
theorem anE (w:World):(ReflectliteType.relation "AssignableTo" ReflectliteType.assignableTo #[.agg #[.pointer (some ⟨23,242,none⟩)],.iface 170 (.agg #[.pointer (some ⟨23,95,none⟩)])]).run Tryz.prog w=.ok (.bool false) w:=zAy
theorem au3 (e:Addr) (w:World):(ReflectliteValue.unpack (.iface 95 (.pointer (some e)))).run Tryz.prog w
 =.ok (.agg #[.pointer (some ⟨23,95,none⟩),.pointer (some ⟨w.heap.size,0,none⟩),.int .u64 150]) (w.alloc (.cells #[.pointer (some e)] 95)):=zAy
theorem axB (w:World):(Rtype.elem? 97).run Tryz.prog w=.ok (some 95) w:=zAy
theorem mkP (p:Addr) (w:World):(ReflectliteValue.mk 95 p ReflectliteValue.flagAddr).run Tryz.prog w=.ok (.agg #[.pointer (some ⟨23,95,none⟩),.pointer (some p),.int .u64 406]) w:=zAy
theorem az4 (a p:Addr) (W:World) (ha:W.cell? a=some (.pointer (some p))):
 (ReflectliteValue.method (ReflectliteValue.valueError "reflectlite.Value.Elem" 0) ReflectliteValue.elem #[.agg #[.pointer (some ⟨23,97,none⟩),.pointer (some a),.int .u64 150]]).run Tryz.prog W
  =.ok (.agg #[.pointer (some ⟨23,95,none⟩),.pointer (some p),.int .u64 406]) W:=by
 rw [rlm]
 simp only [Sem.run_bind,aqI,Result.andThen]
 simp [ReflectliteValue.elem,loadVar,isAgg,underlying,Tryz.underlying97,ha,Result.andThen,axB,mkP]
theorem rls (v x:Value):ReflectliteValue.set #[v,x]=(do
 let (some (dst,a,fl),some (src,b,_)):=(<-ReflectliteValue.parts v,<-ReflectliteValue.parts x)
  |unsupported (.noEntry "extern/(internal/reflectlite.Value).Set.zeroValue")
 if fl / ReflectliteValue.flagAddr % 2==0 then unsupported (.noEntry "extern/(internal/reflectlite.Value).Set.unaddressable")
 let val <-loadVar src b
 if <-Rtype.directlyAssignable dst src then storeVar dst a val
 else if <-Rtype.implements dst src then
  if (<-Rtype.kind src)==20 then
   match val with
   |.nilIface=>unsupported (.noEntry "extern/reflectlite: a nil value of one interface type handed on as a value of another")
   |_=>storeVar dst a val
  else storeVar dst a (.iface src val)
 else panicString ("reflectlite.Set: value of type "++(<-Rtype.spelt src)++ " is not assignable to type "++(<-Rtype.spelt dst))
 pure (.tuple #[])):=rfl
theorem ay9 (a:Addr) (w:World):(ReflectliteValue.parts (.agg #[.pointer (some ⟨23,95,none⟩),.pointer (some a),.int .u64 406])).run Tryz.prog w=.ok (some (95,a,406)) w:=zAy
theorem a06 (a:Addr) (w:World):(ReflectliteValue.parts (.agg #[.pointer (some ⟨23,95,none⟩),.pointer (some a),.int .u64 150])).run Tryz.prog w=.ok (some (95,a,150)) w:=zAy
theorem az5 (w:World):(Rtype.directlyAssignable 95 95).run Tryz.prog w=.ok true w:=zAy
theorem a3P (ta b e:Addr) (old:Value) (W:World) (hb:W.cell? b=some (.pointer (some e))) (ht:W.cell? ta=some old) (hf:W.frozen? ta=false):
 (ReflectliteValue.set #[.agg #[.pointer (some ⟨23,95,none⟩),.pointer (some ta),.int .u64 406],.agg #[.pointer (some ⟨23,95,none⟩),.pointer (some b),.int .u64 150]]).run Tryz.prog W
  =.ok (.tuple #[]) (W.setCell ta (.pointer (some e))):=by
 rw [rls]
 simp only [Sem.run_bind,ay9,a06,Result.andThen]
 simp [ReflectliteValue.flagAddr,loadVar,isAgg,underlying,Tryz.underlying95,hb,Result.andThen,az5,storeVar,Value.cells,storeCells,Addr.add]
 rw [run_store Tryz.prog W ta _ _ zB8]
 simp [ht,hf]
theorem a2M (v:Value) (xT:TypeId) (w:World):(Instr.typeAssert (.iface 242 v) xT 174 true).run Tryz.prog w=.ok (.tuple #[.nilIface,.bool false]) w:=run_typeAssert_lacksB Tryz.underlying174 zAy zAy v xT w
theorem as0 (v:Value) (xT:TypeId) (w:World):(Instr.typeAssert (.iface 242 v) xT 177 true).run Tryz.prog w=.ok (.tuple #[.nilIface,.bool false]) w:=run_typeAssert_lacksB Tryz.underlying177 zAy zAy v xT w
theorem aoV (v:Value) (xT:TypeId) (w:World):(Instr.typeAssert (.iface 242 v) xT 179 true).run Tryz.prog w=.ok (.tuple #[.nilIface,.bool false]) w:=run_typeAssert_lacksB Tryz.underlying179 zAy zAy v xT w
end Rf
open Rf
set_option maxHeartbeats 4000000 in
theorem ax6 (e:Addr) (t:Nat) (old:Value) (w:World) (hg:w.cell? ⟨9,0,none⟩=some (.iface 170 (.agg #[.pointer (some ⟨23,34,none⟩)]))) (ht:Blk w t 95 #[old]):
 Calls Tryz.prog 42 #[.iface 95 (.pointer (some e)),.iface 97 (.pointer (some ⟨t,0,none⟩))] w λev w'=>ev=.returned (.bool true)/\Blk w' t 95 #[.pointer (some e)]/\∀B,B<=t->Below B w w':=by
 have ht0:w.cell? ⟨t,0,none⟩=some old:=ht.cell 0
 have hf0:=ht.frozen 0
 have h6:=@zAk Tryz.prog 74 _ (λargs=>ReflectliteValue.unpack (args.getD 0 (.tuple #[]))) Tryz.func74 zAy zAy zAy zAy
 have h7:=@zAk Tryz.prog 75 _ (ReflectliteValue.methodAny (ReflectliteValue.valueError "reflectlite.Value.Type" 0) (λt _ _ _=>ReflectliteType.toType t)) Tryz.func75 zAy zAy zAy zAy
 have h8:=@zAk Tryz.prog 76 _ (ReflectliteValue.method (ReflectliteValue.valueError "reflectlite.Value.IsNil" 0) ReflectliteValue.isNil) Tryz.func76 zAy zAy zAy zAy
 have h27:=@zAk Tryz.prog 242 _ (ReflectliteType.abiMethod λt=>do pure (.int .u8 (<-Rtype.kind t))) Tryz.func242 zAy zAy zAy zAy
 have h37:=@zAk Tryz.prog 254 _ (ReflectliteType.method ReflectliteType.elem) Tryz.func254 zAy zAy zAy zAy
 have h38:=@zAk Tryz.prog 255 _ (ReflectliteType.relation "Implements" ReflectliteType.implements_) Tryz.func255 zAy zAy zAy zAy
 have h10:=@zAk Tryz.prog 78 _ ReflectliteType.typeOf Tryz.func78 zAy zAy zAy zAy
 have h35:=@zAk Tryz.prog 252 _ (ReflectliteType.relation "AssignableTo" ReflectliteType.assignableTo) Tryz.func252 zAy zAy zAy zAy
 have h11:=@zAk Tryz.prog 104 _ (ReflectliteValue.method (ReflectliteValue.valueError "reflectlite.Value.Elem" 0) ReflectliteValue.elem) Tryz.func104 zAy zAy zAy zAy
 have h12:=@zAk Tryz.prog 105 _ ReflectliteValue.set Tryz.func105 zAy zAy zAy zAy
 have tO:=ayF
 have mA:=kN
 have a25:=anD
 have v25:=au3
 have f6:=aiZ
 have f7:=au4
 have mK:=ahG
 have mE:=ahH
 have mI:=aaW
 have k27:=awK
 have k25:=a0R
 have e27:=axA
 have i25:=af4
 have n8:=aqX ⟨w.heap.size,0,none⟩ ⟨t,0,none⟩ ((w.alloc (.cells #[.pointer (some ⟨t,0,none⟩)] 97)).alloc (.cells #[.pointer (some ⟨23,97,none⟩),.pointer (some ⟨w.heap.size,0,none⟩),.int .u64 150] 133)) zA1
 have hlt:9<w.heap.size:=zAU w _ hg
 have hg2:((w.alloc (.cells #[.pointer (some ⟨t,0,none⟩)] 97)).alloc (.cells #[.pointer (some ⟨23,97,none⟩),.pointer (some ⟨w.heap.size,0,none⟩),.int .u64 150] 133)).cell? ⟨9,0,none⟩=some (.iface 170 (.agg #[.pointer (some ⟨23,34,none⟩)])):=zFM
 have htl:t<w.heap.size:=ht.lt
 have el:=az4 ⟨w.heap.size,0,none⟩ ⟨t,0,none⟩ (((w.alloc (.cells #[.pointer (some ⟨t,0,none⟩)] 97)).alloc (.cells #[.pointer (some ⟨23,97,none⟩),.pointer (some ⟨w.heap.size,0,none⟩),.int .u64 150] 133)).alloc (.cells #[.pointer (some ⟨23,97,none⟩),.pointer (some ⟨w.heap.size,0,none⟩),.int .u64 150] 133)) (by rw [World.cell?_alloc_lt _ _ ⟨w.heap.size,0,none⟩ zA7];simp)
 have st:=a3P ⟨t,0,none⟩ ⟨w.heap.size+1+1+1,0,none⟩ e old ((((w.alloc (.cells #[.pointer (some ⟨t,0,none⟩)] 97)).alloc (.cells #[.pointer (some ⟨23,97,none⟩),.pointer (some ⟨w.heap.size,0,none⟩),.int .u64 150] 133)).alloc (.cells #[.pointer (some ⟨23,97,none⟩),.pointer (some ⟨w.heap.size,0,none⟩),.int .u64 150] 133)).alloc (.cells #[.pointer (some e)] 95))
  (by rw [World.cell?_alloc_at _ _ _ _ zA1];rfl)
  ((((ht.alloc _).alloc _).alloc _).alloc _ |>.cell 0)
  ((((ht.alloc _).alloc _).alloc _).alloc _ |>.frozen 0)
 have HB:=zM (∀(o1 o2 o3 o4:Obj) (u:Value),Blk (((((w.alloc o1).alloc o2).alloc o3).alloc o4).setCell ⟨t,0,none⟩ u) t 95 #[u]) (λo1 o2 o3 o4 u=>(((((ht.alloc o1).alloc o2).alloc o3).alloc o4).qi 0 u))
 have HL:=zM (∀(o1 o2 o3 o4:Obj) (u:Value) B,B<=t->Below B w (((((w.alloc o1).alloc o2).alloc o3).alloc o4).setCell ⟨t,0,none⟩ u)) (λo1 o2 o3 o4 u B hB=>(((((zAA B w).alloc zO o1).alloc zA7 o2).alloc zA7 o3).alloc zA7 o4).setCell (p:=⟨t,0,none⟩) hB u)
 clear ht
 go_enter Tryz.func42,Tryz.ntmps42
 go_wp2
 refine wp_loop_rounds 1 ?_
 rw [rounds_succ]
 go_wp2
 go_ret
 exact ⟨rfl,HB.o _ _ _ _ _,HL.o _ _ _ _ _⟩
set_option maxHeartbeats 4000000 in
theorem a0F (e:Addr) (t:Nat) (w:World) (hg:w.cell? ⟨9,0,none⟩=some (.iface 170 (.agg #[.pointer (some ⟨23,34,none⟩)]))):
 Calls Tryz.prog 42 #[.iface 242 (.pointer (some e)),.iface 97 (.pointer (some ⟨t,0,none⟩))] w λev w'=>ev=.returned (.bool false)/\Below w.heap.size w w':=by
 have h6:=@zAk Tryz.prog 74 _ (λargs=>ReflectliteValue.unpack (args.getD 0 (.tuple #[]))) Tryz.func74 zAy zAy zAy zAy
 have h7:=@zAk Tryz.prog 75 _ (ReflectliteValue.methodAny (ReflectliteValue.valueError "reflectlite.Value.Type" 0) (λt _ _ _=>ReflectliteType.toType t)) Tryz.func75 zAy zAy zAy zAy
 have h8:=@zAk Tryz.prog 76 _ (ReflectliteValue.method (ReflectliteValue.valueError "reflectlite.Value.IsNil" 0) ReflectliteValue.isNil) Tryz.func76 zAy zAy zAy zAy
 have h27:=@zAk Tryz.prog 242 _ (ReflectliteType.abiMethod λt=>do pure (.int .u8 (<-Rtype.kind t))) Tryz.func242 zAy zAy zAy zAy
 have h37:=@zAk Tryz.prog 254 _ (ReflectliteType.method ReflectliteType.elem) Tryz.func254 zAy zAy zAy zAy
 have h38:=@zAk Tryz.prog 255 _ (ReflectliteType.relation "Implements" ReflectliteType.implements_) Tryz.func255 zAy zAy zAy zAy
 have h10:=@zAk Tryz.prog 78 _ ReflectliteType.typeOf Tryz.func78 zAy zAy zAy zAy
 have h35:=@zAk Tryz.prog 252 _ (ReflectliteType.relation "AssignableTo" ReflectliteType.assignableTo) Tryz.func252 zAy zAy zAy zAy
 have tO:=ayG
 have mA:=kN
 have a25:=anE
 have f6:=aiZ
 have f7:=au4
 have mK:=ahG
 have mE:=ahH
 have mI:=aaW
 have k27:=awK
 have k25:=a0R
 have e27:=axA
 have i25:=af4
 have nA:=a2M
 have nU:=as0
 have nV:=aoV
 have n8:=aqX ⟨w.heap.size,0,none⟩ ⟨t,0,none⟩ ((w.alloc (.cells #[.pointer (some ⟨t,0,none⟩)] 97)).alloc (.cells #[.pointer (some ⟨23,97,none⟩),.pointer (some ⟨w.heap.size,0,none⟩),.int .u64 150] 133)) zA1
 have hlt:9<w.heap.size:=zAU w _ hg
 have hg2:((w.alloc (.cells #[.pointer (some ⟨t,0,none⟩)] 97)).alloc (.cells #[.pointer (some ⟨23,97,none⟩),.pointer (some ⟨w.heap.size,0,none⟩),.int .u64 150] 133)).cell? ⟨9,0,none⟩=some (.iface 170 (.agg #[.pointer (some ⟨23,34,none⟩)])):=zFM
 have HL:=zM (∀(o1 o2 o3:Obj),Below w.heap.size w (((w.alloc o1).alloc o2).alloc o3)) (λo1 o2 o3=>(((zAA _ w).alloc zO o1).alloc zA1 o2).alloc zA7 o3)
 go_enter Tryz.func42,Tryz.ntmps42
 go_wp2
 refine wp_loop_rounds 1 ?_
 rw [rounds_succ]
 go_wp2
 go_ret
 exact ⟨rfl,HL.o _ _ _⟩
open Go.RowKit
structure anI (w:World) (B:Nat) (S:Nat->Addr):Prop where
 s:Snt w B S [1,2,3,4,5,6,7,8,9]
 blk:∀k,1<=k->k<=9->∃cs t,w.heap[(S k).block]?=some (.cells cs t (0,0))
 ne:∀j k,1<=j->j<=9->1<=k->k<=9->j≠k->S j≠S k
 gB:9<B
 g:w.cell? ⟨9,0,none⟩=some (.iface 170 (.agg #[.pointer (some ⟨23,34,none⟩)]))
theorem anI.below {w w':World} {B:Nat} {S:Nat->Addr} (h:anI w B S) (hb:Below B w w'):anI w' B S where
 s:=h.s.below hb
 blk:=λk h1 h9=>by
  obtain ⟨cs,t,e⟩:=h.blk k h1 h9
  exact ⟨cs,t,(hb.block _ (h.s k zA7).2.1).trans e⟩
 ne:=h.ne
 gB:=h.gB
 g:=(hb.cell h.gB).trans h.g
theorem anI.more {w:World} {B B':Nat} {S:Nat->Addr} (h:anI w B S) (hB:B<=B'):anI w B' S:=⟨h.s.more hB,h.blk,h.ne,zAG h.gB hB,h.g⟩
end Go.Proofs.YtoomffajodheaaaGreatDoor
