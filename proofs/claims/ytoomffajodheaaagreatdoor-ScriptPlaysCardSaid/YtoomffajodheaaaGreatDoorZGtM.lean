/- The proof of ScriptPlays, part GtM. Conditions: in each statement. -/
import Derived.Test.YtoomffajodheaaaGreatDoorZLkM
import Derived.Test.YtoomffajodheaaaGreatDoorZGateP
import Derived.Test.YtoomffajodheaaaGreatDoorZIsM
import Derived.Test.YtoomffajodheaaaGreatDoorZShB
set_option linter.all false
namespace Go.Proofs.YtoomffajodheaaaGreatDoor
open Go.RowKit
set_option maxRecDepth 100000
theorem zBU{p:Prop}(h:p:=by rw [hV];exact Blk.new _ _ _):p:=h
theorem zBx{p:Prop}(h:p:=by rw [hW];exact (zAA _ _).alloc (zD _) _):p:=h
theorem zBy{p:Prop}(h:p:=by rw [hV];exact (zAA _ _).alloc (zD _) _):p:=h
theorem zCb{p:Prop}(h:p:=by rw [<-HNU.o];exact zd hlt):p:=h
theorem zCr{p:Prop}(h:p:=by rcases HCL.o with e|e;exact .inl e;exact .inr (crvErr_ok e).2.2.1):p:=h
theorem zCx{p:Prop}(h:p:=by rw [hW,hgb];exact Blk.new _ _ _):p:=h
theorem zDF{p:Prop}(h:p:=by
 go_wp2_with fail
 go_loopw [68] (λiv wx=>∃(k:Nat) (a':Nat->Int),k<=nu.length/\iv=.int .i64 k/\IA wx g p.length a'/\atS a nu OS=atS a' (nu.drop k) (OS.drop k)/\qU g wz wx) (λiv _=>nu.length - (intOf iv).toNat)
 case atStart=>exact ⟨0,a,zAK _,rfl,IZ.o,rfl,qU.refl _ _⟩
 case round=>
  obtain ⟨k,a',hk,rfl,hia,hat,hon⟩:=hrel
  have HIA:=zL hia
  have HAT:=zL hat
  have HON:=zL hon
  clear hia hat hon
  by_cases hlt:k<nu.length
  ·have hltO:k<OS.length:=by rw [HL.o];exact hlt
   have rO:=zY RO.o (λb hb=>HON.o.blk b (λe=>by have:=zH RO.o b hb;omega))
   have rN:=zY RN.o (λb hb=>HON.o.blk b (λe=>by have:=zH RN.o b hb;omega))
   obtain ⟨b2,hA2,_,_,y0⟩:=jd rO zO Pk.qw hltO
   obtain ⟨b3,hA3,_,_,y1⟩:=jd rN zO xP hlt
   have z0:=y0 2 _ rfl
   have z1:=y1 0 _ rfl
   simp only [Nat.mul_one,Nat.add_zero] at z1
   subst hA2
   subst hA3
   have hst:=aeH (a:=a) hlt hltO a'
   have hmm:nu[k]∈numsK p f p.length:=zCb
   have hm:nu[k]<p.length:=(uz.1 hmm).1
   obtain ⟨m,hme⟩:∃m,m=nu[k]:=⟨_,rfl⟩
   obtain ⟨t,hte⟩:∃t,t=OS[k].a:=⟨_,rfl⟩
   rw [<-hme,<-hte] at hst
   rw [<-hme] at z1 hm
   rw [<-hte] at z0
   have c0:=HIA.o.cell (k:=m) hm
   have f0:=HIA.o.frozen m
   have HST:=zL hst
   have q1:(0:Int)<=(k:Int):=zO
   have q2:(k:Int)<(nu.length:Int):=zO
   have q3:(k:Int)<(OS.length:Int):=zO
   have q4:(0:Int)<=(m:Int):=zO
   have q5:(m:Int)<(p.length:Int):=zO
   have hia2:IA (wr.setCell ⟨g,m,none⟩ (.int .i64 t)) g p.length (upA a' m t):=HIA.o.qi (k:=m) (.int .i64 t) λj _=>by
    show Value.int .i64 (upA a' m t j)=if j=m then .int .i64 t else .int .i64 (a' j)
    unfold upA
    split<;>rfl
   have HIA2:=zL hia2
   clear hst hme hte hia2 y0 y1 rO rN hmm
   go_wp2_with fail
   go_roundw
   case rel=>exact ⟨k+1,upA a' m t,hlt,by go_num,HIA2.o,by rw [HAT.o];exact HST.o,HON.o.qi m _⟩
   case measure=>simp [intOf];omega
  ·have hfin:atS a nu OS=a':=by
    rw [HAT.o,zAO zO]
    cases OS.drop k<;>rfl
   have HF:=zL hfin
   clear hfin
   go_wp2_with fail
   go_ret
   unfold agO
   rw [HFB.o,zp rfl,zp rfl]
   refine ⟨_,rfl,.nil,?_,(But.of_below KZ.o).trans (But.agI HON.o)⟩
   rw [HSH.o,<-HNU.o,HF.o]
   exact HIA.o):p:=h
theorem zEi{p:Prop}(h:p:=by
 have h9:=(shapeGo_bad ow (l.map newB) 0 0).resolve_left hbad
 have e:(shapeGo ow (l.map newB) 0 0).2=(m:Int):=hm
 have e2:=HLEN.o
 omega):p:=h
theorem zEo{p:Prop}(h:p:=by
 go_roundw
 case rel=>exact ⟨k+1,A5,c5,A6,c6,hlt,by rw [HO.o],by rw [HN.o],by go_num,by rw [HO.o,HN.o];exact t4,k4⟩
 case measure=>simp [intOf];omega):p:=h
theorem zEw{p:Prop}(h:p:=by
 rcases shapeGo_bad ow (l.map newB) 0 0 with h9|h9
 ·exact zAv h9 hbad
 ·exact ⟨(zG l ow).2.toNat,by unfold zG;omega⟩):p:=h
theorem zE1{p:Prop}(h:p:=by
 have:=(anW (l:=l) (f:=f) HPK.o zCr (by rw [HSR.o];exact hbad)).len
 rw [HSH.o,<-HNU.o] at this
 exact this):p:=h
def yS:ByteArray:=⟨#[102,105,102,111]⟩
def vK:ByteArray:=⟨#[114,97,110,107]⟩
def aaC:ByteArray:=⟨#[100,117,101]⟩
def wT:ByteArray:=⟨#[114,111,117,110,100]⟩
def uN:ByteArray:=⟨#[102,97,105,114]⟩
def qg (s:ByteArray):Nat:=if s=yS then 0 else if s=vK then 1 else if s=aaC then 2 else if s=wT then 3 else if s=uN then 4 else 5
theorem amH (s:ByteArray):qg s<=5:=by unfold qg;repeat (first |omega|split)
def atX:Nat->Nat
 |0=>145
 |1=>146
 |2=>147
 |3=>148
 |_=>149
def fnV (n:Nat):Value:=.func (.func (atX n)) #[] #[]
def acO:Array MapEntry:=#[⟨.string yS,fnV 0,0⟩,⟨.string vK,fnV 1,1⟩,⟨.string aaC,fnV 2,2⟩,⟨.string wT,fnV 3,3⟩,⟨.string uN,fnV 4,4⟩]
def ac1:Obj:=.map acO 5
theorem avL (w:World) (o o':Obj):({(w.alloc o) with heap:=(w.alloc o).heap.setIfInBounds w.heap.size o'}:World)=w.alloc o':=by
 unfold World.alloc
 simp only [World.mk.injEq,and_true,true_and]
 refine Array.ext_getElem? λi=>?_
 rw [zAq,Array.getElem?_push,Array.getElem?_push]
 by_cases hi:w.heap.size=i
 ·subst hi
  simp
 ·rw [z6 hi,z6 (λe=>hi e.symm),z6 (λe=>hi e.symm)]
theorem ab0 (w:World) (es:Array MapEntry) (clock:Nat) (K:ByteArray) (V:Value) (hf:Instr.findNow .string (.string K) es.toList 0=some none):
 (Instr.mapUpdate 207 (.map (some w.heap.size)) (.string K) V).run Tryz.prog (w.alloc (.map es clock))=.ok () (w.alloc (.map (es.push ⟨.string K,V,clock⟩) (clock+1))):=by
 have hb:=heap_alloc_new w (.map es clock)
 have hc:(Instr.checkKey false 10000 9 (.string K)).run Tryz.prog (w.alloc (.map es clock))=.ok () (w.alloc (.map es clock)):=MapKept.run_checkKey (d:=.string) Tryz.underlying9 (by trivial) false 9999
 have hk:(Instr.findKey 9 (.string K) es.toList).run Tryz.prog (w.alloc (.map es clock))=.ok none (w.alloc (.map es clock)):=MapKept.run_findKey (d:=.string) Tryz.underlying9 hf
 simp only [Instr.mapUpdate,Sem.run_bind,run_underlying Tryz.underlying207,MapKept.run_getObj_map hb,hc,hk,MapKept.run_setObj_map _ hb,Result.andThen,avL]
set_option maxHeartbeats 1000000 in
theorem ae4 (w:World):Calls Tryz.prog 122 #[] w λe w'=>e=.returned (.map (some w.heap.size))/\w'=w.alloc ac1:=by
 have hmm:=@run_makeMap Tryz.prog
 have i1:(Instr.mapUpdate 207 (.map (some w.heap.size)) (.string ⟨#[102,105,102,111]⟩) (.func (.func 145) #[] #[])).run Tryz.prog (w.alloc (.map #[] 0))=.ok () (w.alloc (.map #[⟨.string yS,fnV 0,0⟩] 1)):=ab0 w #[] 0 _ _ rfl
 have i2:(Instr.mapUpdate 207 (.map (some w.heap.size)) (.string ⟨#[114,97,110,107]⟩) (.func (.func 146) #[] #[])).run Tryz.prog (w.alloc (.map #[⟨.string yS,fnV 0,0⟩] 1))=.ok () (w.alloc (.map #[⟨.string yS,fnV 0,0⟩,⟨.string vK,fnV 1,1⟩] 2)):=ab0 w _ 1 _ _ zK
 have i3:(Instr.mapUpdate 207 (.map (some w.heap.size)) (.string ⟨#[100,117,101]⟩) (.func (.func 147) #[] #[])).run Tryz.prog (w.alloc (.map #[⟨.string yS,fnV 0,0⟩,⟨.string vK,fnV 1,1⟩] 2))=.ok () (w.alloc (.map #[⟨.string yS,fnV 0,0⟩,⟨.string vK,fnV 1,1⟩,⟨.string aaC,fnV 2,2⟩] 3)):=ab0 w _ 2 _ _ zK
 have i4:(Instr.mapUpdate 207 (.map (some w.heap.size)) (.string ⟨#[114,111,117,110,100]⟩) (.func (.func 148) #[] #[])).run Tryz.prog (w.alloc (.map #[⟨.string yS,fnV 0,0⟩,⟨.string vK,fnV 1,1⟩,⟨.string aaC,fnV 2,2⟩] 3))=.ok () (w.alloc (.map #[⟨.string yS,fnV 0,0⟩,⟨.string vK,fnV 1,1⟩,⟨.string aaC,fnV 2,2⟩,⟨.string wT,fnV 3,3⟩] 4)):=ab0 w _ 3 _ _ zK
 have i5:(Instr.mapUpdate 207 (.map (some w.heap.size)) (.string ⟨#[102,97,105,114]⟩) (.func (.func 149) #[] #[])).run Tryz.prog (w.alloc (.map #[⟨.string yS,fnV 0,0⟩,⟨.string vK,fnV 1,1⟩,⟨.string aaC,fnV 2,2⟩,⟨.string wT,fnV 3,3⟩] 4))=.ok () (w.alloc ac1):=ab0 w _ 4 _ _ zK
 go_enter Tryz.func122,Tryz.ntmps122
 go_wp2_with fail
 go_ret
 exact ⟨rfl,rfl⟩
theorem av2 (K:ByteArray) (h:qg K<5):∃i,Instr.findNow .string (.string K) acO.toList 0=some (some (i,fnV (qg K))):=by
 by_cases h0:K=yS
 ·subst h0;exact ⟨0,by kernel_rfl⟩
 by_cases h1:K=vK
 ·subst h1;exact ⟨1,by kernel_rfl⟩
 by_cases h2:K=aaC
 ·subst h2;exact ⟨2,by kernel_rfl⟩
 by_cases h3:K=wT
 ·subst h3;exact ⟨3,by kernel_rfl⟩
 by_cases h4:K=uN
 ·subst h4;exact ⟨4,by kernel_rfl⟩
 exfalso
 unfold qg at h
 rw [z6 h0,z6 h1,z6 h2,z6 h3,z6 h4] at h
 omega
theorem anC {a b:ByteArray} (h:a≠b):(a==b)=false:=by
 cases e:(a==b)
 ·rfl
 ·exact zAv ((MapKept.bytes_beq a b).1 e) h
theorem av1 (K:ByteArray) (h:qg K=5):Instr.findNow .string (.string K) acO.toList 0=some none:=by
 have h0:K≠yS:=λe=>by subst e;revert h;decide
 have h1:K≠vK:=λe=>by subst e;revert h;decide
 have h2:K≠aaC:=λe=>by subst e;revert h;decide
 have h3:K≠wT:=λe=>by subst e;revert h;decide
 have h4:K≠uN:=λe=>by subst e;revert h;decide
 simp [acO,Instr.findNow,Instr.sameNow,anC h0,anC h1,anC h2,anC h3,anC h4]
theorem ajJ (W:World) (b:Nat) (K:ByteArray) (c:Bool) (hb:W.heap[b]?=some ac1) (h:qg K<5):(Instr.lookup 207 (.map (some b)) (.string K) c).run Tryz.prog W=.ok (if c then .tuple #[fnV (qg K),.bool true] else fnV (qg K)) W:=by
 obtain ⟨i,hi⟩:=av2 K h
 have hc:(Instr.checkKey (acO.isEmpty) 10000 9 (.string K)).run Tryz.prog W=.ok () W:=MapKept.run_checkKey (d:=.string) Tryz.underlying9 (by trivial) _ 9999
 have hk:(Instr.findKey 9 (.string K) acO.toList).run Tryz.prog W=.ok (some (i,fnV (qg K))) W:=MapKept.run_findKey (d:=.string) Tryz.underlying9 hi
 simp only [Instr.lookup,Sem.run_bind,Sem.run_pure,run_underlying Tryz.underlying207,MapKept.run_getObj_map (show W.heap[b]?=some (.map acO 5) from hb),hc,hk,Result.andThen]
theorem azI (W:World) (b:Nat) (K:ByteArray) (c:Bool) (hb:W.heap[b]?=some ac1) (h:qg K=5) (z:Value) (hz:(zeroValue 205).run Tryz.prog W=.ok z W):(Instr.lookup 207 (.map (some b)) (.string K) c).run Tryz.prog W=.ok (if c then .tuple #[z,.bool false] else z) W:=by
 have hc:(Instr.checkKey (acO.isEmpty) 10000 9 (.string K)).run Tryz.prog W=.ok () W:=MapKept.run_checkKey (d:=.string) Tryz.underlying9 (by trivial) _ 9999
 have hk:(Instr.findKey 9 (.string K) acO.toList).run Tryz.prog W=.ok none W:=MapKept.run_findKey (d:=.string) Tryz.underlying9 (av1 K h)
 simp only [Instr.lookup,Sem.run_bind,Sem.run_pure,run_underlying Tryz.underlying207,MapKept.run_getObj_map (show W.heap[b]?=some (.map acO 5) from hb),hc,hk,hz,Result.andThen]
structure GS (w:World) (B:Nat) (S:Nat->Addr):Prop where
 s:Snt w B S [2,3,4,5,9]
 gB:9<B
 g:w.cell? ⟨9,0,none⟩=some (.iface 170 (.agg #[.pointer (some ⟨23,34,none⟩)]))
theorem GS.below {w w':World} {B:Nat} {S:Nat->Addr} (h:GS w B S) (hb:Below B w w'):GS w' B S:=⟨h.s.below hb,h.gB,(hb.cell (p:=⟨9,0,none⟩) h.gB).trans h.g⟩
theorem GS.more {w:World} {B B':Nat} {S:Nat->Addr} (h:GS w B S) (hB:B<=B'):GS w B' S:=⟨h.s.more hB,zAG h.gB hB,h.g⟩
theorem anI.gs {w:World} {B:Nat} {S:Nat->Addr} (h:anI w B S):GS w B S:=⟨h.s.sub zA1,h.gB,h.g⟩
structure But (g:Nat) (w w':World):Prop where
 os:w'.os=w.os
 tape:w'.tape=w.tape
 output:w'.output=w.output
 size:w.heap.size<=w'.heap.size
 blk:∀k,k<w.heap.size->k≠g->w'.heap[k]?=w.heap[k]?
section
variable {g:Nat} {w w' w2:World}
theorem But.refl (g:Nat) (w:World):But g w w:=⟨rfl,rfl,rfl,zD _,λ_ _ _=>rfl⟩
theorem But.trans (h:But g w w') (k:But g w' w2):But g w w2:=⟨k.os.trans h.os,k.tape.trans h.tape,k.output.trans h.output,zAB h.size k.size,λi hi hg=>(k.blk i (zAG hi h.size) hg).trans (h.blk i hi hg)⟩
theorem But.of_below (h:Below w.heap.size w w'):But g w w':=⟨h.os,h.tape,h.output,h.size,λk hk _=>h.block k hk⟩
theorem But.below {B:Nat} (h:But g w w') (hg:B<=g) (hB:B<=w.heap.size):Below B w w':=⟨h.os,h.tape,h.output,h.size,λk hk=>h.blk k zO zO⟩
theorem But.qi (h:But g w w') (i:Nat) (u:Value):But g w (w'.setCell ⟨g,i,none⟩ u):=⟨h.os,h.tape,h.output,by rw [zf];exact h.size,λk hk hg=>(zAF w' ⟨g,i,none⟩ u k hg).trans (h.blk k hk hg)⟩
theorem But.drewN (h:But g w w') (m:Nat):But g w (w'.drewN m):=⟨h.os,h.tape,h.output,h.size,h.blk⟩
theorem But.agI (h:qU g w w'):But g w w':=⟨h.bel.os,h.bel.tape,h.bel.output,h.bel.size,λk _ hg=>h.blk k hg⟩
theorem Blk.but {b:Nat} {t:TypeId} {cs:Array Value} (h:Blk w b t cs) (hb:But g w w') (hg:b≠g):Blk w' b t cs:=h.same (hb.blk b h.lt hg)
theorem Arw.but {b n:Nat} {T:TypeId} {d:Nat->Value} (h:Arw w b T n d) (hb:But g w w') (hg:b≠g):Arw w' b T n d:=h.same (hb.blk b h.lt hg)
end
def abF (w:World) (B:Nat) (A:Option Addr) (cs:List (List Ln)):Prop:=∀i (h:i<cs.length),∃b o a c,A=some ⟨b,o,none⟩/\b<B/\w.cell? ⟨b,o+i,none⟩=some (.slice a cs[i].length c)/\RdL w B a cs[i]
section
variable {w w':World} {B B':Nat} {A:Option Addr} {cs:List (List Ln)}
theorem abF.below (h:abF w B A cs) (hb:Below B w w'):abF w' B A cs:=λi hi=>by
 obtain ⟨b,o,a,c,e,h1,h2,h3⟩:=h i hi
 exact ⟨b,o,a,c,e,h1,(hb.cell (p:=⟨b,o+i,none⟩) h1).trans h2,h3.below hb⟩
theorem abF.more (h:abF w B A cs) (hB:B<=B'):abF w B' A cs:=λi hi=>by
 obtain ⟨b,o,a,c,e,h1,h2,h3⟩:=h i hi
 exact ⟨b,o,a,c,e,by omega,h2,h3.more hB⟩
end
def yR:List (List Ln)->Nat->Nat × Int
 |[],_=>(0,-1)
 |l::r,i=>if l.length=0 then yR r (i+1) else if (qh l).1≠0 then ((qh l).1,(i:Int)) else yR r (i+1)
theorem axN {cs:List (List Ln)} {i:Nat} (h:(yR cs i).1=0):adB cs/\yR cs i=(0,-1):=by
 induction cs generalizing i with
 |nil=>exact ⟨λl hl=>(by cases hl),rfl⟩
 |cons l r ih=>
  unfold yR at h ⊢
  by_cases h0:l.length=0
  ·rw [zp h0] at h ⊢
   obtain ⟨i1,i2⟩:=ih h
   refine ⟨λx hx=>?_,i2⟩
   rcases zAM.1 hx with rfl|hx
   ·exact .inl (List.length_eq_zero_iff.1 h0)
   ·exact i1 x hx
  ·rw [z6 h0] at h ⊢
   by_cases h1:(qh l).1≠0
   ·rw [zp h1] at h
    exact zAv h h1
   ·rw [z6 h1] at h ⊢
    obtain ⟨i1,i2⟩:=ih h
    refine ⟨λx hx=>?_,i2⟩
    rcases zAM.1 hx with rfl|hx
    ·exact .inr zO
    ·exact i1 x hx
def qF (cs:List (List Ln)) (n:Nat) (per:Int) (ns:List Int):Nat × Int:=
 if cs.length=8 then (if (yR cs 0).1≠0 then yR cs 0 else qE n [] per ns) else (3,-1)
theorem xL {cs:List (List Ln)} {n:Nat} {per:Int} {ns:List Int} (h:(qF cs n per ns).1=0):cs.length=8/\adB cs/\(qE n [] per ns).1=0/\qF cs n per ns=(0,-1):=by
 unfold qF at h ⊢
 by_cases h8:cs.length=8
 ·rw [zp h8] at h ⊢
  by_cases h1:(yR cs 0).1≠0
  ·rw [zp h1] at h;exact zAv h h1
  ·rw [z6 h1] at h ⊢
   exact ⟨h8,(axN (i:=0) zO).1,h,Prod.ext h al5⟩
 ·rw [z6 h8] at h;simp at h
set_option maxHeartbeats 1000000 in
theorem af6 (v:Value) (k:Nat) (a:Int) (S:Nat->Addr) (w:World) (B:Nat) (hB:B<=w.heap.size) (h:GS w B S) (hv:Er w w.heap.size S v k a) (hk0:k≠0):
 Calls Tryz.prog 24 #[v] w λe w'=>e=.returned (sv S k)/\1<=k/\k<=9/\Below w.heap.size w w':=by
 cases hv with
 |nil=>omega
 |bare k h1 h9=>
  show Calls Tryz.prog _ #[.iface 242 (.pointer (some (S k)))] w _
  have HE:=zM (sv S k=.iface 242 (.pointer (some (S k)))) rfl
  go_enter Tryz.func24,Tryz.ntmps24
  go_wp2_with fail
  refine (a0F (S k) w.heap.size _ ((h.below ((zAA _ _).alloc hB _)).g)).mono ?_
  rintro e w1 ⟨rfl,k1⟩
  have kk:Below w.heap.size w w1:=((zAA _ _).alloc (zD _) _).trans (k1.mono zA1)
  clear h
  go_wp2_with fail
  go_ret
  rw [HE.o]
  exact ⟨rfl,h1,h9,kk⟩
 |fault k h1 h9 b a hb hk=>
  go_enter Tryz.func24,Tryz.ntmps24
  go_wp2_with fail
  refine (ax6 ⟨b,0,none⟩ w.heap.size (.pointer none) _ ((h.below ((zAA _ _).alloc hB _)).g) (Blk.new _ _ _)).mono ?_
  rintro e w1 ⟨rfl,hb4,k1⟩
  have k1':=k1 w.heap.size (zD _)
  have kk:Below w.heap.size w w1:=((zAA _ _).alloc (zD _) _).trans k1'
  have p1:w1.cell? ⟨w.heap.size,0,none⟩=some (.pointer (some ⟨b,0,none⟩)):=hb4.cell 0
  have hf:Blk w b 99 #[.int .i64 a,sv S k]:=hk
  have p2:w1.cell? ⟨b,1,none⟩=some (sv S k):=(hf.below kk hf.lt).cell 1
  clear hb4 k1 k1' hf hk h
  simp only [sv] at p2
  go_wp2_with fail
  go_ret
  exact ⟨rfl,h1,h9,kk⟩
set_option maxHeartbeats 1000000 in
theorem aeY (v:Value) (k:Nat) (a:Int) (S:Nat->Addr) (w:World) (B:Nat) (hB:B<=w.heap.size) (h:GS w B S) (hv:Er w w.heap.size S v k a) (ha:0<=a):
 Calls Tryz.prog 125 #[v] w λe w'=>e=.returned (.int .i64 a)/\Below w.heap.size w w':=by
 cases hv with
 |nil=>omega
 |bare k h1 h9=>omega
 |fault k h1 h9 b a hb hk=>
  go_enter Tryz.func125,Tryz.ntmps125
  go_wp2_with fail
  refine (ax6 ⟨b,0,none⟩ w.heap.size (.pointer none) _ ((h.below ((zAA _ _).alloc hB _)).g) (Blk.new _ _ _)).mono ?_
  rintro e w1 ⟨rfl,hb4,k1⟩
  have k1':=k1 w.heap.size (zD _)
  have kk:Below w.heap.size w w1:=((zAA _ _).alloc (zD _) _).trans k1'
  have p1:w1.cell? ⟨w.heap.size,0,none⟩=some (.pointer (some ⟨b,0,none⟩)):=hb4.cell 0
  have hf:Blk w b 99 #[.int .i64 a,sv S k]:=hk
  have p2:w1.cell? ⟨b,0,none⟩=some (.int .i64 a):=(hf.below kk hf.lt).cell 0
  clear hb4 k1 k1' hf hk h
  go_wp2_with fail
  go_ret
  exact ⟨rfl,kk⟩
theorem amM (n:Nat) (hn:n<5) (args:Array Value) (w:World):(callFunc (atX n) args).run Tryz.prog w=.ok (.enter (atX n) args) w:=by
 match n,hn with
 |0,_=>show (callFunc 145 args).run Tryz.prog w=.ok (.enter 145 args) w;kernel_rfl
 |1,_=>show (callFunc 146 args).run Tryz.prog w=.ok (.enter 146 args) w;kernel_rfl
 |2,_=>show (callFunc 147 args).run Tryz.prog w=.ok (.enter 147 args) w;kernel_rfl
 |3,_=>show (callFunc 148 args).run Tryz.prog w=.ok (.enter 148 args) w;kernel_rfl
 |4,_=>show (callFunc 149 args).run Tryz.prog w=.ok (.enter 149 args) w;kernel_rfl
 |n+5,hn=>exact zAv hn zO
section
variable (A A':Option Addr) (c c':Nat) (p:List Pk) (per:Int) (ns:List Int) (S:Nat->Addr) (w:World) (B:Nat) (hB:B<=w.heap.size) (h:RdP w B A p) (h':RdI w B A' ns) (hS:Snt w B S [2,3,5]) (hl:p.length<=9223372036854775807) (hl':ns.length<=9223372036854775807)
include hB h h' hS hl hl'
omit h' in
set_option maxHeartbeats 1000000 in
theorem asP:Calls Tryz.prog 145 #[.slice A p.length c,.int .i64 per,.slice A' ns.length c'] w (yE Sn.cs 3 64 (vD 0 p per ns) S (qE 0 p per ns).1 (qE 0 p per ns).2 w):=by
 by_cases h1:(qm p per).1=0
 ·obtain ⟨hf,-⟩:=zI h1
  by_cases h2:0<ns.length
  ·have He:=zM (qE 0 p per ns=(3,-1)) (by show (if (qm p per).1≠0 then qm p per else if 0<ns.length then (3,-1) else (0,-1):Nat × Int)=_;rw [z6 zO,zp h2])
   have Hv:=zM (vD 0 p per ns=[]) (ajL (by rw [He.o];simp))
   have H1:=zL h1
   have u1:(0:Int)<(ns.length:Int):=zO
   clear h1 hf
   go_enter Tryz.func145,Tryz.ntmps145
   go_wp2_with fail
   refine (ahZ A c p per S w B hB h (hS.sub zA1) hl H1.o).mono ?_
   rintro e w1 ⟨A1,c1,v,rfl,o1,hv,k1⟩
   obtain rfl:=hv.qK H1.o
   have g3:w1.cell? ⟨G 3,0,none⟩=some (sv S 3):=((hS.below (k1.mono hB)) 3 zA1).2.2
   simp only [G,sv] at g3
   clear o1 hv
   go_wp2_with fail
   go_region
   all_goals
    go_wp2_with fail
    go_ret2
    rw [Hv.o,He.o]
    exact ⟨none,0,_,rfl,⟨by simp,.inl ⟨rfl,rfl⟩⟩,.bare 3 zO zO,k1.drew⟩
  ·have He:=zM (qE 0 p per ns=(0,-1)) (by show (if (qm p per).1≠0 then qm p per else if 0<ns.length then (3,-1) else (0,-1):Nat × Int)=_;rw [z6 zO,z6 h2])
   have Hv:=zM (vD 0 p per ns=af5 p per) (zp (by rw [He.o]))
   have H1:=zL h1
   have u1:¬(0:Int)<(ns.length:Int):=zO
   clear h1 hf h2
   go_enter Tryz.func145,Tryz.ntmps145
   go_wp2_with fail
   refine (ahZ A c p per S w B hB h (hS.sub zA1) hl H1.o).mono ?_
   rintro e w1 ⟨A1,c1,v,rfl,o1,hv,k1⟩
   obtain rfl:=hv.qK H1.o
   have O1:=zL o1
   clear o1 hv
   go_wp2_with fail
   go_ret2
   rw [Hv.o,He.o]
   exact ⟨A1,c1,_,rfl,O1.o,.nil,k1⟩
 ·have He:=zM (qE 0 p per ns=qm p per) (by show (if (qm p per).1≠0 then qm p per else if 0<ns.length then (3,-1) else (0,-1):Nat × Int)=_;rw [zp h1])
  have Hv:=zM (vD 0 p per ns=[]) (ajL (by rw [He.o];exact h1))
  have H1:=zL h1
  clear h1
  go_enter Tryz.func145,Tryz.ntmps145
  go_wp2_with fail
  refine (amO A c p per S w B hB h (hS.sub zA1) hl H1.o).mono ?_
  rintro e w1 ⟨A1,c1,v,rfl,o1,hv,k1⟩
  have HV:=zL hv
  have O1:=zL o1
  obtain ⟨T,a,rfl⟩:=hv.qW H1.o
  clear hv o1
  go_wp2_with fail
  go_ret2
  rw [Hv.o,He.o]
  exact ⟨A1,c1,_,rfl,O1.o,HV.o,k1⟩
theorem af1 (n:Nat) (hn:n<5):Calls Tryz.prog (atX n) #[.slice A p.length c,.int .i64 per,.slice A' ns.length c'] w (yE Sn.cs 3 64 (vD n p per ns) S (qE n p per ns).1 (qE n p per ns).2 w):=by
 match n,hn with
 |0,_=>exact asP A A' c c' p per ns S w B hB h hS hl hl'
 |1,_=>exact asG A A' c c' p per ns S w B hB h h' hS hl hl'
 |2,_=>exact axC A A' c c' p per ns S w B hB h h' hS hl hl'
 |3,_=>exact an5 A A' c c' p per ns S w B hB h h' hS hl hl'
 |4,_=>exact amP (A:=A) (A':=A') (c:=c) (c':=c') (p:=p) (per:=per) (ws:=ns) (S:=S) (w:=w) B hB h h' hS hl hl'
 |n+5,hn=>exact zAv hn zO
end
theorem ah5 {cs:List (List Ln)} {k:Nat} (hk:k<cs.length):yR (cs.drop k) k=if cs[k].length=0 then yR (cs.drop (k+1)) (k+1) else if (qh cs[k]).1≠0 then ((qh cs[k]).1,(k:Int)) else yR (cs.drop (k+1)) (k+1):=by
 rw [zAE hk]
 rfl
def a0O:Value:=.nilFunc
theorem arJ (w:World):(zeroValue 205).run Tryz.prog w=.ok a0O w:=zK
section
variable (Ac An:Option Addr) (cc cn:Nat) (cs:List (List Ln)) (K:ByteArray) (per:Int) (ns:List Int) (S:Nat->Addr) (w:World) (B:Nat) (hB:B<=w.heap.size) (h:abF w B Ac cs) (h':RdI w B An ns) (hS:GS w B S) (hl:∀l∈cs,l.length<=9223372036854775807) (hl':ns.length<=9223372036854775807)
include hB h h' hS hl hl'
set_option maxHeartbeats 4000000 in
theorem uZ:Calls Tryz.prog 93 #[.agg #[.slice Ac cs.length cc,.string K,.int .i64 per,.slice An ns.length cn]] w (aiH S (qF cs (qg K) per ns).1 (qF cs (qg K) per ns).2 w):=by
 by_cases h8:cs.length=8
 ·have He:=zM (qF cs (qg K) per ns=(if (yR cs 0).1≠0 then yR cs 0 else qE (qg K) [] per ns)) (zp h8)
  have b0:Below w.heap.size w (w.alloc (.cells #[.slice Ac cs.length cc,.string K,.int .i64 per,.slice An ns.length cn] 66)):=(zAA _ _).alloc (zD _) _
  have x0:Blk (w.alloc (.cells #[.slice Ac cs.length cc,.string K,.int .i64 per,.slice An ns.length cn] 66)) w.heap.size 66 #[.slice Ac cs.length cc,.string K,.int .i64 per,.slice An ns.length cn]:=Blk.new _ _ _
  rw [h8] at b0 x0
  have H8:=zL h8
  rw [h8]
  have X0:=zL x0
  have B0:=zL b0
  clear h8 x0 b0
  go_enter Tryz.func93,Tryz.ntmps93
  go_wp2_with fail
  go_loopw [18] (λiv wr=>∃k:Nat,k<=8/\iv=.int .i64 k/\yR cs 0=yR (cs.drop k) k/\Below w.heap.size w wr/\Blk wr w.heap.size 66 #[.slice Ac 8 cc,.string K,.int .i64 per,.slice An ns.length cn]) (λiv _=>8 - (intOf iv).toNat)
  case atStart=>exact ⟨0,zAK _,rfl,rfl,B0.o,X0.o⟩
  case round=>
   obtain ⟨k,hk,rfl,hbad,hbw,hx⟩:=hrel
   have zw:=hbw.size
   have hzl:=hx.lt
   have HX:=zL hx
   have HB:=zL hbad
   clear hx hbad X0 B0
   by_cases hlt:k<8
   ·have hkl:k<cs.length:=by rw [H8.o];exact hlt
    obtain ⟨b,o,a,c,rfl,hb,d0,hrd⟩:=(h.below (hbw.mono hB)) k hkl
    have hst:=ah5 hkl
    have hll:=hl _ (zd hkl)
    obtain ⟨l,hle⟩:∃l,l=cs[k]:=⟨_,rfl⟩
    rw [<-hle] at d0 hrd hst hll
    have HS:=zL hst
    have HR:=zL hrd
    have u1:(0:Int)<=(k:Int):=zO
    have u2:(k:Int)<8:=zO
    clear hst hle hrd
    by_cases h0:l.length=0
    ·have HN:=zM (yR cs 0=yR (cs.drop (k+1)) (k+1)) (by rw [HB.o,HS.o,zp h0])
     rw [h0] at d0
     clear h0
     go_wp2_with fail
     go_roundw
     case rel=>exact ⟨k+1,hlt,by go_num,HN.o,hbw,HX.o⟩
     case measure=>simp [intOf];omega
    ·have u3:((l.length:Int)==0)=false:=by rw [beq_eq_false_iff_ne];omega
     by_cases h1:(qh l).1≠0
     ·have HN:=zM (yR cs 0=((qh l).1,(k:Int))) (by rw [HB.o,HS.o,z6 h0,zp h1])
      have H1:=zL h1
      clear h0 h1
      go_wp2_with fail
      refine (yw a c l S _ B (zAB hB zw) HR.o ((hS.s.below (hbw.mono hB)).sub zA1) hll).mono ?_
      rintro e w1 ⟨v,rfl,hv,k1⟩
      have HV:=zL hv
      obtain ⟨T,ad,rfl⟩:=hv.qW H1.o
      have k1':=hbw.trans (k1.mono zw)
      clear hv d0
      go_wp2_with fail
      refine (af6 _ _ _ S w1 B (zAB hB k1'.size) (hS.below (k1'.mono hB)) HV.o H1.o).mono ?_
      rintro e w2 ⟨rfl,q1,q9,k2⟩
      have k2':=k1'.trans (k2.mono k1'.size)
      obtain ⟨ad2,had2⟩:∃ad2,ad2=S (qh l).1:=⟨_,rfl⟩
      have HAD:=zM (sv S (qh l).1=.iface 242 (.pointer (some ad2))) (by rw [had2];rfl)
      rw [HAD.o]
      clear had2
      go_wp2_with fail
      go_ret
      rw [He.o,HN.o]
      rw [zp H1.o]
      exact ⟨_,rfl,.fault _ q1 q9 _ _ zA1 (by rw [HAD.o];exact heap_alloc_new _ _),k2'.alloc k2'.size _⟩
     ·have HN:=zM (yR cs 0=yR (cs.drop (k+1)) (k+1)) (by rw [HB.o,HS.o,z6 h0,z6 h1])
      have H1:=zM ((qh l).1=0) zO
      clear h0 h1
      go_wp2_with fail
      refine (yw a c l S _ B (zAB hB zw) HR.o ((hS.s.below (hbw.mono hB)).sub zA1) hll).mono ?_
      rintro e w1 ⟨v,rfl,hv,k1⟩
      obtain rfl:=hv.qK H1.o
      have k1':=hbw.trans (k1.mono zw)
      have hx1:=HX.o.below k1 hzl
      clear hv d0
      go_wp2_with fail
      go_roundw
      case rel=>exact ⟨k+1,hlt,by go_num,HN.o,k1',hx1⟩
      case measure=>simp [intOf];omega
   ·have HE:=zL (show qF cs (qg K) per ns=qE (qg K) [] per ns by
     rw [He.o,HB.o,zAO (by rw [H8.o];omega)]
     exact z6 (by simp [yR]))
    have e1:=HX.o.cell 1
    have e2:=HX.o.cell 2
    have e3:=HX.o.cell 3
    simp at e1 e2 e3
    have g9:∀v:World,Below wr.heap.size wr v->v.cell? ⟨G 9,0,none⟩=some (sv S 9):=λv hv=>((hS.s.below ((hbw.trans (hv.mono zw)).mono hB)) 9 zA1).2.2
    have Hg9:=zL g9
    obtain ⟨gb,hgb⟩:∃gb,gb=w.heap.size:=⟨_,rfl⟩
    have Hgb:=zL hgb
    rw [<-hgb] at e1 e2 e3 hzl ⊢
    clear HB He g9 hk hgb
    by_cases hn:qg K<5
    ·have HL:=zL (af1 none An 0 cn [] per ns S)
     obtain ⟨F,hF⟩:∃F,F=atX (qg K):=⟨_,rfl⟩
     have HF:=zL hF
     have hce:∀args w,(callFunc F args).run Tryz.prog w=.ok (.enter F args) w:=λargs w=>by rw [hF];exact amM _ hn args w
     clear hF
     go_wp2_with fail
     go_region_held3 (λw'=>w'.cell? ⟨gb,1,none⟩=some (.string K))
      (first
       |go_keep
       |exact (k6.cell (p:=⟨gb,1,none⟩) hzl).trans e1)
      (first
       |(go_at_call 122;refine (ae4 _).mono ?_;rintro e w6 ⟨rfl,hw6⟩;have hb6:w6.heap[wr.heap.size]?=some ac1:=by {rw [hw6];exact heap_alloc_new _ _};have k6:Below wr.heap.size wr w6:=by {rw [hw6];exact ((zAA _ _).drew).alloc (zD _) _};have hlk:(Instr.lookup 207 (.map (some wr.heap.size)) (.string K) true).run Tryz.prog w6=.ok (.tuple #[.func (.func F) #[] #[],.bool true]) w6:=by {rw [HF.o];exact ajJ w6 _ K true hb6 hn};clear hw6))
     all_goals
      have k6':=hbw.trans (k6.mono zw)
      clear hb6 hlk e1 hlt
      have f2:=(k6.cell (p:=⟨gb,2,none⟩) hzl).trans e2
      have f3:=(k6.cell (p:=⟨gb,3,none⟩) hzl).trans e3
      clear e2 e3 Hg9
      go_wp2_with fail
      refine (show Calls Tryz.prog F #[.slice none 0 0,.int .i64 per,.slice An ns.length cn] _ (yE Sn.cs 3 64 (vD (qg K) [] per ns) S (qE (qg K) [] per ns).1 (qE (qg K) [] per ns).2 _) by rw [HF.o];exact HL.o _ B (zAB hB k6'.size) Rd.ui (h'.below (k6'.mono hB)) ((hS.s.below (k6'.mono hB)).sub zA1) zA1 hl' _ hn).mono ?_
      rintro e w7 ⟨A7,c7,v,rfl,-,hv,k7⟩
      have HV:=zL hv
      clear hv
      go_wp2_with fail
      go_ret
      rw [HE.o]
      exact ⟨v,rfl,HV.o,k6'.trans (k7.mono k6'.size)⟩
    ·have hn5:qg K=5:=by have:=amH K;omega
     obtain ⟨z,hz⟩:∃z,∀w:World,(zeroValue 205).run Tryz.prog w=.ok z w:=⟨a0O,arJ⟩
     have HZ:=zL hz
     have H5:=zL hn5
     clear hz hn
     go_wp2_with fail
     go_region_held3 (λw'=>w'.cell? ⟨gb,1,none⟩=some (.string K))
      (first
       |go_keep
       |exact (k6.cell (p:=⟨gb,1,none⟩) hzl).trans e1)
      (first
       |(go_at_call 122;refine (ae4 _).mono ?_;rintro e w6 ⟨rfl,hw6⟩;have hb6:w6.heap[wr.heap.size]?=some ac1:=by {rw [hw6];exact heap_alloc_new _ _};have k6:Below wr.heap.size wr w6:=by {rw [hw6];exact ((zAA _ _).drew).alloc (zD _) _};have hlk:(Instr.lookup 207 (.map (some wr.heap.size)) (.string K) true).run Tryz.prog w6=.ok (.tuple #[z,.bool false]) w6:=azI w6 _ K true hb6 H5.o z (HZ.o _);clear hw6))
     all_goals
      have k6':=hbw.trans (k6.mono zw)
      have g9:=Hg9.o w6 k6
      have l9:=zAU w6 _ g9
      simp only [G,sv] at g9 l9
      clear hb6 hlk e1 hlt e2 e3 Hg9
      go_wp2_with fail
      go_ret
      rw [HE.o,H5.o]
      exact ⟨_,rfl,.bare 9 zO zO,k6'⟩
 ·have He:=zM (qF cs (qg K) per ns=(3,-1)) (z6 h8)
  have g3:w.cell? ⟨G 3,0,none⟩=some (sv S 3):=(hS.s 3 zA1).2.2
  have l3:=zAU w _ g3
  simp only [G,sv] at g3 l3
  have h8':((cs.length:Int) !=8)=true:=zA7
  clear h8
  go_enter Tryz.func93,Tryz.ntmps93
  go_wp2
  go_ret
  rw [He.o]
  exact ⟨_,rfl,.bare 3 zO zO,(zAA _ _).alloc (zD _) _⟩
end
theorem zY {w w':World} {base:Nat} {e:TypeId} {size:Nat} {v:Value} {n:Nat} {xs:List Value} (h:w.ownsRow base e size v n xs) (hs:∀g,v.ownBlock=some g->w'.heap[g]?=w.heap[g]?):w'.ownsRow base e size v n xs:=zDt
theorem ag9 {w w':World} {o:Obj} {row:Option Nat} {base:Nat} {e:TypeId} {size:Nat} {v:Value} {n:Nat} {xs:List Value} (h:w.ownsRow base e size v n xs) (hg:(w.alloc o).grownBy w' row) (hne:∀b,v.ownBlock=some b->row≠some b):w'.ownsRow base e size v n xs:=
 zY h λb hb=>by
  have hlt:=jQ h b hb
  exact (hg.block b zA7 (λe=>hne b hb e.symm)).trans (zAr w o b hlt)
structure afL (w:World) (B:Nat) (A1:Option Addr) (c1:Nat) (l1:List Pk) (A2:Option Addr) (c2:Nat) (l2:List Nat):Prop where
 r1:w.ownsRow B 53 3 (.slice A1 l1.length c1) l1.length (l1.flatMap Pk.cs)
 r2:w.ownsRow B 3 1 (.slice A2 l2.length c2) l2.length (l2.flatMap nCs)
 ne:∀b,(Value.slice A1 l1.length c1).ownBlock=some b->(Value.slice A2 l2.length c2).ownBlock≠some b
theorem afL.ui (w:World) (B:Nat):afL w B none 0 [] none 0 []:=⟨⟨by simp,.inl ⟨rfl,rfl⟩⟩,⟨by simp,.inl ⟨rfl,rfl⟩⟩,by simp [Value.ownBlock]⟩
theorem afL.alloc {w:World} {B:Nat} {A1:Option Addr} {c1:Nat} {l1:List Pk} {A2:Option Addr} {c2:Nat} {l2:List Nat} (h:afL w B A1 c1 l1 A2 c2 l2) (o:Obj):afL (w.alloc o) B A1 c1 l1 A2 c2 l2:=⟨h.r1.alloc o,h.r2.alloc o,h.ne⟩
theorem afL.step {V w3 w4:World} {B:Nat} {o1 o2:Obj} {A1 A2 A5 A6:Option Addr} {c1 c2 c5 c6:Nat} {l1 l1':List Pk} {l2 l2':List Nat} (h:afL V B A1 c1 l1 A2 c2 l2)
 (row3:w3.ownsRow B 53 3 (.slice A5 l1'.length c5) l1'.length (l1'.flatMap Pk.cs)) (g3:(V.alloc o1).grownBy w3 (Value.slice A1 l1.length c1).ownBlock) (at3:(Value.slice A5 l1'.length c5).ownBlock=(Value.slice A1 l1.length c1).ownBlock\/(Value.slice A5 l1'.length c5).ownBlock=some (V.alloc o1).heap.size)
 (row4:w4.ownsRow B 3 1 (.slice A6 l2'.length c6) l2'.length (l2'.flatMap nCs)) (g4:(w3.alloc o2).grownBy w4 (Value.slice A2 l2.length c2).ownBlock) (at4:(Value.slice A6 l2'.length c6).ownBlock=(Value.slice A2 l2.length c2).ownBlock\/(Value.slice A6 l2'.length c6).ownBlock=some (w3.alloc o2).heap.size):afL w4 B A5 c5 l1' A6 c6 l2':=by
 have z3:=g3.size
 have ne5:∀b,(Value.slice A5 l1'.length c5).ownBlock=some b->(Value.slice A2 l2.length c2).ownBlock≠some b:=λb hb e=>by
  have hlt:=jQ h.r2 b e
  rcases at3 with h9|h9
  ·rw [h9] at hb;exact h.ne b hb e
  ·rw [h9] at hb
   injection hb with hb
   simp at hb
   omega
 refine ⟨ag9 row3 g4 ne5,row4,λb hb e=>?_⟩
 have hlt:=jQ row3 b hb
 rcases at4 with h9|h9
 ·rw [h9] at e;exact ne5 b hb e
 ·rw [h9] at e
  injection e with e
  simp at e
  omega
theorem jd {α:Type} {w:World} {base:Nat} {e:TypeId} {sz:Nat} {fc:α->List Value} {A:Option Addr} {c:Nat} {l:List α} (h:w.ownsRow base e sz (.slice A l.length c) l.length (l.flatMap fc)) (hsz:0<sz) (hf:∀x,(fc x).length=sz) {i:Nat} (hi:i<l.length):
 ∃b,A=some ⟨b,0,none⟩/\base<=b/\b<w.heap.size/\∀(j:Nat) (v:Value),(fc l[i])[j]?=some v->w.cell? ⟨b,i*sz+j,none⟩=some v:=by
 obtain ⟨g,cap,hv,hg,hlt⟩:=h.form zO
 have hA:A=some ⟨g,0,none⟩:=by injection hv
 subst hA
 refine ⟨g,rfl,hg,hlt,λj v hj=>?_⟩
 have hjl:j<sz:=by have:=(zAj.1 hj).1;rw [hf] at this;exact this
 have h9:=h.cells (g:=g) rfl (i*sz+j) v (by
  rw [flat_get fc sz hsz hf]
  have e1:(i*sz+j) / sz=i:=by rw [Nat.mul_comm,Nat.mul_add_div hsz,Nat.div_eq_of_lt hjl,Nat.add_zero]
  have e2:(i*sz+j) % sz=j:=by rw [Nat.mul_comm,Nat.mul_add_mod,Nat.mod_eq_of_lt hjl]
  rw [e1,e2,zAR hi];exact hj)
 rw [jK] at h9
 simpa using h9
theorem shapeGo_bad (p:List Pk) (ss:List Bu) (last:Int) (i:Nat):(shapeGo p ss last i).2=-1\/((i:Int)<=(shapeGo p ss last i).2/\(shapeGo p ss last i).2<i+p.length):=by
 induction p generalizing ss last i with
 |nil=>exact .inl rfl
 |cons x r ih=>
  unfold shapeGo
  split
  ·right
   simp only [zAL]
   omega
  ·rename_i T hT
   split
   ·exact .inl rfl
   ·rename_i h
    rcases ih (ss.map λs=>yK s T x.s) T (i+1) with h9|h9
    ·exact zAv h9 h
    ·right
     simp only [zAL]
     omega
theorem aeH {a:Nat->Int} {ns:List Nat} {os:List Pk} {k:Nat} (h1:k<ns.length) (h2:k<os.length) (b:Nat->Int):atS b (ns.drop k) (os.drop k)=atS (upA b ns[k] os[k].a) (ns.drop (k+1)) (os.drop (k+1)):=by
 rw [zAE h1,zAE h2]
 rfl
def agO (l:List Ln) (p:List Pk) (f g:Nat) (a:Nat->Int) (S:Nat->Addr) (w:World) (e:Ending) (w':World):Prop:=
 ∃v,e=.returned v/\Er w' w'.heap.size S v (if zN l p f=-1 then 0 else 4) (zN l p f)/\IA w' g p.length (if zN l p f=-1 then atS a (numsK p f p.length) (shpR l p f).1 else a)/\But g w w'
section
variable (Ac An A:Option Addr) (cc nn cn c:Nat) (cs:List (List Ln)) (K:ByteArray) (per:Int) (p:List Pk) (f g:Nat) (a:Nat->Int) (S:Nat->Addr) (w:World) (B:Nat) (hB:B<=w.heap.size) (hBg:B<=g) (h:abF w B Ac cs) (hp:RdP w B A p) (hS:GS w B S) (h8:cs.length=8) (hf:f<8) (hpk:(qj p).1=0) (hc:adB cs) (hl:∀l∈cs,l.length<=9223372036854775807) (ha:IA w g p.length a)
include hB hBg h hp hS h8 hf hpk hc hl ha
set_option maxHeartbeats 4000000 in
theorem apD:Calls Tryz.prog 124 #[.agg #[.slice Ac 8 cc,.string K,.int .i64 per,.slice An nn cn],.slice A p.length c,.int .i64 f,.slice (some ⟨g,0,none⟩) p.length p.length] w (agO (cs.getD f []) p f g a S w):=by
 have h300:=vg hpk
 have hfl:f<cs.length:=zO
 have hgd:cs.getD f []=cs[f]:=by simp [List.getD,hfl]
 obtain ⟨b,o,ac,cl,rfl,hb,d0,hrd⟩:=h f hfl
 have hll:=hl _ (zd hfl)
 obtain ⟨l,hle⟩:∃l,l=cs[f]:=⟨_,rfl⟩
 have hcl:=hc cs[f] (zd hfl)
 rw [<-hle] at hcl
 rw [hgd,<-hle]
 rw [<-hle] at d0 hrd hll
 obtain ⟨i0,hi0,hz0,hz1,hz2⟩:=info_parts ahO
 obtain ⟨i1,hi1,hy0,hy1,hy2⟩:=info_parts wO
 have HA:=zL ha
 have HCL:=zL hcl
 have HPK:=zL hpk
 have HRD:=zL hrd
 have hgl:=ha.lt
 clear h hc hl hcl hgd hle hpk ha hrd h8 hfl
 obtain ⟨W,hW⟩:∃W:World,W=w.alloc (.cells #[.slice (some ⟨b,o,none⟩) 8 cc,.string K,.int .i64 per,.slice An nn cn] 66):=⟨_,rfl⟩
 have bW:Below w.heap.size w W:=zBx
 have xW:Blk W w.heap.size 66 #[.slice (some ⟨b,o,none⟩) 8 cc,.string K,.int .i64 per,.slice An nn cn]:=by rw [hW];exact Blk.new _ _ _
 have HW:=zL hW
 have BW:=zL bW
 have XW:=zL xW
 have zW:w.heap.size<=W.heap.size:=bW.size
 clear hW bW xW
 go_enter Tryz.func124,Tryz.ntmps124
 go_wp2_with fail
 rw [<-HW.o]
 go_loopw [9,10,19] (λv1 v2 iv wr=>∃(k:Nat) (A1:Option Addr) (c1:Nat) (A2:Option Addr) (c2:Nat),k<=p.length/\v1=.slice A1 (ownK p f k).length c1/\v2=.slice A2 (numsK p f k).length c2/\iv=.int .i64 k/\afL wr W.heap.size A1 c1 (ownK p f k) A2 c2 (numsK p f k)/\Below W.heap.size W wr) (λ_ _ iv _=>p.length - (intOf iv).toNat)
 case atStart=>exact ⟨0,none,0,none,0,zAK _,rfl,rfl,rfl,afL.ui _ _,zAA _ _⟩
 case round=>
  obtain ⟨k,A1,c1,A2,c2,hk,rfl,rfl,rfl,h2,hbw⟩:=hrel
  have zw:=hbw.size
  have kw:=BW.o.trans (hbw.mono zW)
  have H2:=zL h2
  clear h2
  by_cases hlt:k<p.length
  ·obtain ⟨b1,o1,rfl,hb1,e0,e1,e2⟩:=RdP.get (hp.below (kw.mono hB)) hlt
   obtain ⟨x,hx⟩:∃x:Pk,x=p[k]:=⟨_,rfl⟩
   have hxf:fOf p k=x.f:=by rw [vR hlt,hx]
   have hxd:p.getD k ⟨0,0,0⟩=x:=by rw [ad1 hlt,hx]
   rw [<-hx] at e0 e1 e2
   have HXD:=zL hxd
   have u1:(0:Int)<=(k:Int):=zO
   have u2:(k:Int)<(p.length:Int):=zO
   obtain ⟨V,hV⟩:∃V:World,V=wr.alloc (.cells #[.int .i64 x.f,.int .i64 x.s,.int .i64 x.a] 53):=⟨_,rfl⟩
   have bV:Below wr.heap.size wr V:=zBy
   have xV:Blk V wr.heap.size 53 #[.int .i64 x.f,.int .i64 x.s,.int .i64 x.a]:=zBU
   have tV:afL V W.heap.size A1 c1 (ownK p f k) A2 c2 (numsK p f k):=by rw [hV];exact H2.o.alloc _
   have y0:V.cell? ⟨wr.heap.size,0,none⟩=some (.int .i64 x.f):=xV.cell 0
   have y1:V.cell? ⟨wr.heap.size,1,none⟩=some (.int .i64 x.s):=xV.cell 1
   have y2:V.cell? ⟨wr.heap.size,2,none⟩=some (.int .i64 x.a):=xV.cell 2
   have HV:=zL hV
   have TV:=zL tV
   have zV:=bV.size
   have kV:=hbw.trans (bV.mono zw)
   clear hx hxd hV bV xV tV
   by_cases hxe:x.f=(f:Int)
   ·have HO:=zL (alT (p:=p) (f:=f) (k:=k) (hxf.trans hxe))
    have HN:=zL (ae2 (p:=p) (f:=f) (k:=k) (hxf.trans hxe))
    have hlo:(ownK p f k).length<=k:=by rw [jg];exact jW p f k
    have hln:=jW p f k
    obtain ⟨ow,how⟩:∃ow,ow=ownK p f k:=⟨_,rfl⟩
    obtain ⟨nu,hnu⟩:∃nu,nu=numsK p f k:=⟨_,rfl⟩
    obtain ⟨ow',how'⟩:∃ow',ow'=ow++[x]:=⟨_,rfl⟩
    obtain ⟨nu',hnu'⟩:∃nu',nu'=nu++[k]:=⟨_,rfl⟩
    rw [<-how] at hlo HO TV ⊢
    rw [<-hnu] at hln HN TV ⊢
    rw [HXD.o,<-how'] at HO
    rw [<-hnu'] at HN
    have HOW:=zL how'
    have HNU:=zL hnu'
    rw [hxe] at y0
    have q1:ow.length+[x].length<=maxLen:=zA8
    have q2:(ow.length+[x].length)*24<=140737488355328:=zBF
    have q3:nu.length+[k].length<=maxLen:=zA8
    have q4:(nu.length+[k].length)*8<=140737488355328:=zBF
    have zWV:W.heap.size<=V.heap.size:=kV.size
    have hnewP:RdP (V.alloc (.cells #[.int .i64 x.f,.int .i64 x.s,.int .i64 x.a] 53)) (V.heap.size+1) (some ⟨V.heap.size,0,none⟩) [x]:=RdP.zU x
    rw [hxe] at hnewP
    have HnP:=zL hnewP
    clear hxf how hnu how' hnu' hnewP hxe
    go_upto_region 6 with fail
    rw [<-HV.o]
    go_wp2_with (first
     |(at_builtin;refine qd _ Pk.cs rfl (.tmp 28) (.tmp 30) 46 rfl W.heap.size 53 i0 (.agg #[.int .i64 0,.int .i64 0,.int .i64 0]) 3 24 Tryz.underlying46 hi0 hz0 hz1 hz2 rfl zO Pk.qw Pk.qV (.slice A1 ow.length c1) ow.length (ow.flatMap Pk.cs) rfl (TV.o.r1.alloc _) (V.heap.size+1) (some ⟨V.heap.size,0,none⟩) 1 [x] rfl HnP.o q1 q2 (qG zWV _) ?_;intro v3 w3 row3 g3 at3;obtain ⟨A5,c5,hv5,row3⟩:=qI row3 zO;rw [<-HOW.o] at hv5 row3;rw [hv5] at at3 ⊢;clear hv5;have r2':=ag9 TV.o.r2 g3 (λb hb e=>TV.o.ne b e hb);have z3:W.heap.size<=w3.heap.size:=zAB (qG zWV _) g3.size)
     |(at_builtin;refine qd _ nCs rfl (.tmp 32) (.tmp 34) 27 rfl W.heap.size 3 i1 (.int .i64 0) 1 8 Tryz.underlying27 hi1 hy0 hy1 hy2 rfl zO xP adU (.slice A2 nu.length c2) nu.length (nu.flatMap nCs) rfl (r2'.alloc _) (w3.heap.size+1) (some ⟨w3.heap.size,0,none⟩) 1 [k] rfl (Rd.zU rfl zO xP) q3 q4 (qG z3 _) ?_;intro v4 w4 row4 g4 at4;obtain ⟨A6,c6,hv6,row4⟩:=qI row4 zO;rw [<-HNU.o] at hv6 row4;rw [hv6] at at4 ⊢;clear hv6))
    have k3:=ql (kV.alloc zWV _) (TV.o.r1.alloc _) g3 (zD _) (qG zWV _)
    have k4:=ql (k3.alloc z3 _) (r2'.alloc _) g4 (zD _) (qG z3 _)
    have t4:=TV.o.step row3 g3 at3 row4 g4 at4
    exact zEo
   ·have hne:¬fOf p k=(f:Int):=by rw [hxf];exact hxe
    have HO:=zL (aqM (p:=p) hne)
    have HN:=zL (ahE (p:=p) hne)
    clear hne hxf
    go_upto_region 6 with fail
    rw [<-HV.o]
    go_wp2_with fail
    go_roundw
    case rel=>exact ⟨k+1,A1,c1,A2,c2,hlt,by rw [HO.o],by rw [HN.o],by go_num,by rw [HO.o,HN.o];exact TV.o,kV⟩
    case measure=>simp [intOf];omega
  ·obtain rfl:k=p.length:=by omega
   have zWg:g<W.heap.size:=zAG hgl zW
   have haw:IA wr g p.length a:=HA.o.same (kw.block g hgl)
   have HAW:=zL haw
   obtain ⟨ow,how⟩:∃ow,ow=ownK p f p.length:=⟨_,rfl⟩
   obtain ⟨nu,hnu⟩:∃nu,nu=numsK p f p.length:=⟨_,rfl⟩
   have hlen:ow.length=nu.length:=by rw [how,hnu];exact jg _ _ _
   have hpo:(qj ow).1=0:=by rw [how];exact acW HPK.o (ahA p f)
   have h2:=H2.o
   rw [<-how,<-hnu] at h2
   rw [<-how,<-hnu]
   have HOW:=zL how
   have HNU:=zL hnu
   have RN0:=zL h2.r2
   have RO0:=zL h2.r1
   have HPO:=zL hpo
   have hn300:nu.length<=300:=by rw [HNU.o];have:=jW p f p.length;omega
   have x0:wr.cell? ⟨w.heap.size,0,none⟩=some (.slice (some ⟨b,o,none⟩) 8 cc):=((XW.o.below hbw XW.o.lt).cell 0).trans rfl
   have d0':wr.cell? ⟨b,o+f,none⟩=some (.slice ac l.length cl):=(kw.cell (p:=⟨b,o+f,none⟩) (by show b<w.heap.size;omega)).trans d0
   have r1:(0:Int)<=(f:Int):=zO
   have r2:(f:Int)<8:=zO
   clear how hnu hpo h2 haw d0 hk hlt
   by_cases h0:l=[]
   ·have hfb:zN l p f=-1:=by unfold zN shpR;rw [zp h0,zp rfl]
    have HFB:=zL hfb
    obtain ⟨OS,hOS⟩:∃OS,OS=ow:=⟨_,rfl⟩
    have HSH:=zM ((shpR l p f).1=OS) (by unfold shpR;rw [zp h0,hOS,HOW.o])
    have hl0:l.length=0:=by rw [h0];rfl
    rw [hl0] at d0'
    rw [<-hOS] at RO0 hlen ⊢
    have HL:=zL hlen
    have RO:=zL RO0.o
    have RN:=zL RN0.o
    have KZ:=zL kw
    have IZ:=zL HAW.o
    obtain ⟨wz,hwz⟩:∃wz:World,wz=wr:=⟨_,rfl⟩
    subst hwz
    clear hfb hOS hlen hl0 h0
    exact zDF
   ·have h1:(qh l).1=0:=HCL.o.resolve_left h0
    have hl0:(0:Int)<(l.length:Int):=by have:=List.length_pos_iff.2 h0;omega
    have HSR:=zM (shpR l p f=zG l ow) (by unfold shpR;rw [z6 h0,HOW.o])
    have HSE:=zM (yU l ow=if (zG l ow).2=-1 then (0,-1) else (4,(zG l ow).2)) (by unfold yU;rw [z6 (by rw [HPO.o];simp),z6 (by rw [h1];simp)])
    have hrd2:=((HRD.o.below (kw.mono hB)).more (zAB hB kw.size))
    have hpd2:RdP wr wr.heap.size A1 ow:=RdP.qA RO0.o
    have hS2:=(((hS.s.below (kw.mono hB)).more (zAB hB kw.size)).sub (ks':=[2,3,4,5]) zA1)
    have HLEN:=zL hlen
    clear h0 h1 hlen
    by_cases hbad:(zG l ow).2=-1
    ·have HFB:=zM (zN l p f=-1) (by unfold zN;rw [HSR.o,zp hbad])
     have HE:=zM (yU l ow=(0,-1)) (by rw [HSE.o,zp hbad])
     obtain ⟨OS,hOS⟩:∃OS,OS=jH l ow:=⟨_,rfl⟩
     have hOS2:OS=(zG l ow).1:=by rw [hOS];unfold jH;rw [HE.o];rfl
     have HSH:=zM ((shpR l p f).1=OS) (by rw [HSR.o,hOS2])
     have hlen2:OS.length=nu.length:=zE1
     have HL:=zL hlen2
     have HOS:=zL hOS
     clear hbad hOS hOS2 hlen2
     go_wp2_with fail
     refine (ai5 ac A1 cl c1 l ow S wr wr.heap.size (zD _) hrd2 hpd2 hS2 hll (by rw [HLEN.o];omega)).mono ?_
     rintro e wz ⟨AO,cO,v,rfl,ro,hv,kz⟩
     obtain rfl:=hv.qK (by rw [HE.o])
     rw [<-HOS.o] at ro ⊢
     have kz':=kw.trans (kz.mono kw.size)
     have RO:=zL (qO ro (zAB zw (zD _)))
     have RN:=zL (own_below RN0.o kz (zD _))
     have KZ:=zL kz'
     have IZ:=zL (HAW.o.same (kz.block g (zAG zWg zw)))
     clear ro hv x0 d0' hrd2 hpd2 hS2 kz'
     exact zDF
    ·obtain ⟨m,hm⟩:∃m:Nat,(zG l ow).2=(m:Int):=zEw
     have hml:m<nu.length:=zEi
     obtain ⟨t,ht⟩:∃t,t=nu[m]:=⟨_,rfl⟩
     have HFB:=zL (show zN l p f=(t:Int) by
      unfold zN
      rw [HSR.o,z6 hbad,hm,zAX,<-HNU.o,ht]
      simp [List.getD,hml])
     have HE:=zM (yU l ow=(4,(m:Int))) (by rw [HSE.o,z6 hbad,hm])
     have HT:=zL ht
     clear hbad hm ht
     go_wp2_with fail
     refine (ai5 ac A1 cl c1 l ow S wr wr.heap.size (zD _) hrd2 hpd2 hS2 hll (by rw [HLEN.o];omega)).mono ?_
     rintro e wz ⟨AO,cO,v,rfl,-,hv,kz⟩
     rw [HE.o] at hv
     have HV:=zL hv
     obtain ⟨T,ad,rfl⟩:=hv.qW zA1
     have kz':=kw.trans (kz.mono kw.size)
     have hrn:=own_below RN0.o kz (zD _)
     obtain ⟨b3,hA3,_,hb3,y1⟩:=jd hrn zO xP hml
     have z1:=y1 0 _ rfl
     simp only [Nat.mul_one,Nat.add_zero] at z1
     subst hA3
     rw [<-HT.o] at z1
     have KZ:=zL kz'
     have HIZ:=zL (HAW.o.same (kz.block g (zAG zWg zw)))
     have g4:wz.cell? ⟨G 4,0,none⟩=some (sv S 4):=((hS.s.below (kz'.mono hB)) 4 zA1).2.2
     have l4:=zAU wz _ g4
     simp only [G,sv] at g4 l4
     have zz:=kz'.size
     have q1:(0:Int)<=(m:Int):=zO
     have q2:(m:Int)<(nu.length:Int):=zO
     clear hv x0 d0' hrd2 hpd2 hS2 kz' kz y1 hrn
     go_wp2_with fail
     go_region_held3 (λw'=>w'.cell? ⟨b3,m,none⟩=some (.int .i64 (t:Int))/\w'.cell? ⟨3,0,none⟩=some (.iface 242 (.pointer (some (S 4)))))
      (first
       |go_keep
       |exact ⟨(k6.cell (p:=⟨b3,m,none⟩) hb3).trans z1,(k6.cell (p:=⟨3,0,none⟩) l4).trans g4⟩)
      (first
       |(go_at_call 125;refine (aeY _ 4 (m:Int) S wz.drew B (zAB hB zz) (hS.below ((KZ.o.drew).mono hB)) (HV.o.below (zAA _ _).drew) zO).mono ?_;rintro e w6 ⟨rfl,k6d⟩;have k6:=aiV k6d))
     all_goals
      have k6':=(But.of_below (g:=g) KZ.o).trans (But.of_below k6)
      have hia:=HIZ.o.same (k6.block g HIZ.o.lt)
      have HIA:=zL hia
      have K6:=zL k6'
      clear z1 g4 k6 k6' hia
      go_wp2_with fail
      go_ret
      unfold agO
      rw [HFB.o]
      rw [z6 (show ¬(t:Int)=-1 by omega),z6 (show ¬(t:Int)=-1 by omega)]
      exact ⟨_,rfl,.fault 4 zO zO _ _ zA1 (heap_alloc_new _ _),HIA.o.alloc _,K6.o.trans (But.of_below ((zAA _ _).alloc (zD _) _))⟩
end
def zq (cs:List (List Ln)) (n:Nat) (per:Int) (ns:List Int) (p:List Pk):Nat × Int:=
 if (qF cs n per ns).1≠0 then qF cs n per ns else if (qj p).1≠0 then qj p else if (zF cs p 8).2≠-1 then (4,(zF cs p 8).2) else (0,-1)
def uR (cs:List (List Ln)) (n:Nat) (per:Int) (ns:List Int) (p:List Pk):List Pk:=if (zq cs n per ns p).1=0 then ab2 p (zF cs p 8).1 else []
def uS (cs:List (List Ln)) (n:Nat) (per:Int) (ns:List Int) (p:List Pk):List Sn:=if (zq cs n per ns p).1=0 then vD n (ab2 p (zF cs p 8).1) per ns else []
theorem aeV {cs:List (List Ln)} {n:Nat} {per:Int} {ns:List Int} {p:List Pk} (h:(zq cs n per ns p).1=0):(qF cs n per ns).1=0/\(qj p).1=0/\(zF cs p 8).2=-1/\zq cs n per ns p=(0,-1)/\(qj (ab2 p (zF cs p 8).1)).1=0/\qE n (ab2 p (zF cs p 8).1) per ns=(0,-1):=by
 unfold zq at h ⊢
 by_cases h1:(qF cs n per ns).1≠0
 ·rw [zp h1] at h;exact zAv h h1
 ·rw [z6 h1] at h ⊢
  by_cases h2:(qj p).1≠0
  ·rw [zp h2] at h;exact zAv h h2
  ·rw [z6 h2] at h ⊢
   by_cases h3:(zF cs p 8).2≠-1
   ·rw [zp h3] at h;simp at h
   ·rw [z6 h3]
    obtain ⟨g1,g2,g3,g4⟩:=xL (show (qF cs n per ns).1=0 by omega)
    have ho:=az0 (show (qj p).1=0 by omega) g2 (show (zF cs p 8).2=-1 by omega)
    refine ⟨by omega,by omega,by omega,rfl,ho,?_⟩
    rw [as8 ho]
    exact Prod.ext g3 al5
def agQ (q:List Pk) (l:List Sn) (S:Nat->Addr) (k:Nat) (a:Int) (w:World) (e:Ending) (w':World):Prop:=
 ∃A c A' c' v,e=.returned (.tuple #[.slice A q.length c,.slice A' l.length c',v])/\w'.ownsRow w.heap.size 53 3 (.slice A q.length c) q.length (q.flatMap Pk.cs)/\w'.ownsRow w.heap.size 64 3 (.slice A' l.length c') l.length (l.flatMap Sn.cs)/\Er w' w'.heap.size S v k a/\Below w.heap.size w w'
def wP (m:Int) (S:Nat->Addr) (v:Value) (w:World):Prop:=Er w w.heap.size S v (if m=-1 then 0 else 4) m
theorem wP.ui (S:Nat->Addr) (w:World):wP (-1) S .nilIface w:=.nil
theorem wP.to {m:Int} {S:Nat->Addr} {v:Value} {w w':World} (h:wP m S v w) (hb:Below w.heap.size w w'):wP m S v w':=(Er.below h hb).more hb.size
section
variable (Ac An A:Option Addr) (cc cn c:Nat) (cs:List (List Ln)) (K:ByteArray) (per:Int) (ns:List Int) (p:List Pk) (S:Nat->Addr) (w:World) (B:Nat) (hB:B<=w.heap.size) (h:abF w B Ac cs) (h':RdI w B An ns) (hp:RdP w B A p) (hS:GS w B S) (hl:∀l∈cs,l.length<=9223372036854775807) (hl':ns.length<=9223372036854775807) (hlp:p.length<=9223372036854775807)
include hB h h' hp hS hl hl' hlp
omit hlp hp in
set_option maxHeartbeats 1000000 in
theorem atU (h1:(qF cs (qg K) per ns).1≠0):Calls Tryz.prog 99 #[.agg #[.slice Ac cs.length cc,.string K,.int .i64 per,.slice An ns.length cn],.slice A p.length c] w (agQ (uR cs (qg K) per ns p) (uS cs (qg K) per ns p) S (zq cs (qg K) per ns p).1 (zq cs (qg K) per ns p).2 w):=by
 have He:=zM (zq cs (qg K) per ns p=qF cs (qg K) per ns) (zp h1)
 have Hq:=zM (uR cs (qg K) per ns p=[]) (by unfold uR;rw [He.o,z6 h1])
 have Hl:=zM (uS cs (qg K) per ns p=[]) (by unfold uS;rw [He.o,z6 h1])
 have H1:=zL h1
 have b0:Below w.heap.size w (w.alloc (.cells #[.slice Ac cs.length cc,.string K,.int .i64 per,.slice An ns.length cn] 66)):=(zAA _ _).alloc (zD _) _
 clear h1
 go_enter Tryz.func99,Tryz.ntmps99
 go_wp2_with fail
 refine (uZ Ac An cc cn cs K per ns S _ B (zAB hB b0.size) (h.below (b0.mono hB)) (h'.below (b0.mono hB)) (hS.below (b0.mono hB)) hl hl').mono ?_
 rintro e w1 ⟨v,rfl,hv,k1⟩
 have HV:=zL hv
 obtain ⟨T,ad,rfl⟩:=hv.qW H1.o
 have K1:=zL (b0.trans (k1.mono b0.size))
 clear hv k1 b0
 go_wp2_with fail
 go_ret3
 rw [Hq.o,Hl.o,He.o]
 exact ⟨none,0,none,0,_,rfl,⟨by simp,.inl ⟨rfl,rfl⟩⟩,⟨by simp,.inl ⟨rfl,rfl⟩⟩,HV.o,K1.o⟩
set_option maxHeartbeats 1000000 in
theorem awX (h1:(qF cs (qg K) per ns).1=0) (h2:(qj p).1≠0):Calls Tryz.prog 99 #[.agg #[.slice Ac cs.length cc,.string K,.int .i64 per,.slice An ns.length cn],.slice A p.length c] w (agQ (uR cs (qg K) per ns p) (uS cs (qg K) per ns p) S (zq cs (qg K) per ns p).1 (zq cs (qg K) per ns p).2 w):=by
 have He:=zM (zq cs (qg K) per ns p=qj p) (by unfold zq;rw [z6 zO,zp h2])
 have Hq:=zM (uR cs (qg K) per ns p=[]) (by unfold uR;rw [He.o,z6 h2])
 have Hl:=zM (uS cs (qg K) per ns p=[]) (by unfold uS;rw [He.o,z6 h2])
 have H1:=zL h1
 have H2:=zL h2
 have b0:Below w.heap.size w (w.alloc (.cells #[.slice Ac cs.length cc,.string K,.int .i64 per,.slice An ns.length cn] 66)):=(zAA _ _).alloc (zD _) _
 clear h1 h2
 go_enter Tryz.func99,Tryz.ntmps99
 go_wp2_with fail
 refine (uZ Ac An cc cn cs K per ns S _ B (zAB hB b0.size) (h.below (b0.mono hB)) (h'.below (b0.mono hB)) (hS.below (b0.mono hB)) hl hl').mono ?_
 rintro e w1 ⟨v,rfl,hv,k1⟩
 obtain rfl:=hv.qK H1.o
 have k1':=b0.trans (k1.mono b0.size)
 clear hv k1 b0
 go_wp2_with fail
 refine (vk A c p S w1 B (zAB hB k1'.size) (hp.below (k1'.mono hB)) ((hS.s.below (k1'.mono hB)).sub zA1) hlp).mono ?_
 rintro e w2 ⟨v,rfl,hv,k2⟩
 have HV:=zL hv
 obtain ⟨T,ad,rfl⟩:=hv.qW H2.o
 have K2:=zL (k1'.trans (k2.mono k1'.size))
 clear hv k2 k1'
 go_wp2_with fail
 go_ret3
 rw [Hq.o,Hl.o,He.o]
 exact ⟨none,0,none,0,_,rfl,⟨by simp,.inl ⟨rfl,rfl⟩⟩,⟨by simp,.inl ⟨rfl,rfl⟩⟩,HV.o,K2.o⟩
end
theorem Er.but {w w':World} {S:Nat->Addr} {v:Value} {k:Nat} {a:Int} {g n:Nat} {d:Nat->Value} (h:Er w w.heap.size S v k a) (hg:Arw w g 3 n d) (hb:But g w w'):Er w' w'.heap.size S v k a:=by
 cases h with
 |nil=>exact .nil
 |bare k h1 h9=>exact .bare _ h1 h9
 |fault k h1 h9 b a hlt hk=>
  have hne:b≠g:=λe=>by
   subst e
   obtain ⟨tc,h2,_⟩:=hg
   have h3:w.heap[b]?=some (.cells tc 3 (0,0)):=h2
   rw [hk] at h3
   injection h3 with h3
   injection h3 with _ h4
   exact zAv h4 zA4
  exact .fault _ h1 h9 b a (zAG hlt hb.size) ((hb.blk b hlt hne).trans hk)
theorem wP.but {m:Int} {S:Nat->Addr} {v:Value} {w w':World} {g n:Nat} {d:Nat->Value} (h:wP m S v w) (hg:Arw w g 3 n d) (hb:But g w w'):wP m S v w':=Er.but h hg hb
theorem ahV {l:List Ln} {p:List Pk} {f:Nat} (h:zN l p f≠-1):0<=zN l p f:=by
 unfold zN at h ⊢
 by_cases h1:(shpR l p f).2=-1
 ·rw [zp h1] at h;exact zAv rfl h
 ·rw [z6 h1];omega
theorem ahT (cs:List (List Ln)) (p:List Pk) (f:Nat):(zF cs p f).2=-1\/0<=(zF cs p f).2:=by
 induction f with
 |zero=>exact .inl rfl
 |succ f ih=>
  unfold zF ahR
  by_cases hb:zN (cs.getD f []) p f=-1
  ·rw [zp hb];exact ih
  ·rw [z6 hb]
   have:=ahV hb
   right
   show 0<=ja _ _
   unfold ja
   split
   ·exact this
   ·rename_i h9;omega
theorem ae8 {cs:List (List Ln)} {p:List Pk} {f:Nat} (h:zN (cs.getD f []) p f=-1):zF cs p (f+1)=(atS (zF cs p f).1 (numsK p f p.length) (shpR (cs.getD f []) p f).1,(zF cs p f).2):=by
 show ahR cs p f _=_
 unfold ahR
 rw [zp h]
theorem ahU {cs:List (List Ln)} {p:List Pk} {f:Nat} (h:zN (cs.getD f []) p f≠-1):zF cs p (f+1)=((zF cs p f).1,ja (zF cs p f).2 (zN (cs.getD f []) p f)):=by
 show ahR cs p f _=_
 unfold ahR
 rw [z6 h]
section
variable (Ac An A:Option Addr) (cc cn c:Nat) (cs:List (List Ln)) (K:ByteArray) (per:Int) (ns:List Int) (p:List Pk) (S:Nat->Addr) (w:World) (B:Nat) (hB:B<=w.heap.size) (h:abF w B Ac cs) (h':RdI w B An ns) (hp:RdP w B A p) (hS:GS w B S) (hl:∀l∈cs,l.length<=9223372036854775807) (hl':ns.length<=9223372036854775807)
include hB h h' hp hS hl hl'
set_option maxHeartbeats 8000000 in
theorem atT (h1:(qF cs (qg K) per ns).1=0) (h2:(qj p).1=0):Calls Tryz.prog 99 #[.agg #[.slice Ac cs.length cc,.string K,.int .i64 per,.slice An ns.length cn],.slice A p.length c] w (agQ (uR cs (qg K) per ns p) (uS cs (qg K) per ns p) S (zq cs (qg K) per ns p).1 (zq cs (qg K) per ns p).2 w):=by
 have h300:=vg h2
 have hlp:p.length<=9223372036854775807:=zO
 obtain ⟨h8,hcs,hlk,-⟩:=xL h1
 have H1:=zL h1
 have H2:=zL (uU h2)
 have H8:=zL h8
 have HCS:=zL hcs
 obtain ⟨i1,hi1,hy0,hy1,hy2⟩:=info_parts wO
 obtain ⟨W,hW⟩:∃W:World,W=w.alloc (.cells #[.slice Ac 8 cc,.string K,.int .i64 per,.slice An ns.length cn] 66):=⟨_,rfl⟩
 have bW:Below w.heap.size w W:=zBx
 obtain ⟨gb,hgb⟩:∃gb,gb=w.heap.size:=⟨_,rfl⟩
 have xW:Blk W gb 66 #[.slice Ac 8 cc,.string K,.int .i64 per,.slice An ns.length cn]:=zCx
 have HW:=zL hW
 have BW:=zL bW
 have XW:=zL xW
 have HGB:=zL hgb
 have HP:=zL h2
 have zW:w.heap.size<=W.heap.size:=bW.size
 rw [h8]
 have hcheck:=uZ Ac An cc cn cs K per ns S W B (zAB hB bW.size) (h.below (bW.mono hB)) (h'.below (bW.mono hB)) (hS.below (bW.mono hB)) hl hl'
 rw [h8] at hcheck
 have HCK:=zL hcheck
 clear h1 h2 h8 hcs hlk hW bW xW hcheck hgb
 go_enter Tryz.func99,Tryz.ntmps99
 go_wp2_with fail
 rw [<-HGB.o,<-HW.o]
 refine (HCK.o).mono ?_
 rintro e w1 ⟨v,rfl,hv,k1⟩
 obtain rfl:=hv.qK H1.o
 have k1':=BW.o.trans (k1.mono zW)
 have x1:=XW.o.below k1 XW.o.lt
 clear hv
 go_wp2_with fail
 refine (vk A c p S w1 B (zAB hB k1'.size) (hp.below (k1'.mono hB)) ((hS.s.below (k1'.mono hB)).sub zA1) hlp).mono ?_
 rintro e w2 ⟨v,rfl,hv,k2⟩
 obtain rfl:=hv.qK (by rw [H2.o])
 have k2':=k1'.trans (k2.mono k1'.size)
 have x2:=x1.below k2 x1.lt
 have X2:=zL x2
 have zg2:=x2.lt
 have K2:=zL k2'
 have z2:=k2'.size
 clear hv k1 k2 x1 x2 k1' k2'
 go_wp2_with (at_make;refine wpList_make_full _ rfl (.tmp 32) (.tmp 32) 27 rfl w2.heap.size 3 i1 (.int .i64 0) 1 Tryz.underlying27 hi1 hy0 hy1 .i64 .i64 p.length p.length p.length rfl rfl rfl rfl (by rw [hy2];omega) zA2 (zD _) ?_;intro w3 row3 g3;rw [intRow_new] at row3)
 have ia3:IA w3 w2.heap.size p.length (zF cs p 0).1:=Arw.qA row3 λk _=>rfl
 have k3:Below w2.heap.size w2 w3:=(zAA _ _).grown g3 (zD _) zA1
 have zg3:=ia3.lt
 obtain ⟨g,hg⟩:∃g,g=w2.heap.size:=⟨_,rfl⟩
 obtain ⟨bA,hbA⟩:∃bA,bA=w3.heap.size:=⟨_,rfl⟩
 rw [<-hg] at ia3 zg3 ⊢
 rw [<-hbA] at zg3
 obtain ⟨X,hX⟩:∃X:World,X=w3.alloc (.cells #[.slice (some ⟨g,0,none⟩) p.length p.length] 27):=⟨_,rfl⟩
 have bX:Below w3.heap.size w3 X:=zBA
 have yX:Blk X bA 27 #[.slice (some ⟨g,0,none⟩) p.length p.length]:=by rw [hX,hbA];exact Blk.new _ _ _
 rw [<-hX,<-hbA]
 have iaX:IA X g p.length (zF cs p 0).1:=ia3.same (bX.block g (by rw [<-hbA];exact zg3))
 have xX:Blk X gb 66 #[.slice Ac 8 cc,.string K,.int .i64 per,.slice An ns.length cn]:=((X2.o.below k3 zg2)).below bX (zAG zg2 k3.size)
 have kX:Below w.heap.size w X:=K2.o.trans ((k3.mono z2).trans (bX.mono (zAB z2 k3.size)))
 have hBg:B<=g:=by rw [hg];exact zAB hB z2
 have hgb:gb≠g:=by rw [hg];omega
 have hAg:bA≠g:=zO
 have hAb:bA≠gb:=by have:=k3.size;omega
 have IX:=zL iaX
 have XX:=zL xX
 have YX:=zL yX
 have KX:=zL kX
 have hwg:w.heap.size<=g:=by rw [hg];exact z2
 clear row3 g3 ia3 k3 hX bX yX iaX xX kX X2 K2 z2 hg zg2 hbA
 go_loopw [10,34] (λfv iv wr=>∃f:Nat,f<=8/\iv=.int .i64 f/\wP (zF cs p f).2 S fv wr/\IA wr g p.length (zF cs p f).1/\But g X wr) (λ_ iv _=>8 - (intOf iv).toNat)
 case atStart=>exact ⟨0,zAK _,rfl,wP.ui _ _,IX.o,But.refl _ _⟩
 case round=>
  obtain ⟨f,hf,rfl,hfe,hia,hbut⟩:=hrel
  have hxr:=XX.o.but hbut hgb
  have hyr:=YX.o.but hbut hAg
  have e0:=hyr.cell 0
  have c0:=hxr.cell 0
  have c1:=hxr.cell 1
  have c2:=hxr.cell 2
  have c3:=hxr.cell 3
  simp at e0 c0 c1 c2 c3
  have kr:Below B w wr:=(KX.o.mono hB).trans (hbut.below hBg (zAB hB KX.o.size))
  have FE:=zL hfe
  have IA1:=zL hia
  have BT:=zL hbut
  have KR:=zL kr
  have hBr:B<=wr.heap.size:=zAB hB kr.size
  clear hfe hia hbut kr hxr hyr
  by_cases hf8:f<8
  ·have u1:(0:Int)<=(f:Int):=by omega
   have u2:(f:Int)<8:=zO
   have HIF:=zL hf8
   go_wp2_with fail
   refine (apD Ac An A cc ns.length cn c cs K per p f g (zF cs p f).1 S wr B hBr hBg (h.below KR.o) (hp.below KR.o) (hS.below KR.o) H8.o hf8 HP.o HCS.o hl IA1.o).mono ?_
   rintro e wv ⟨v,rfl,hev,hia2,hb2⟩
   have fe2:=FE.o.but IA1.o hb2
   have bt2:=BT.o.trans hb2
   by_cases hfb:zN (cs.getD f []) p f=-1
   ·rw [zp hfb,hfb] at hev
    rw [zp hfb] at hia2
    have HN:=zL (ae8 hfb)
    obtain rfl:=hev.qK rfl
    have HI2:=zL hia2
    clear hev hia2 hfb e0 c0 c1 c2 c3
    go_wp2_with fail
    go_roundw
    case rel=>exact ⟨f+1,hf8,by go_num,by rw [HN.o];exact fe2,by rw [HN.o];exact HI2.o,bt2⟩
    case measure=>simp [intOf];omega
   ·rw [z6 hfb] at hev
    rw [z6 hfb] at hia2
    have HN:=zL (ahU hfb)
    have HNN:=zL (ahV hfb)
    have HEV:=zL hev
    obtain ⟨T,ad,rfl⟩:=hev.qW zA1
    have HI2:=zL hia2
    obtain ⟨bd,hbd⟩:∃bd,bd=zN (cs.getD f []) p f:=⟨_,rfl⟩
    obtain ⟨fi,hfi⟩:∃fi,fi=(zF cs p f).2:=⟨_,rfl⟩
    have hnn:=ahT cs p f
    rw [<-hbd] at HNN HEV HN
    rw [<-hfi] at fe2 hnn HN
    have bd0:0<=bd:=HNN.o
    clear hev hia2 hfb e0 c0 c1 c2 c3 hbd hfi
    by_cases hf1:fi=-1
    ·subst hf1
     obtain rfl:u10=.nilIface:=Er.qK fe2 rfl
     have HFI:=zM ((zF cs p (f+1)).2=bd) (by rw [HN.o];show ja (-1) bd=bd;exact zp (Or.inl rfl))
     have hfe3:wP bd S (.iface T (.pointer (some ad))) wv:=by
      unfold wP
      rw [z6 zO]
      exact HEV.o
     clear fe2 hnn
     go_wp2_with fail
     go_roundw
     case rel=>exact ⟨f+1,hf8,by go_num,by rw [HFI.o];exact hfe3,by rw [HN.o];exact HI2.o,bt2⟩
     case measure=>simp [intOf];omega
    ·have hf0:0<=fi:=by omega
     have he2:Er wv wv.heap.size S u10 4 fi:=by have:=fe2;unfold wP at this;rw [z6 hf1] at this;exact this
     have HE2:=zL he2
     have FE2:=zL fe2
     obtain ⟨T2,ad2,rfl⟩:=he2.qW zA1
     have KV:=zL ((KX.o.mono hB).trans (bt2.below hBg (zAB hB KX.o.size)))
     have hBv:B<=wv.heap.size:=zAB hBr hb2.size
     have BT2:=zL bt2
     clear fe2 hnn he2 hf1 hb2 bt2
     go_wp2_with fail
     refine (aeY _ 4 bd S wv B hBv (hS.below KV.o) HEV.o bd0).mono ?_
     rintro e w6 ⟨rfl,k6⟩
     have hB6:B<=w6.heap.size:=zAB hBv k6.size
     go_wp2_with fail
     refine (aeY _ 4 fi S w6 B hB6 (hS.below (KV.o.trans (k6.mono hBv))) ((HE2.o.below k6).more k6.size) hf0).mono ?_
     rintro e w7 ⟨rfl,k7⟩
     have k67:=k6.trans (k7.mono k6.size)
     have bt7:=BT2.o.trans (But.of_below (g:=g) k67)
     have fe7:=FE2.o.to k67
     have ia7:=HI2.o.same (k67.block g HI2.o.lt)
     by_cases hlt:bd<fi
     ·have HFI:=zM ((zF cs p (f+1)).2=bd) (by rw [HN.o];show ja fi bd=bd;exact zp (Or.inr hlt))
      have hfe3:wP bd S (.iface T (.pointer (some ad))) w7:=by
       unfold wP
       rw [z6 zO]
       exact (HEV.o.below k67).more k67.size
      clear k6 k7 k67 fe7
      go_wp2_with fail
      go_roundw
      case rel=>exact ⟨f+1,hf8,by go_num,by rw [HFI.o];exact hfe3,by rw [HN.o];exact ia7,bt7⟩
      case measure=>simp [intOf];omega
     ·have HFI:=zM ((zF cs p (f+1)).2=fi) (by rw [HN.o];show ja fi bd=fi;exact z6 zO)
      clear k6 k7 k67
      go_wp2_with fail
      go_roundw
      case rel=>exact ⟨f+1,hf8,by go_num,by rw [HFI.o];exact fe7,by rw [HN.o];exact ia7,bt7⟩
      case measure=>simp [intOf];omega
  ·obtain rfl:f=8:=by omega
   by_cases hff:(zF cs p 8).2=-1
   ·have HFF:=zL hff
    have fe:=FE.o
    rw [hff] at fe
    obtain rfl:u10=.nilIface:=Er.qK fe rfl
    obtain ⟨at_,hat⟩:∃at_,at_=(zF cs p 8).1:=⟨_,rfl⟩
    have ia:=IA1.o
    rw [<-hat] at ia
    have IA2:=zL ia
    have HAT:=zL hat
    obtain ⟨g2,hg2⟩:∃g2,g2=wr.heap.size:=⟨_,rfl⟩
    have hgl:g<g2:=by rw [hg2];exact ia.lt
    have hAl:bA<g2:=by rw [hg2];exact zAU _ _ e0
    have hbl:gb<g2:=by rw [hg2];exact zAU _ _ c0
    have HG2:=zL hg2
    clear hff fe ia hat hg2
    go_wp2_with (at_make;refine wpList_make_full _ rfl (.tmp 61) (.tmp 61) 27 rfl wr.heap.size 3 i1 (.int .i64 0) 1 Tryz.underlying27 hi1 hy0 hy1 .i64 .i64 p.length p.length p.length rfl rfl rfl rfl (by rw [hy2];omega) zA2 (zD _) ?_;intro w5 row5 g5;rw [intRow_new] at row5)
    rw [<-HG2.o] at row5 ⊢
    have ia5:IA w5 g2 p.length (λk=>if k<0 then (k:Int) else 0):=Arw.qA row5 λk _=>rfl
    have k5:Below g2 wr w5:=by rw [HG2.o];exact (zAA _ _).grown g5 (zD _) zA1
    have I5:=zL ia5
    have K5:=zL k5
    have A5:=zL (IA2.o.same (K5.o.block g hgl))
    have E5:=zL ((K5.o.cell (p:=⟨bA,0,none⟩) hAl).trans e0)
    have X5:=zL ((XX.o.but BT.o hgb).below K5.o hbl)
    have hw2:w.heap.size<=g2:=zO
    have W5:=zL ((KX.o.trans (BT.o.below hwg KX.o.size)).trans (K5.o.mono hw2))
    clear row5 g5 ia5 k5 e0 c0 c1 c2 c3
    go_loopw [65] (λiv wx=>∃i:Nat,i<=p.length/\iv=.int .i64 i/\IA wx g2 p.length (λk=>if k<i then (k:Int) else 0)/\qU g2 w5 wx) (λiv _=>p.length - (intOf iv).toNat)
    case atStart=>exact ⟨0,zAK _,rfl,I5.o,qU.refl _ _⟩
    case round=>
     obtain ⟨i,hi,rfl,hia,hon⟩:=hrel
     have HIA:=zL hia
     have HON:=zL hon
     by_cases hin:i<p.length
     ·have d0:=hia.cell hin
      have z0:=hia.frozen i
      have hia2:IA (wr.setCell ⟨g2,i,none⟩ (.int .i64 (i:Int))) g2 p.length (λk=>if k<i+1 then (k:Int) else 0):=HIA.o.qi (k:=i) (.int .i64 (i:Int)) λj _=>by
       show Value.int .i64 (if j<i+1 then (j:Int) else 0)=if j=i then .int .i64 (i:Int) else .int .i64 (if j<i then (j:Int) else 0)
       by_cases hj:j=i
       ·subst hj;rw [zp rfl,zp (Nat.lt_succ_self _)]
       ·rw [z6 hj];congr 1
        by_cases hj2:j<i
        ·rw [zp hj2,zp zO]
        ·rw [z6 hj2,z6 zO]
      have HI2:=zL hia2
      simp only [Nat.lt_irrefl,if_false] at d0
      have r0:(0:Int)<=(i:Int):=zO
      have r1:(i:Int)<(p.length:Int):=zO
      clear hia hon hia2
      go_wp2_with fail
      go_roundw
      case rel=>exact ⟨i+1,hin,by go_num,HI2.o,HON.o.qi i _⟩
      case measure=>simp [intOf];omega
     ·obtain rfl:i=p.length:=by omega
      clear hia hon
      have hkey:IA wr g p.length (λk=>(λx:Int=>at_ x.toNat) (k:Int)):=A5.o.same (HON.o.blk g zO)
      have hid0:IA wr g2 p.length (λk=>(k:Int)):=HIA.o.congr λk hk=>by simp only [zp hk]
      have hcel:wr.cell? ⟨bA,0,none⟩=some (.slice (some ⟨g,0,none⟩) p.length p.length):=(zAb (a:=⟨bA,0,none⟩) (HON.o.blk bA zO)).trans E5.o
      have HSS:=zL (agY (λx:Int=>at_ x.toNat) g2 p.length bA g p.length wr hcel zO zO hkey zO hid0)
      clear hkey hid0 hcel
      go_wp2_with fail
      refine (HSS.o).mono ?_
      rintro e w6 ⟨rfl,f',hf1,hf2,hf3,hf4⟩
      obtain ⟨L,hL⟩:∃L,L=agA at_ p.length:=⟨_,rfl⟩
      have hLl:L.length=p.length:=by rw [hL];exact adQ _ _
      have hfL:∀j (hj:j<L.length),f' j=(L[j]:Int)/\L[j]<p.length:=λj hj=>by
       have e1:(List.range p.length).map (λk=>(f' k).toNat)=L:=by rw [hL];exact hf3
       have h9:(f' j).toNat=L[j]:=by
        have:L[j]?=some (f' j).toNat:=by rw [<-e1,List.getElem?_map,List.getElem?_range zO];rfl
        rw [zAR hj] at this
        injection this with this
        exact this.symm
       have:=hf4 j zO
       exact ⟨by omega,akI (by rw [<-hL];exact zd hj)⟩
      have hgo:ab2 p at_=L.map λk=>(⟨fOf p k,sOf p k,at_ k⟩:Pk):=by rw [hL];rfl
      have on6:qU g2 w5 w6:=HON.o.trans hf2
      have HLL:=zL hLl
      have HFL:=zL hfL
      have HGO:=zL hgo
      have HF1:=zL hf1
      have A6:=zL (A5.o.same (on6.blk g zO))
      have E6:=zL ((zAb (a:=⟨bA,0,none⟩) (on6.blk bA zO)).trans E5.o)
      have X6:=zL (X5.o.same (on6.blk gb zO))
      have z56:=on6.bel.size
      have W6:=zL (W5.o.trans (on6.bel.mono hw2))
      have zl6:g2<w6.heap.size:=hf1.lt
      obtain ⟨i0,hi0,hz0,hz1,hz2⟩:=info_parts ahO
      clear hf1 hf2 hf3 hf4 hL hLl hfL hgo on6 HSS
      go_wp2_with fail
      go_loopw [15,78] (λov iv wx=>∃(j:Nat) (acc:List Pk) (Ao:Option Addr) (co:Nat),j<=p.length/\acc.length=j/\ov=.slice Ao acc.length co/\iv=.int .i64 j/\acc=(ab2 p at_).take j/\wx.ownsRow w6.heap.size 53 3 (.slice Ao acc.length co) acc.length (acc.flatMap Pk.cs)/\Below w6.heap.size w6 wx) (λ_ iv _=>p.length - (intOf iv).toNat)
      case atStart=>exact ⟨0,[],none,0,zAK _,rfl,rfl,rfl,rfl,⟨by simp,.inl ⟨rfl,rfl⟩⟩,zAA _ _⟩
      case round=>
       obtain ⟨j,acc,Ao,co,hj,hacc,rfl,rfl,htk,row,hbw⟩:=hrel
       have zw:=hbw.size
       have ROW:=zL row
       have HTK:=zL htk
       have HACC:=zL hacc
       have hal:acc.length<=300:=zO
       clear row htk hacc
       have a6:=A6.o.same (hbw.block g zO)
       have o6:=HF1.o.same (hbw.block g2 zl6)
       have kw:=W6.o.trans (hbw.mono W6.o.size)
       by_cases hjn:j<p.length
       ·have hjL:j<L.length:=by rw [HLL.o];exact hjn
        obtain ⟨q1,q2⟩:=HFL.o j hjL
        have d0:=o6.cell hjn
        rw [q1] at d0
        obtain ⟨m,hm⟩:∃m,m=L[j]:=⟨_,rfl⟩
        rw [<-hm] at d0 q2
        have d1:=a6.cell q2
        obtain ⟨t,ht⟩:∃t,t=at_ m:=⟨_,rfl⟩
        rw [<-ht] at d1
        have e0:wr.cell? ⟨bA,0,none⟩=some (.slice (some ⟨g,0,none⟩) p.length p.length):=(hbw.cell (p:=⟨bA,0,none⟩) (by show bA<_;omega)).trans E6.o
        obtain ⟨b1,o1,rfl,hb1,s0,s1,s2⟩:=RdP.get (hp.below (kw.mono hB)) q2
        obtain ⟨x,hx⟩:∃x:Pk,x=p[m]:=⟨_,rfl⟩
        rw [<-hx] at s0 s1 s2
        have hnx:(ab2 p at_).take (j+1)=acc++[⟨x.f,x.s,t⟩]:=by
         have hjg:j<(ab2 p at_).length:=by rw [ahS];exact hjn
         rw [zAN hjg,HTK.o]
         congr 1
         simp only [HGO.o,List.getElem_map,<-hm]
         rw [vR q2,yA q2,<-hx,<-ht]
        have HNX:=zL hnx
        have v0:(0:Int)<=(j:Int):=zO
        have v1:(j:Int)<(p.length:Int):=zO
        have v2:(0:Int)<=(m:Int):=zO
        have v3:(m:Int)<(p.length:Int):=zO
        have l0:=zAU wr _ e0
        have l1:=zAU wr _ d1
        simp only at l0 l1
        clear hnx hx ht hm q1 a6 o6
        obtain ⟨V,hV⟩:∃V:World,V=wr.alloc (.cells #[.int .i64 x.f,.int .i64 x.s,.int .i64 t] 53):=⟨_,rfl⟩
        have bV:Below wr.heap.size wr V:=zBy
        have xV:Blk V wr.heap.size 53 #[.int .i64 x.f,.int .i64 x.s,.int .i64 t]:=zBU
        have y0:V.cell? ⟨wr.heap.size,0,none⟩=some (.int .i64 x.f):=xV.cell 0
        have y1:V.cell? ⟨wr.heap.size,1,none⟩=some (.int .i64 x.s):=xV.cell 1
        have y2:V.cell? ⟨wr.heap.size,2,none⟩=some (.int .i64 t):=xV.cell 2
        have RV:=zM (V.ownsRow w6.heap.size 53 3 (.slice Ao acc.length co) acc.length (acc.flatMap Pk.cs)) (by rw [hV];exact ROW.o.alloc _)
        have HV:=zL hV
        have KV:=zL (hbw.trans (bV.mono zw))
        have zV:w6.heap.size<=V.heap.size:=KV.o.size
        have w1':acc.length+[(⟨x.f,x.s,t⟩:Pk)].length<=maxLen:=zA8
        have w2':(acc.length+[(⟨x.f,x.s,t⟩:Pk)].length)*24<=140737488355328:=zBF
        obtain ⟨acc',hacc'⟩:∃acc',acc'=acc++[(⟨x.f,x.s,t⟩:Pk)]:=⟨_,rfl⟩
        have hal':acc'.length=j+1:=by rw [hacc'];simp;exact HACC.o
        have HAL:=zL hal'
        have HA':=zL hacc'
        clear hV bV xV hacc' hal'
        go_upto_region 31 with fail
        rw [<-HV.o]
        clear s0 s1 s2 d0 d1 e0 l0 l1
        go_wp2_with (at_builtin;refine qd _ Pk.cs rfl (.tmp 91) (.tmp 93) 46 rfl w6.heap.size 53 i0 (.agg #[.int .i64 0,.int .i64 0,.int .i64 0]) 3 24 Tryz.underlying46 hi0 hz0 hz1 hz2 rfl zO Pk.qw Pk.qV (.slice Ao acc.length co) acc.length (acc.flatMap Pk.cs) rfl (RV.o.alloc _) (V.heap.size+1) (some ⟨V.heap.size,0,none⟩) 1 [⟨x.f,x.s,t⟩] rfl (RdP.zU ⟨x.f,x.s,t⟩) w1' w2' (qG zV _) ?_;intro v3 w7 row7 g7 at7;obtain ⟨A7,c7,hv7,row7⟩:=qI row7 zO;rw [<-HA'.out] at hv7 row7;rw [hv7];clear hv7)
        have k7:=ql (KV.o.alloc zV _) (RV.o.alloc _) g7 (zD _) (qG zV _)
        clear at7 g7
        go_roundw
        case rel=>exact ⟨j+1,acc',A7,c7,hjn,HAL.o,rfl,by go_num,by rw [HA'.out];exact HNX.o.symm,row7,k7⟩
        case measure=>simp [intOf];omega
       ·obtain rfl:j=p.length:=by omega
        have htk2:acc=ab2 p at_:=by rw [HTK.o,zAZ (by rw [ahS];exact zD _)]
        have HACQ:=zL htk2
        have hxr:=X6.o.below hbw (Nat.lt_trans hbl zl6)
        have c1:=hxr.cell 1
        have c2:=hxr.cell 2
        have c3:=hxr.cell 3
        simp at c1 c2 c3
        have hgbl:gb<wr.heap.size:=hxr.lt
        have KW:=zL kw
        have hre:zq cs (qg K) per ns p=(0,-1):=by
         unfold zq
         rw [z6 (by rw [H1.o];simp),z6 (by rw [HP.o];simp),z6 (by rw [HFF.o];simp)]
        have hq2:uR cs (qg K) per ns p=acc:=by
         unfold uR
         rw [hre,zp rfl,<-HAT.o,htk2]
        have hl2:uS cs (qg K) per ns p=vD (qg K) acc per ns:=by
         unfold uS
         rw [hre,zp rfl,<-HAT.o,htk2]
        have hle:qE (qg K) acc per ns=(0,-1):=by
         rw [htk2,HAT.o]
         exact (aeV (by rw [hre])).2.2.2.2.2
        have hn:qg K<5:=by
         have h9:=amH K
         have h7:qg K≠5:=λe=>by rw [e] at hle;simp [qE] at hle
         omega
        have HRE:=zL hre
        have HQ:=zL hq2
        have HL2:=zL hl2
        have HLE:=zL hle
        have HN:=zL hn
        obtain ⟨F,hF⟩:∃F,F=atX (qg K):=⟨_,rfl⟩
        have HF:=zL hF
        have hce:∀args w,(callFunc F args).run Tryz.prog w=.ok (.enter F args) w:=λargs w=>by rw [hF];exact amM _ hn args w
        have hrow:=RdP.qA ROW.o
        have HROW:=zL hrow
        have HLK:=zL (show ∀w7:World,Below wr.heap.size wr w7->Calls Tryz.prog F #[.slice Ao acc.length co,.int .i64 per,.slice An ns.length cn] w7 (yE Sn.cs 3 64 (vD (qg K) acc per ns) S 0 (-1) w7) from λw7 k7=>by
         have kk:=KW.o.trans (k7.mono KW.o.size)
         have h9:=af1 Ao An co cn acc per ns S w7 w7.heap.size (zD _) ((HROW.o.below k7).more k7.size) ((h'.below (kk.mono hB)).more (zAB hB kk.size)) (((hS.s.below (kk.mono hB)).more (zAB hB kk.size)).sub zA1) zO hl' (qg K) HN.o
         rw [HLE.o] at h9
         rw [HF.o]
         exact h9)
        clear htk2 hxr a6 o6 kw hre hq2 hl2 hle hn hF hrow hjn
        go_wp2_with fail
        go_region_held3 (λw'=>w'.cell? ⟨gb,1,none⟩=some (.string K)/\w'.cell? ⟨gb,2,none⟩=some (.int .i64 per)/\w'.cell? ⟨gb,3,none⟩=some (.slice An ns.length cn))
         (first
          |go_keep
          |exact ⟨(k78.cell (p:=⟨gb,1,none⟩) hgbl).trans c1,(k78.cell (p:=⟨gb,2,none⟩) hgbl).trans c2,(k78.cell (p:=⟨gb,3,none⟩) hgbl).trans c3⟩
          |exact ⟨(k7.cell (p:=⟨gb,1,none⟩) hgbl).trans c1,(k7.cell (p:=⟨gb,2,none⟩) hgbl).trans c2,(k7.cell (p:=⟨gb,3,none⟩) hgbl).trans c3⟩)
         (first
          |(go_at_call 122;refine (ae4 _).mono ?_;rintro e w7 ⟨rfl,hw7⟩;have hb7:w7.heap[wr.heap.size]?=some ac1:=by {rw [hw7];exact heap_alloc_new _ _};have k7:Below wr.heap.size wr w7:=by {rw [hw7];exact ((zAA _ _).drew).alloc (zD _) _};have hlk:(Instr.lookup 207 (.map (some wr.heap.size)) (.string K) false).run Tryz.prog w7=.ok (.func (.func F) #[] #[]) w7:=by {rw [HF.o];exact ajJ w7 _ K false hb7 HN.o};clear hw7)
          |((with_reducible show Calls _ F _ _ _);refine (HLK.o w7 k7).mono ?_;rintro e w8 ⟨A8,c8,v8,rfl,o8,e8,k8⟩;obtain rfl:=e8.qK rfl;have k78:=k7.trans (k8.mono k7.size)))
        all_goals
         have RQ:=zL (own_below ROW.o k78 (zD _))
         have O8:=zL o8
         have K8:=zL (KW.o.trans (k78.mono KW.o.size))
         have zk8:w.heap.size<=w7.heap.size:=zAB KW.o.size k7.size
         clear hlk hb7 c1 c2 c3 k7 k8 k78 o8 e8
         go_wp2_with fail
         go_ret3
         rw [HQ.o,HL2.o,HRE.o]
         exact ⟨Ao,co,A8,c8,_,rfl,qO RQ.o W6.o.size,qO O8.o zk8,.nil,K8.o⟩
   ·have he2:=FE.o
    unfold wP at he2
    rw [z6 hff] at he2
    have HE2:=zL he2
    obtain ⟨T2,ad2,rfl⟩:=he2.qW zA1
    have He:=zM (zq cs (qg K) per ns p=(4,(zF cs p 8).2)) (by unfold zq;rw [z6 (by rw [H1.o];simp),z6 (by rw [HP.o];simp),zp hff])
    have Hq:=zM (uR cs (qg K) per ns p=[]) (by unfold uR;rw [He.o];rfl)
    have Hl:=zM (uS cs (qg K) per ns p=[]) (by unfold uS;rw [He.o];rfl)
    have KF:=zL (KX.o.trans (BT.o.below hwg KX.o.size))
    clear he2 hff e0 c0 c1 c2 c3
    go_wp2_with fail
    go_ret3
    rw [Hq.o,Hl.o,He.o]
    exact ⟨none,0,none,0,_,rfl,⟨by simp,.inl ⟨rfl,rfl⟩⟩,⟨by simp,.inl ⟨rfl,rfl⟩⟩,HE2.o,KF.o⟩
theorem amK (hlp:p.length<=9223372036854775807):Calls Tryz.prog 99 #[.agg #[.slice Ac cs.length cc,.string K,.int .i64 per,.slice An ns.length cn],.slice A p.length c] w (agQ (uR cs (qg K) per ns p) (uS cs (qg K) per ns p) S (zq cs (qg K) per ns p).1 (zq cs (qg K) per ns p).2 w):=by
 by_cases h1:(qF cs (qg K) per ns).1=0
 ·by_cases h2:(qj p).1=0
  ·exact atT Ac An A cc cn c cs K per ns p S w B hB h h' hp hS hl hl' h1 h2
  ·exact awX Ac An A cc cn c cs K per ns p S w B hB h h' hp hS hl hl' hlp h1 h2
 ·exact atU Ac An A cc cn c cs K per ns p S w B hB h h' hS hl hl' h1
end
theorem tl_ne {a b:ByteArray} (h:a≠b):(a.toList==b.data.toList)=false:=by
 rw [beq_eq_false_iff_ne,ByteArray.toList_eq]
 intro e
 exact h (ByteArray.ext (Array.toList_inj.1 e))
theorem yP (a:ByteArray):(a.toList==a.data.toList)=true:=by
 rw [ByteArray.toList_eq]
 exact beq_self_eq_true _
theorem kind_cases (K:ByteArray):((K.toList==([102,105,102,111]:List UInt8))=true/\(K.toList==([114,97,110,107]:List UInt8))=false/\(K.toList==([100,117,101]:List UInt8))=false/\(K.toList==([114,111,117,110,100]:List UInt8))=false/\(K.toList==([102,97,105,114]:List UInt8))=false/\qg K=0)\/((K.toList==([102,105,102,111]:List UInt8))=false/\(K.toList==([114,97,110,107]:List UInt8))=true/\(K.toList==([100,117,101]:List UInt8))=false/\(K.toList==([114,111,117,110,100]:List UInt8))=false/\(K.toList==([102,97,105,114]:List UInt8))=false/\qg K=1)\/((K.toList==([102,105,102,111]:List UInt8))=false/\(K.toList==([114,97,110,107]:List UInt8))=false/\(K.toList==([100,117,101]:List UInt8))=true/\(K.toList==([114,111,117,110,100]:List UInt8))=false/\(K.toList==([102,97,105,114]:List UInt8))=false/\qg K=2)\/((K.toList==([102,105,102,111]:List UInt8))=false/\(K.toList==([114,97,110,107]:List UInt8))=false/\(K.toList==([100,117,101]:List UInt8))=false/\(K.toList==([114,111,117,110,100]:List UInt8))=true/\(K.toList==([102,97,105,114]:List UInt8))=false/\qg K=3)\/((K.toList==([102,105,102,111]:List UInt8))=false/\(K.toList==([114,97,110,107]:List UInt8))=false/\(K.toList==([100,117,101]:List UInt8))=false/\(K.toList==([114,111,117,110,100]:List UInt8))=false/\(K.toList==([102,97,105,114]:List UInt8))=true/\qg K=4)\/((K.toList==([102,105,102,111]:List UInt8))=false/\(K.toList==([114,97,110,107]:List UInt8))=false/\(K.toList==([100,117,101]:List UInt8))=false/\(K.toList==([114,111,117,110,100]:List UInt8))=false/\(K.toList==([102,97,105,114]:List UInt8))=false/\qg K=5):=by
 by_cases h0:K=yS
 ·subst h0
  exact .inl ⟨yP yS,tl_ne (a:=yS) (b:=vK) zA4,tl_ne (a:=yS) (b:=aaC) zA4,tl_ne (a:=yS) (b:=wT) zA4,tl_ne (a:=yS) (b:=uN) zA4,by decide⟩
 by_cases h1:K=vK
 ·subst h1
  exact .inr (.inl ⟨tl_ne (a:=vK) (b:=yS) zA4,yP vK,tl_ne (a:=vK) (b:=aaC) zA4,tl_ne (a:=vK) (b:=wT) zA4,tl_ne (a:=vK) (b:=uN) zA4,by decide⟩)
 by_cases h2:K=aaC
 ·subst h2
  exact .inr (.inr (.inl ⟨tl_ne (a:=aaC) (b:=yS) zA4,tl_ne (a:=aaC) (b:=vK) zA4,yP aaC,tl_ne (a:=aaC) (b:=wT) zA4,tl_ne (a:=aaC) (b:=uN) zA4,by decide⟩))
 by_cases h3:K=wT
 ·subst h3
  exact .inr (.inr (.inr (.inl ⟨tl_ne (a:=wT) (b:=yS) zA4,tl_ne (a:=wT) (b:=vK) zA4,tl_ne (a:=wT) (b:=aaC) zA4,yP wT,tl_ne (a:=wT) (b:=uN) zA4,by decide⟩)))
 by_cases h4:K=uN
 ·subst h4
  exact .inr (.inr (.inr (.inr (.inl ⟨tl_ne (a:=uN) (b:=yS) zA4,tl_ne (a:=uN) (b:=vK) zA4,tl_ne (a:=uN) (b:=aaC) zA4,tl_ne (a:=uN) (b:=wT) zA4,yP uN,by decide⟩))))
 exact .inr (.inr (.inr (.inr (.inr (⟨tl_ne h0,tl_ne h1,tl_ne h2,tl_ne h3,tl_ne h4,by unfold qg;rw [z6 h0,z6 h1,z6 h2,z6 h3,z6 h4]⟩)))))
end Go.Proofs.YtoomffajodheaaaGreatDoor
