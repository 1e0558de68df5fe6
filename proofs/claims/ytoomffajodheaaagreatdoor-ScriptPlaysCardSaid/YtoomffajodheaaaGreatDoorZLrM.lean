/- The proof of ScriptPlays, part LrM. Conditions: in each statement. -/
import Derived.Test.YtoomffajodheaaaGreatDoorZGtM
import Derived.Test.YtoomffajodheaaaGreatDoorZRndOf
import Derived.Test.YtoomffajodheaaaGreatDoorZFoM
set_option linter.all false
namespace Go.Proofs.YtoomffajodheaaaGreatDoor
open Go.RowKit
set_option maxRecDepth 100000
theorem zBI{p:Prop}(h:p:=by simp only [maxLen,zAL,zAg]<;>omega):p:=h
theorem zBK{p:Prop}(h:p:=by have:=HLL9.o;have:=HN.o;have:=HNI.o;have:=HLN.o;have:=HXL.o;have:=HDL.o;omega):p:=h
theorem zBN{p:Prop}(h:p:=by rw [hX];exact below_drewN (below_drewN k2' q) nq):p:=h
theorem zBR{p:Prop}(h:p:=by simp only [zAL,zAg]<;>omega):p:=h
theorem zBY{p:Prop}(h:p:=by simp<;>omega):p:=h
theorem zBi{p:Prop}(h:p:=by rw [htl];rfl):p:=h
theorem zBj{p:Prop}(h:p:=by rw [HS.o,HZ.o,zAi,List.singleton_append]):p:=h
theorem zBl{p:Prop}(h:p:=by rw [hX];exact zY ROW2.o λq hq=>rfl):p:=h
theorem zBu{p:Prop}(h:p:=by rw [hW];exact ((zAA _ _).alloc (zD _) _).alloc (by simp) _):p:=h
theorem zBz{p:Prop}(h:p:=by rw [<-HINS.o];exact ROW8.o):p:=h
theorem zCC{p:Prop}(h:p:=by rw [hX,hz];exact XV2.o):p:=h
theorem zCD{p:Prop}(h:p:=by rw [hX];exact (B0.o.trans (k1.mono B0.o.size)).alloc (B0.o.trans (k1.mono B0.o.size)).size _):p:=h
theorem zCM{p:Prop}(h:p:=by rw [zAh];have:=HN.o;omega):p:=h
theorem zCQ{p:Prop}(h:p:=by rw [hz];exact HPK2.o):p:=h
theorem zCR{p:Prop}(h:p:=by rw [HDN.o];exact λh0=>zAv h0 (by simp)):p:=h
theorem zCc{p:Prop}(h:p:=by rw [<-HINS.o,zAP]):p:=h
theorem zCf{p:Prop}(h:p:=by rw [zAP,htl];rfl):p:=h
theorem zCn{p:Prop}(h:p:=by rw [HLL9.o];simp):p:=h
theorem zCp{p:Prop}(h:p:=by rw [<-HGB.o];exact Nat.le_succ _):p:=h
theorem zCz{p:Prop}(h:p:=by rw [HXL.o];rfl):p:=h
theorem zC0{p:Prop}(h:p:=by rw [HDL.o];rfl):p:=h
theorem zC6{p:Prop}(h:p:=by rw [ae8 (by rw [HGD.o];exact hfb),HGD.o,HSH.o,HNU.o,HA.o]):p:=h
theorem zDA{p:Prop}(h:p:=by
 refine (yg 2 _).mono ?_
 rintro e w1 ⟨rfl,k1⟩
 have y1:=HY.o.below k1 hyl
 have c0:=y1.cell 0
 have c1:=y1.cell 1
 have z0:=y1.frozen 0
 have z1:=y1.frozen 1
 simp only [zc,zE,zj] at c0 c1
 have Y1:=zL y1
 have B1:=zL (hbw.trans (k1.mono zw))
 clear y1 e1 e2 e3 e0
 unfold fv
 go_wp2_with fail
 rw [HE.o,zp zO]
 exact zAt (v:=fv 2 (-1)) (zAs (p:=2) rfl _ _ (w.heap.size+1) 55 #[.int .i64 2,.int .i64 (-1)] (0,0) _ rfl ((Y1.o.qi 0 (.int .i64 2)).qi 1 (.int .i64 (-1))) Tryz.underlying55 rfl zn) rfl ⟨rfl,(B1.o.setCell (p:=⟨w.heap.size+1,0,none⟩) (Nat.le_succ _) _).setCell (p:=⟨w.heap.size+1,1,none⟩) (Nat.le_succ _) _⟩):p:=h
theorem zDB{p:Prop}(h:p:=by
 rintro e w0 ⟨rfl,rfl⟩
 rw [<-HEE.o]
 by_cases hz:E=0
 ·subst hz
  go_wp2_with fail
  refine (jq _).mono ?_
  rintro e w1 ⟨rfl,k1⟩
  have y1:=HY.o.below k1 hyl
  have c0:=y1.cell 0
  have c1:=y1.cell 1
  have z0:=y1.frozen 0
  have z1:=y1.frozen 1
  simp only [zc,zE,zj] at c0 c1
  have Y1:=zL y1
  have B1:=zL (hbw.trans (k1.mono zw))
  clear y1 e1 e2 e3 e0
  unfold fv
  go_wp2_with fail
  rw [HE.o,z6 zO]
  exact zAt (v:=fv 0 (-1)) (zAs (p:=2) rfl _ _ (w.heap.size+1) 55 #[.int .i64 0,.int .i64 (-1)] (0,0) _ rfl ((Y1.o.qi 0 (.int .i64 0)).qi 1 (.int .i64 (-1))) Tryz.underlying55 rfl zn) rfl ⟨rfl,(B1.o.setCell (p:=⟨w.heap.size+1,0,none⟩) (Nat.le_succ _) _).setCell (p:=⟨w.heap.size+1,1,none⟩) (Nat.le_succ _) _⟩
 ·have hz':(0:Int)<(E:Int):=by omega
  go_wp2_with fail
  refine (yg E _).mono ?_
  rintro e w1 ⟨rfl,k1⟩
  have y1:=HY.o.below k1 hyl
  have c0:=y1.cell 0
  have c1:=y1.cell 1
  have z0:=y1.frozen 0
  have z1:=y1.frozen 1
  simp only [zc,zE,zj] at c0 c1
  have Y1:=zL y1
  have B1:=zL (hbw.trans (k1.mono zw))
  clear y1 e1 e2 e3 e0
  unfold fv
  go_wp2_with fail
  rw [HE.o,z6 zO]
  exact zAt (v:=fv E (-1)) (zAs (p:=2) rfl _ _ (w.heap.size+1) 55 #[.int .i64 E,.int .i64 (-1)] (0,0) _ rfl ((Y1.o.qi 0 (.int .i64 E)).qi 1 (.int .i64 (-1))) Tryz.underlying55 rfl zn) rfl ⟨rfl,(B1.o.setCell (p:=⟨w.heap.size+1,0,none⟩) (Nat.le_succ _) _).setCell (p:=⟨w.heap.size+1,1,none⟩) (Nat.le_succ _) _⟩):p:=h
theorem zDD{p:Prop}(h:p:=by
 go_wp2_with fail
 go_loopw [16] (λiv wx=>∃(k:Nat) (a':Nat->Int),k<=nu.length/\iv=.int .i64 k/\IA wx g p.length a'/\atS a nu OS=atS a' (nu.drop k) (OS.drop k)/\qU g wz wx) (λiv _=>nu.length - (intOf iv).toNat)
 case atStart=>exact ⟨0,a,zAK _,rfl,IZ.o,rfl,qU.refl _ _⟩
 case round=>
  obtain ⟨k,a',hk,rfl,hia,hat,hon⟩:=hrel
  have HIA:=zL hia
  have HAT:=zL hat
  have HON:=zL hon
  clear hia hat hon
  by_cases hlt:k<nu.length
  ·have hltO:k<OS.length:=by rw [HL.o];exact hlt
   have rO:=zY RO.o (λb hb=>HON.o.blk b (λe=>by have:=zH RO.o b hb;omega))
   have rN:=zY RN.o (λb hb=>HON.o.blk b (λe=>by have:=zH RN.o b hb;omega))
   obtain ⟨b2,hA2,_,_,y0⟩:=jd rO zO Pk.qw hltO
   obtain ⟨b3,hA3,_,_,y1⟩:=jd rN zO xP hlt
   have z0:=y0 2 _ rfl
   have z1:=y1 0 _ rfl
   simp only [Nat.mul_one,Nat.add_zero] at z1
   subst hA2
   subst hA3
   have hst:=aeH (a:=a) hlt hltO a'
   have hmm:nu[k]∈numsK p f p.length:=zCb
   have hm:nu[k]<p.length:=(uz.1 hmm).1
   obtain ⟨m,hme⟩:∃m,m=nu[k]:=⟨_,rfl⟩
   obtain ⟨t,hte⟩:∃t,t=OS[k].a:=⟨_,rfl⟩
   rw [<-hme,<-hte] at hst
   rw [<-hme] at z1 hm
   rw [<-hte] at z0
   have c0:=HIA.o.cell (k:=m) hm
   have f0:=HIA.o.frozen m
   have HST:=zL hst
   have q1:(0:Int)<=(k:Int):=zO
   have q2:(k:Int)<(nu.length:Int):=zO
   have q3:(k:Int)<(OS.length:Int):=zO
   have q4:(0:Int)<=(m:Int):=zO
   have q5:(m:Int)<(p.length:Int):=zO
   have hia2:IA (wr.setCell ⟨g,m,none⟩ (.int .i64 t)) g p.length (upA a' m t):=HIA.o.qi (k:=m) (.int .i64 t) λj _=>by
    show Value.int .i64 (upA a' m t j)=if j=m then .int .i64 t else .int .i64 (a' j)
    unfold upA
    split<;>rfl
   have HIA2:=zL hia2
   clear hst hme hte hia2 y0 y1 rO rN hmm
   go_wp2_with fail
   go_region
   all_goals
    go_wp2_with fail
    go_roundw
    case rel=>exact ⟨k+1,upA a' m t,hlt,by go_num,HIA2.o,by rw [HAT.o];exact HST.o,ahC (HON.o.qi m _)⟩
    case measure=>simp [intOf];omega
  ·have hfin:atS a nu OS=a':=by
    rw [HAT.o,zAO zO]
    cases OS.drop k<;>rfl
   have HF:=zL hfin
   have hq:¬(k:Int)<(OS.length:Int):=by rw [HL.o];omega
   clear hfin
   go_wp2_with fail
   go_roundw
   case rel=>exact ⟨f+1,hf8,by rw [HN9.o],by go_num,by rw [HN9.o];rw [HF.o];exact HIA.o,KZ.o.trans (But.agI HON.o)⟩
   case measure=>simp [intOf];omega):p:=h
theorem zDI{p:Prop}(h:p:=by
 go_upto_region 43 with (at_builtin;refine qd _ Pk.cs rfl (.tmp 157) (.tmp 159) 46 rfl X.heap.size 53 i0 (.agg #[.int .i64 0,.int .i64 0,.int .i64 0]) 3 24 Tryz.underlying46 hi0 hz0 hz1 hz2 rfl zO Pk.qw Pk.qV (.slice A4 (out.take j).length c4) (out.take j).length ((out.take j).flatMap Pk.cs) zBi (ROW3.o.alloc _) (w3.heap.size+1) (some ⟨w3.heap.size,0,none⟩) 1 [z] rfl (RdP.zU z) zBI zBR zBY ?_;intro v5 w5 row5 g5 at5;obtain ⟨A6,c6,hv6,row6⟩:=qI row5 zO;subst hv6;have ROW6:=zL row6;have k5:=ql (k3.alloc z3 _) (ROW3.o.alloc _) g5 (zD _) zBY;have z5:=k5.size;clear row5 row6 at5 e0 e1 e2)
 have hxl:(out.take j++[z]).length=j+1:=zCf
 have M1:=zM ((out.take j++[z]).length+(out.drop j).length<=maxLen) zA2
 have M2:=zM (((out.take j++[z]).length+(out.drop j).length)*24<=140737488355328) zO
 have HXL:=zL hxl
 have HDL:=zL hdl
 have HTL:=zL htl
 clear hxl hdl htl
 go_wp2_with (at_builtin;(refine qd _ Pk.cs rfl (.tmp 161) (.tmp 164) 46 rfl X.heap.size 53 i0 (.agg #[.int .i64 0,.int .i64 0,.int .i64 0]) 3 24 Tryz.underlying46 hi0 hz0 hz1 hz2 rfl zO Pk.qw Pk.qV (.slice A6 (out.take j++[z]).length c6) (out.take j++[z]).length ((out.take j++[z]).flatMap Pk.cs) zCz ROW6.o X.heap.size (some ⟨b3,o3+j*3,none⟩) (co - j) (out.drop j) zC0 ((HO.o.aqC j).below k5) M1.o M2.o z5 ?_;intro v7 w7 row7 g7 at7;obtain ⟨A8,c8,hv8,row8⟩:=qI row7 zO;subst hv8;have ROW8:=zL row8;have k7:=ql k5 ROW6.o g7 (zD _) z5;clear row7 row8 at7))
 have HINS:=zM (out.take j++[z]++out.drop j=outO p a (i+1)) zBj
 have HLL9:=zM ((outO p a (i+1)).length=i+1) (aaU _ _ _)
 have ROW9:=zM (w7.ownsRow X.heap.size 53 3 (.slice A8 (outO p a (i+1)).length c8) (outO p a (i+1)).length ((outO p a (i+1)).flatMap Pk.cs)) zBz
 have HLN:=zM ((outO p a (i+1)).length=(out.take j++[z]).length+(out.drop j).length) zCc
 go_roundw
 case rel=>exact ⟨i+1,outO p a (i+1),A8,c8,hin,rfl,zAu (λk=>Value.slice A8 k c8) zBK,by go_num,λe=>zAv (zAu List.length e) zCn,qO ROW9.o zX,kX.trans (k7.mono zX)⟩
 case measure=>simp [intOf];omega):p:=h
theorem zDb{p:Prop}(h:p:=by
 go_roundw
 case rel=>exact ⟨i+1,outO p a (i+1),A8,c8,hin,rfl,zAu (λk=>Value.slice A8 k c8) zBK,by go_num,λe=>zAv (zAu List.length e) zCn,qO ROW9.o zX,kX.trans (k7.mono zX)⟩
 case measure=>simp [intOf];omega):p:=h
theorem zDc{p:Prop}(h:p:=by
 go_enter Tryz.func35,Tryz.ntmps35
 go_wp2_with fail
 refine (HL.o).mono ?_
 rintro e w1 ⟨A1,c1,rfl,o1,k1⟩
 have k2:=K0.o.trans (k1.mono K0.o.size)
 have z0:=K0.o.size
 clear e1 e2 e3
 go_wp2_with fail
 go_ret
 rw [HV.o]
 exact ⟨A1,c1,rfl,qO o1 z0,k2⟩):p:=h
theorem zDr{p:Prop}(h:p:=by
 clear hf1
 go_wp2_with fail
 go_roundw
 case rel=>exact ⟨f+1,hf8,by rw [HN9.o];exact zAu (Value.int .i64) HU.o.symm,by go_num,by rw [HN9.o];exact IZ.o,KZ.o⟩
 case measure=>simp [intOf];omega):p:=h
theorem zDs{p:Prop}(h:p:=by
 rw [<-HV.o]
 go_wp2_with fail
 go_region
 all_goals
  go_wp2_with fail
  exact zAt (v:=.tuple #[.slice none 0 0,.slice none 0 0,fv k a]) (vT (t:=4) (u:=5) (p:=6) rfl _ _ (w.heap.size+1) 55 #[.int .i64 k,.int .i64 a] (0,0) _ rfl ((YV.o.qi 0 (.int .i64 k)).qi 1 (.int .i64 a)) Tryz.underlying55 rfl zn) rfl ⟨none,0,none,0,rfl,Rd.ui,Rd.ui,((KV.o.setCell (p:=⟨w.heap.size+1,0,none⟩) (Nat.le_succ _) _).setCell (p:=⟨w.heap.size+1,1,none⟩) (Nat.le_succ _) _).drew⟩):p:=h
theorem zEA{p:Prop}(h:p:=by
 rintro e w0 ⟨rfl,rfl⟩
 rw [<-HEE.o]
 go_wp2_with fail
 exact zDA):p:=h
theorem zEn{p:Prop}(h:p:=by
 have:=Blk.new (w.alloc (.cells #[.slice Ac cs.length cc,.string K,.int .i64 per,.slice An ns.length cn] 45)) 55 #[.int .i64 0,.int .i64 0]
 rw [hW]
 simpa using this):p:=h
theorem zFO{p:Prop}(h:p:=by
 refine (zu An cn ns 0 1099511627776 _ B (h'.below (hbw.mono hB)) hl').mono ?_
 exact zEA):p:=h
theorem zFV{p:Prop}(h:p:=by
 refine (zu An cn ns 1 3000 _ B (h'.below (hbw.mono hB)) hl').mono ?_
 exact zEA):p:=h
theorem zFW{p:Prop}(h:p:=by
 refine (zu An cn ns 0 100 _ B (h'.below (hbw.mono hB)) hl').mono ?_
 exact zEA):p:=h
theorem zFb{p:Prop}(h:p:=by
 refine (uO An cn ns _ B (h'.below (hbw.mono hB)) hl').mono ?_
 exact zEA):p:=h
def gfE (n:Nat) (ns:List Int):Nat:=
 match n with
 |0=>if 0<ns.length then 3 else 0
 |1=>kK ns 0 100
 |2=>kK ns 0 1099511627776
 |3=>kK ns 1 3000
 |_=>um ns
theorem azD (l:List Int):kK l 1 3000=kG l:=by
 refine Eq.symm ?_
 have key:∀(l:List Int) (k:Nat),l.all (λn=>decide (1<=n/\n<=3000))=decide (¬0<=abM l k):=λl=>by
  induction l with
  |nil=>intro k;rfl
  |cons n r ih=>
   intro k
   rw [List.all_cons,ih (k+1)]
   have hq:abM (n::r) k=if aiQ n=true then (k:Int) else abM r (k+1):=rfl
   rw [hq]
   by_cases h:1<=n/\n<=3000
   ·have h1:aiQ n=false:=by unfold aiQ;exact zAH zO
    rw [h1,zAI h]
    simp
   ·have h1:aiQ n=true:=by unfold aiQ;exact zAI zO
    rw [h1,zAH h]
    simp
 unfold kG kK
 by_cases h8:l.length=8
 ·rw [zp h8,zp h8,key l 0]
  by_cases h:0<=abM l 0
  ·rw [zp h,z6 (by simp [h])]
  ·rw [z6 h,zp (by simp [h])]
 ·rw [z6 h8,z6 h8]
theorem jh {n:Nat} (hn:n<5) (per:Int) (ns:List Int):qE n [] per ns=if per<1\/1000<per then (2,-1) else (gfE n ns,-1):=by
 have hl:qm [] per=if per<1\/1000<per then (2,-1) else (0,-1):=by
  unfold qm
  exact z6 (λh=>h rfl)
 by_cases hp:per<1\/1000<per
 ·rw [zp hp] at hl ⊢
  match n,hn with
  |0,_=>unfold qE;simp only [hl];rfl
  |1,_=>unfold qE qM;simp only [hl];rfl
  |2,_=>unfold qE qM;simp only [hl];rfl
  |3,_=>unfold qE zt;simp only [hl];rfl
  |4,_=>unfold qE zQ;simp only [hl];rfl
 ·rw [z6 hp] at hl ⊢
  match n,hn with
  |0,_=>
   unfold qE gfE
   simp only [hl]
   by_cases h:0<ns.length
   ·rw [zp h,zp h];rfl
   ·rw [z6 h,z6 h];rfl
  |1,_=>unfold qE qM gfE;simp only [hl];rw [aqQ];rfl
  |2,_=>unfold qE qM gfE;simp only [hl];rw [aqQ];rfl
  |3,_=>unfold qE zt gfE;simp only [hl];rw [azD];rfl
  |4,_=>unfold qE zQ gfE;simp only [hl];rfl
section
variable (Ac An:Option Addr) (cc cn:Nat) (cs:List (List Ln)) (K:ByteArray) (per:Int) (ns:List Int) (w:World) (B:Nat) (hB:B<=w.heap.size) (h:abF w B Ac cs) (h':RdI w B An ns) (hl:∀l∈cs,l.length<=9223372036854775807) (hl':ns.length<=9223372036854775807)
include hB h h' hl hl'
set_option maxHeartbeats 8000000 in
theorem abB:Calls Tryz.prog 28 #[.agg #[.slice Ac cs.length cc,.string K,.int .i64 per,.slice An ns.length cn]] w λe w'=>e=.returned (fv (qF cs (qg K) per ns).1 (qF cs (qg K) per ns).2)/\Below w.heap.size w w':=by
 have b0:Below w.heap.size w ((w.alloc (.cells #[.slice Ac cs.length cc,.string K,.int .i64 per,.slice An ns.length cn] 45)).alloc (.cells #[.int .i64 0,.int .i64 0] 55)):=((zAA _ _).alloc (zD _) _).alloc zA1 _
 have x0:Blk ((w.alloc (.cells #[.slice Ac cs.length cc,.string K,.int .i64 per,.slice An ns.length cn] 45)).alloc (.cells #[.int .i64 0,.int .i64 0] 55)) w.heap.size 45 #[.slice Ac cs.length cc,.string K,.int .i64 per,.slice An ns.length cn]:=(Blk.new _ _ _).below ((zAA _ _).alloc (zD _) _) zA1
 have y0:Blk ((w.alloc (.cells #[.slice Ac cs.length cc,.string K,.int .i64 per,.slice An ns.length cn] 45)).alloc (.cells #[.int .i64 0,.int .i64 0] 55)) (w.heap.size+1) 55 #[.int .i64 0,.int .i64 0]:=by
  have:=Blk.new (w.alloc (.cells #[.slice Ac cs.length cc,.string K,.int .i64 per,.slice An ns.length cn] 45)) 55 #[.int .i64 0,.int .i64 0]
  simpa using this
 by_cases h8:cs.length=8
 ·have He:=zM (qF cs (qg K) per ns=(if (yR cs 0).1≠0 then yR cs 0 else qE (qg K) [] per ns)) (zp h8)
  rw [h8] at b0 x0 y0
  have H8:=zL h8
  rw [h8]
  have X0:=zL x0
  have Y0:=zL y0
  have B0:=zL b0
  clear h8 x0 b0 y0
  go_enter Tryz.func28,Tryz.ntmps28
  go_wp2_with fail
  go_loopw [3] (λiv wr=>∃k:Nat,k<=8/\iv=.int .i64 k/\yR cs 0=yR (cs.drop k) k/\Below w.heap.size w wr/\Blk wr w.heap.size 45 #[.slice Ac 8 cc,.string K,.int .i64 per,.slice An ns.length cn]/\Blk wr (w.heap.size+1) 55 #[.int .i64 0,.int .i64 0]) (λiv _=>8 - (intOf iv).toNat)
  case atStart=>exact ⟨0,zAK _,rfl,rfl,B0.o,X0.o,Y0.o⟩
  case round=>
   obtain ⟨k,hk,rfl,hbad,hbw,hx,hy⟩:=hrel
   have zw:=hbw.size
   have hzl:=hx.lt
   have hyl:=hy.lt
   have HX:=zL hx
   have HY:=zL hy
   have HB:=zL hbad
   have e0:=hx.cell 0
   simp at e0
   clear hx hy hbad X0 B0 Y0
   by_cases hlt:k<8
   ·have hkl:k<cs.length:=by rw [H8.o];exact hlt
    obtain ⟨b,o,a,c,rfl,hb,d0,hrd⟩:=(h.below (hbw.mono hB)) k hkl
    have hst:=ah5 hkl
    have hll:=hl _ (zd hkl)
    obtain ⟨l,hle⟩:∃l,l=cs[k]:=⟨_,rfl⟩
    rw [<-hle] at d0 hrd hst hll
    have HS:=zL hst
    have HR:=zL hrd
    have u1:(0:Int)<=(k:Int):=zO
    have u2:(k:Int)<8:=zO
    clear hst hle hrd
    by_cases h0:l.length=0
    ·have HN:=zM (yR cs 0=yR (cs.drop (k+1)) (k+1)) (by rw [HB.o,HS.o,zp h0])
     rw [h0] at d0
     clear h0
     go_wp2_with fail
     go_roundw
     case rel=>exact ⟨k+1,hlt,by go_num,HN.o,hbw,HX.o,HY.o⟩
     case measure=>simp [intOf];omega
    ·have u3:((l.length:Int)==0)=false:=by rw [beq_eq_false_iff_ne];omega
     by_cases h1:(qh l).1≠0
     ·have HN:=zM (yR cs 0=((qh l).1,(k:Int))) (by rw [HB.o,HS.o,z6 h0,zp h1])
      have H1:=zL h1
      have u4:(0:Int)<((qh l).1:Int):=zO
      clear h0 h1
      go_wp2_with fail
      refine (kZ a c l _ B (zAB hB zw) HR.o hll).mono ?_
      rintro e w1 ⟨rfl,k1⟩
      have k1':=hbw.trans (k1.mono zw)
      have y1:=HY.o.below k1 hyl
      have y2:Blk (w1.alloc (.cells #[.int .i64 (qh l).1,.int .i64 (qh l).2] 55)) (w.heap.size+1) 55 #[.int .i64 0,.int .i64 0]:=y1.below ((zAA _ _).alloc (zD _) _) y1.lt
      have f2:Blk (w1.alloc (.cells #[.int .i64 (qh l).1,.int .i64 (qh l).2] 55)) w1.heap.size 55 #[.int .i64 (qh l).1,.int .i64 (qh l).2]:=Blk.new _ _ _
      have b2:Below w.heap.size w (w1.alloc (.cells #[.int .i64 (qh l).1,.int .i64 (qh l).2] 55)):=k1'.alloc k1'.size _
      have c0:=y2.cell 0
      have c1:=y2.cell 1
      have z0:=y2.frozen 0
      have z1:=y2.frozen 1
      have x0:=f2.cell 0
      simp only [zc,zE,zj] at c0 c1 x0
      have Y2:=zL y2
      have B2:=zL b2
      clear y1 y2 f2 b2 d0 e0
      unfold fv
      go_wp2_with fail
      rw [He.o,HN.o]
      rw [zp H1.o]
      exact zAt (v:=fv (qh l).1 k) (zAs (p:=2) rfl _ _ (w.heap.size+1) 55 #[.int .i64 (qh l).1,.int .i64 k] (0,0) _ rfl ((Y2.o.qi 0 (.int .i64 (qh l).1)).qi 1 (.int .i64 k)) Tryz.underlying55 rfl zn) rfl ⟨rfl,(B2.o.setCell (p:=⟨w.heap.size+1,0,none⟩) (Nat.le_succ _) _).setCell (p:=⟨w.heap.size+1,1,none⟩) (Nat.le_succ _) _⟩
     ·have HN:=zM (yR cs 0=yR (cs.drop (k+1)) (k+1)) (by rw [HB.o,HS.o,z6 h0,z6 h1])
      have H1:=zM ((qh l).1=0) zO
      clear h0 h1
      go_wp2_with fail
      refine (kZ a c l _ B (zAB hB zw) HR.o hll).mono ?_
      rintro e w1 ⟨rfl,k1⟩
      rw [H1.o]
      have k1':=hbw.trans (k1.mono zw)
      have y1:=HY.o.below k1 hyl
      have x1:=HX.o.below k1 hzl
      have f2:Blk (w1.alloc (.cells #[.int .i64 (0:Nat),.int .i64 (qh l).2] 55)) w1.heap.size 55 #[.int .i64 (0:Nat),.int .i64 (qh l).2]:=Blk.new _ _ _
      have x0:=f2.cell 0
      simp only [zc,zE,zj] at x0
      have Y1:=zL y1
      have X1:=zL x1
      have y1l:=y1.lt
      have x1l:=x1.lt
      clear y1 x1 f2 d0 e0
      unfold fv
      go_wp2_with fail
      go_roundw
      case rel=>exact ⟨k+1,hlt,by go_num,HN.o,k1'.alloc k1'.size _,X1.o.below ((zAA _ _).alloc (zD _) _) x1l,Y1.o.below ((zAA _ _).alloc (zD _) _) y1l⟩
      case measure=>simp [intOf];omega
   ·have HE:=zL (show qF cs (qg K) per ns=qE (qg K) [] per ns by
     rw [He.o,HB.o,zAO (by rw [H8.o];omega)]
     exact z6 (by simp [yR]))
    have e1:=HX.o.cell 1
    have e2:=HX.o.cell 2
    have e3:=HX.o.cell 3
    simp at e1 e2 e3
    clear HB He hk
    have hp3:per<1\/(1<=per/\1000<per)\/(1<=per/\per<=1000):=zO
    rcases kind_cases K with ⟨s0,s1,s2,s3,s4,hn⟩|⟨s0,s1,s2,s3,s4,hn⟩|⟨s0,s1,s2,s3,s4,hn⟩|⟨s0,s1,s2,s3,s4,hn⟩|⟨s0,s1,s2,s3,s4,hn⟩|⟨s0,s1,s2,s3,s4,hn⟩
    ·have HE:=zM (qF cs (qg K) per ns=qE 0 [] per ns) (HE.o.trans (zAu (λk=>qE k [] per ns) hn))
     clear hn
     rw [jh zO] at HE
     by_cases hz:0<ns.length
     ·have hz':(0:Int)<(ns.length:Int):=by omega
      rcases hp3 with p1|⟨p1,p2⟩|⟨p1,p2⟩
      ·go_wp2_with fail
       exact zDA
      ·have p3:(!decide (per<=1000))=true:=by rw [zAH zO];rfl
       go_wp2_with fail
       exact zDA
      ·go_wp2_with fail
       refine (yg 3 _).mono ?_
       rintro e w1 ⟨rfl,k1⟩
       have y1:=HY.o.below k1 hyl
       have c0:=y1.cell 0
       have c1:=y1.cell 1
       have z0:=y1.frozen 0
       have z1:=y1.frozen 1
       simp only [zc,zE,zj] at c0 c1
       have Y1:=zL y1
       have B1:=zL (hbw.trans (k1.mono zw))
       clear y1 e1 e2 e3 e0
       unfold fv
       go_wp2_with fail
       rw [HE.o,z6 zO,show gfE 0 ns=3 from zp hz]
       exact zAt (v:=fv 3 (-1)) (zAs (p:=2) rfl _ _ (w.heap.size+1) 55 #[.int .i64 3,.int .i64 (-1)] (0,0) _ rfl ((Y1.o.qi 0 (.int .i64 3)).qi 1 (.int .i64 (-1))) Tryz.underlying55 rfl zn) rfl ⟨rfl,(B1.o.setCell (p:=⟨w.heap.size+1,0,none⟩) (Nat.le_succ _) _).setCell (p:=⟨w.heap.size+1,1,none⟩) (Nat.le_succ _) _⟩
     ·have hz':¬(0:Int)<(ns.length:Int):=by omega
      rcases hp3 with p1|⟨p1,p2⟩|⟨p1,p2⟩
      ·go_wp2_with fail
       exact zDA
      ·have p3:(!decide (per<=1000))=true:=by rw [zAH zO];rfl
       go_wp2_with fail
       exact zDA
      ·go_wp2_with fail
       refine (jq _).mono ?_
       rintro e w1 ⟨rfl,k1⟩
       have y1:=HY.o.below k1 hyl
       have c0:=y1.cell 0
       have c1:=y1.cell 1
       have z0:=y1.frozen 0
       have z1:=y1.frozen 1
       simp only [zc,zE,zj] at c0 c1
       have Y1:=zL y1
       have B1:=zL (hbw.trans (k1.mono zw))
       clear y1 e1 e2 e3 e0
       unfold fv
       go_wp2_with fail
       rw [HE.o,z6 zO,show gfE 0 ns=0 from z6 hz]
       exact zAt (v:=fv 0 (-1)) (zAs (p:=2) rfl _ _ (w.heap.size+1) 55 #[.int .i64 0,.int .i64 (-1)] (0,0) _ rfl ((Y1.o.qi 0 (.int .i64 0)).qi 1 (.int .i64 (-1))) Tryz.underlying55 rfl zn) rfl ⟨rfl,(B1.o.setCell (p:=⟨w.heap.size+1,0,none⟩) (Nat.le_succ _) _).setCell (p:=⟨w.heap.size+1,1,none⟩) (Nat.le_succ _) _⟩
    ·have HE:=zM (qF cs (qg K) per ns=qE 1 [] per ns) (HE.o.trans (zAu (λk=>qE k [] per ns) hn))
     clear hn
     rw [jh zO] at HE
     obtain ⟨E,hE⟩:∃E,E=kK ns 0 100:=⟨_,rfl⟩
     rw [show gfE 1 ns=E from hE.symm] at HE
     have HEE:=zL hE
     clear hE
     rcases hp3 with p1|⟨p1,p2⟩|⟨p1,p2⟩
     ·go_wp2_with fail
      exact zFW
     ·have p3:(!decide (per<=1000))=true:=by rw [zAH zO];rfl
      go_wp2_with fail
      exact zFW
     ·go_wp2_with fail
      refine (zu An cn ns 0 100 _ B (h'.below (hbw.mono hB)) hl').mono ?_
      exact zDB
    ·have HE:=zM (qF cs (qg K) per ns=qE 2 [] per ns) (HE.o.trans (zAu (λk=>qE k [] per ns) hn))
     clear hn
     rw [jh zO] at HE
     obtain ⟨E,hE⟩:∃E,E=kK ns 0 1099511627776:=⟨_,rfl⟩
     rw [show gfE 2 ns=E from hE.symm] at HE
     have HEE:=zL hE
     clear hE
     rcases hp3 with p1|⟨p1,p2⟩|⟨p1,p2⟩
     ·go_wp2_with fail
      exact zFO
     ·have p3:(!decide (per<=1000))=true:=by rw [zAH zO];rfl
      go_wp2_with fail
      exact zFO
     ·go_wp2_with fail
      refine (zu An cn ns 0 1099511627776 _ B (h'.below (hbw.mono hB)) hl').mono ?_
      exact zDB
    ·have HE:=zM (qF cs (qg K) per ns=qE 3 [] per ns) (HE.o.trans (zAu (λk=>qE k [] per ns) hn))
     clear hn
     rw [jh zO] at HE
     obtain ⟨E,hE⟩:∃E,E=kK ns 1 3000:=⟨_,rfl⟩
     rw [show gfE 3 ns=E from hE.symm] at HE
     have HEE:=zL hE
     clear hE
     rcases hp3 with p1|⟨p1,p2⟩|⟨p1,p2⟩
     ·go_wp2_with fail
      exact zFV
     ·have p3:(!decide (per<=1000))=true:=by rw [zAH zO];rfl
      go_wp2_with fail
      exact zFV
     ·go_wp2_with fail
      refine (zu An cn ns 1 3000 _ B (h'.below (hbw.mono hB)) hl').mono ?_
      exact zDB
    ·have HE:=zM (qF cs (qg K) per ns=qE 4 [] per ns) (HE.o.trans (zAu (λk=>qE k [] per ns) hn))
     clear hn
     rw [jh zO] at HE
     obtain ⟨E,hE⟩:∃E,E=um ns:=⟨_,rfl⟩
     rw [show gfE 4 ns=E from hE.symm] at HE
     have HEE:=zL hE
     clear hE
     rcases hp3 with p1|⟨p1,p2⟩|⟨p1,p2⟩
     ·go_wp2_with fail
      exact zFb
     ·have p3:(!decide (per<=1000))=true:=by rw [zAH zO];rfl
      go_wp2_with fail
      exact zFb
     ·go_wp2_with fail
      refine (uO An cn ns _ B (h'.below (hbw.mono hB)) hl').mono ?_
      exact zDB
    ·have HE:=zM (qF cs (qg K) per ns=qE 5 [] per ns) (HE.o.trans (zAu (λk=>qE k [] per ns) hn))
     clear hn
     rcases hp3 with p1|⟨p1,p2⟩|⟨p1,p2⟩
     all_goals
      go_wp2_with fail
      refine (yg 9 _).mono ?_
      rintro e w1 ⟨rfl,k1⟩
      have y1:=HY.o.below k1 hyl
      have c0:=y1.cell 0
      have c1:=y1.cell 1
      have z0:=y1.frozen 0
      have z1:=y1.frozen 1
      simp only [zc,zE,zj] at c0 c1
      have Y1:=zL y1
      have B1:=zL (hbw.trans (k1.mono zw))
      clear y1 e1 e2 e3 e0
      unfold fv
      go_wp2_with fail
      rw [HE.o,show qE 5 [] per ns=(9,-1) from rfl]
      exact zAt (v:=fv 9 (-1)) (zAs (p:=2) rfl _ _ (w.heap.size+1) 55 #[.int .i64 9,.int .i64 (-1)] (0,0) _ rfl ((Y1.o.qi 0 (.int .i64 9)).qi 1 (.int .i64 (-1))) Tryz.underlying55 rfl zn) rfl ⟨rfl,(B1.o.setCell (p:=⟨w.heap.size+1,0,none⟩) (Nat.le_succ _) _).setCell (p:=⟨w.heap.size+1,1,none⟩) (Nat.le_succ _) _⟩
 ·have He:=zM (qF cs (qg K) per ns=(3,-1)) (z6 h8)
  have h8':((cs.length:Int) !=8)=true:=zA7
  have Y0:=zL y0
  have B0:=zL b0
  clear h8 x0 b0 y0
  go_enter Tryz.func28,Tryz.ntmps28
  go_wp2_with fail
  refine (yg 3 _).mono ?_
  rintro e w1 ⟨rfl,k1⟩
  have y1:=Y0.o.below k1 zA1
  have c0:=y1.cell 0
  have c1:=y1.cell 1
  have z0:=y1.frozen 0
  have z1:=y1.frozen 1
  simp only [zc,zE,zj] at c0 c1
  have HY:=zL y1
  have B1:=zL (B0.o.trans (k1.mono B0.o.size))
  clear y1
  unfold fv
  go_wp2_with fail
  rw [He.o]
  exact zAt (v:=fv 3 (-1)) (zAs (p:=2) rfl _ _ (w.heap.size+1) 55 #[.int .i64 3,.int .i64 (-1)] (0,0) _ rfl ((HY.o.qi 0 (.int .i64 3)).qi 1 (.int .i64 (-1))) Tryz.underlying55 rfl zn) rfl ⟨rfl,(B1.o.setCell (p:=⟨w.heap.size+1,0,none⟩) (Nat.le_succ _) _).setCell (p:=⟨w.heap.size+1,1,none⟩) (Nat.le_succ _) _⟩
end
theorem vT {P:Program} {fn:Func} {t u p:Tmp} {ty:TypeId} (h:fn.results=#[.tmp t,.tmp u,.cell p ty]) (tmps:Array Value) (w:World) (g:Nat) (T:TypeId) (cs:Array Value) (fr:Nat × Nat) (d:TypeDesc)
 (hp:tmps.getD p undef=.pointer (some ⟨g,0,none⟩)) (hg:w.heap[g]?=some (.cells cs T fr))
 (hu:P.underlying ty=some d) (hd:(match d with |.struct _|.array _ _=>true|_=>false)=true) (hi:(P.info? ty).map (·.size)=some cs.size):
 (results fn tmps).run P w=.ok (.tuple #[tmps.getD t undef,tmps.getD u undef,.agg cs]) w:=by
 have hp':tmps[p]?.getD undef=.pointer (some ⟨g,0,none⟩):=by simpa using hp
 simp [results,h,hp',asAddr,run_loadVar_row w g T ty cs fr d hg hu hd hi]
def aeL (q:List Pk) (l:List Sn) (k:Nat) (a:Int) (w:World) (e:Ending) (w':World):Prop:=
 ∃A1 c1 A2 c2,e=.returned (.tuple #[.slice A1 q.length c1,.slice A2 l.length c2,fv k a])/\RdP w' w'.heap.size A1 q/\RdS w' w'.heap.size A2 l/\Below w.heap.size w w'
section
variable (Ac An A:Option Addr) (cc cn c:Nat) (cs:List (List Ln)) (K:ByteArray) (per:Int) (ns:List Int) (p:List Pk) (w:World) (B:Nat) (hB:B<=w.heap.size) (h:abF w B Ac cs) (h':RdI w B An ns) (hl:∀l∈cs,l.length<=9223372036854775807) (hl':ns.length<=9223372036854775807)
include hB h h' hl hl'
set_option maxHeartbeats 8000000 in
theorem an0 (h1:¬(qF cs (qg K) per ns).1=0):Calls Tryz.prog 22 #[.agg #[.slice Ac cs.length cc,.string K,.int .i64 per,.slice An ns.length cn],.slice A p.length c] w (aeL (uR cs (qg K) per ns p) (uS cs (qg K) per ns p) (zq cs (qg K) per ns p).1 (zq cs (qg K) per ns p).2 w):=by
 have He:=zM (zq cs (qg K) per ns p=qF cs (qg K) per ns) (zp h1)
 have Hq:=zM (uR cs (qg K) per ns p=[]) (z6 (by rw [He.o];exact h1))
 have Hl:=zM (uS cs (qg K) per ns p=[]) (z6 (by rw [He.o];exact h1))
 rw [He.o,Hq.o,Hl.o]
 obtain ⟨W,hW⟩:∃W:World,W=(w.alloc (.cells #[.slice Ac cs.length cc,.string K,.int .i64 per,.slice An ns.length cn] 45)).alloc (.cells #[.int .i64 0,.int .i64 0] 55):=⟨_,rfl⟩
 have b0:Below w.heap.size w W:=by rw [hW];exact ((zAA _ _).alloc (zD _) _).alloc zA1 _
 have y0:Blk W (w.heap.size+1) 55 #[.int .i64 0,.int .i64 0]:=zEn
 have HF:=zL (abB Ac An cc cn cs K per ns W B (zAB hB b0.size) (h.below (b0.mono hB)) (h'.below (b0.mono hB)) hl hl')
 have HW:=zL hW
 have B0:=zL b0
 have Y0:=zL y0
 obtain ⟨k,hk⟩:∃k,k=(qF cs (qg K) per ns).1:=⟨_,rfl⟩
 obtain ⟨a,ha⟩:∃a,a=(qF cs (qg K) per ns).2:=⟨_,rfl⟩
 rw [<-hk] at h1
 rw [<-hk,<-ha] at HF ⊢
 have u1:((k:Int)==0)=false:=zBf
 have u2:(0:Int)<(k:Int):=zO
 clear hW b0 y0 h1 hk ha
 go_enter Tryz.func22,Tryz.ntmps22
 go_wp2_with fail
 rw [<-HW.o]
 refine (HF.o).mono ?_
 rintro e w1 ⟨rfl,k1⟩
 have y1:=Y0.o.below k1 Y0.o.lt
 obtain ⟨V,hV⟩:∃V:World,V=w1.alloc (.cells #[.int .i64 k,.int .i64 a] 55):=⟨_,rfl⟩
 have yV:Blk V (w.heap.size+1) 55 #[.int .i64 0,.int .i64 0]:=by rw [hV];exact y1.below ((zAA _ _).alloc (zD _) _) y1.lt
 have fV:Blk V w1.heap.size 55 #[.int .i64 k,.int .i64 a]:=zBU
 have kV:Below w.heap.size w V:=by rw [hV];exact (B0.o.trans (k1.mono B0.o.size)).alloc (B0.o.trans (k1.mono B0.o.size)).size _
 have x0:=fV.cell 0
 have x1:=fV.cell 1
 have c0:=yV.cell 0
 have c1:=yV.cell 1
 have z0:=yV.frozen 0
 have z1:=yV.frozen 1
 simp only [zc,zE,zj] at x0 x1 c0 c1
 have HV:=zL hV
 have YV:=zL yV
 have KV:=zL kV
 unfold fv
 clear hV yV kV k1 y1
 go_upto_region 2 with fail
 exact zDs
set_option maxHeartbeats 8000000 in
theorem ar7 (hp:RdP w B A p) (hlp:p.length<=9223372036854775807) (h1:(qF cs (qg K) per ns).1=0) (h2:¬(qj p).1=0):Calls Tryz.prog 22 #[.agg #[.slice Ac cs.length cc,.string K,.int .i64 per,.slice An ns.length cn],.slice A p.length c] w (aeL (uR cs (qg K) per ns p) (uS cs (qg K) per ns p) (zq cs (qg K) per ns p).1 (zq cs (qg K) per ns p).2 w):=by
 have He:=zM (zq cs (qg K) per ns p=qj p) ((z6 (λh9=>h9 h1)).trans (zp h2))
 have Hq:=zM (uR cs (qg K) per ns p=[]) (z6 (by rw [He.o];exact h2))
 have Hl:=zM (uS cs (qg K) per ns p=[]) (z6 (by rw [He.o];exact h2))
 have hg:=(xL h1).2.2.2
 rw [He.o,Hq.o,Hl.o]
 obtain ⟨W,hW⟩:∃W:World,W=(w.alloc (.cells #[.slice Ac cs.length cc,.string K,.int .i64 per,.slice An ns.length cn] 45)).alloc (.cells #[.int .i64 0,.int .i64 0] 55):=⟨_,rfl⟩
 have b0:Below w.heap.size w W:=by rw [hW];exact ((zAA _ _).alloc (zD _) _).alloc zA1 _
 have y0:Blk W (w.heap.size+1) 55 #[.int .i64 0,.int .i64 0]:=zEn
 have hf:=abB Ac An cc cn cs K per ns W B (zAB hB b0.size) (h.below (b0.mono hB)) (h'.below (b0.mono hB)) hl hl'
 rw [hg] at hf
 have HF:=zL hf
 have HW:=zL hW
 have B0:=zL b0
 have Y0:=zL y0
 obtain ⟨k,hk⟩:∃k,k=(qj p).1:=⟨_,rfl⟩
 obtain ⟨a,ha⟩:∃a,a=(qj p).2:=⟨_,rfl⟩
 have HK:=zL hk
 have HA:=zL ha
 rw [<-hk] at h2
 rw [<-hk,<-ha]
 have u2:(0:Int)<(k:Int):=zO
 clear hW b0 y0 h1 h2 hk ha hg hf
 go_enter Tryz.func22,Tryz.ntmps22
 go_wp2_with fail
 rw [<-HW.o]
 refine (HF.o).mono ?_
 rintro e w1 ⟨rfl,k1⟩
 have y1:=Y0.o.below k1 Y0.o.lt
 obtain ⟨X,hX⟩:∃X:World,X=w1.alloc (.cells #[.int .i64 0,.int .i64 (-1)] 55):=⟨_,rfl⟩
 have yX:Blk X (w.heap.size+1) 55 #[.int .i64 0,.int .i64 0]:=by rw [hX];exact y1.below ((zAA _ _).alloc (zD _) _) y1.lt
 have fX:Blk X w1.heap.size 55 #[.int .i64 0,.int .i64 (-1)]:=zCW
 have kX:Below w.heap.size w X:=zCD
 have z1w:w.heap.size+2<=w1.heap.size:=by
  have e1:=k1.size
  have e2:=HW.o
  rw [e2] at e1
  simpa using e1
 have x0:=fX.cell 0
 simp only [zc,zE,zj] at x0
 have HX:=zL hX
 have YX:=zL yX
 have FX:=zL fX
 have KX:=zL kX
 obtain ⟨fb,hfb⟩:∃fb,fb=w1.heap.size:=⟨_,rfl⟩
 have HFB:=zL hfb
 unfold fv
 clear hX yX fX kX k1 y1
 go_upto_region 2 with fail
 rw [<-HX.o]
 rw [<-hfb] at x0 z1w FX ⊢
 clear hfb
 go_wp2_with fail
 refine (vU A c p X B (zAB hB KX.o.size) (hp.below (KX.o.mono hB)) hlp).mono ?_
 rintro e w2 ⟨rfl,k2⟩
 rw [<-HK.o,<-HA.o]
 have y2:=YX.o.below k2 YX.o.lt
 have f2:=FX.o.below k2 FX.o.lt
 obtain ⟨V,hV⟩:∃V:World,V=(w2.setCell ⟨fb,0,none⟩ (.int .i64 k)).setCell ⟨fb,1,none⟩ (.int .i64 a):=⟨_,rfl⟩
 have fV:Blk V fb 55 #[.int .i64 k,.int .i64 a]:=by rw [hV];exact (f2.qi 0 (.int .i64 k)).qi 1 (.int .i64 a)
 have yV:Blk V (w.heap.size+1) 55 #[.int .i64 0,.int .i64 0]:=by rw [hV];exact y2.same (((zAF _ ⟨fb,1,none⟩ _ _ (by show w.heap.size+1≠fb;omega)).trans (zAF _ ⟨fb,0,none⟩ _ _ (by show w.heap.size+1≠fb;omega))))
 have kV:Below w.heap.size w V:=by rw [hV];exact ((KX.o.trans (k2.mono KX.o.size)).setCell (p:=⟨fb,0,none⟩) (by show w.heap.size<=fb;omega) _).setCell (p:=⟨fb,1,none⟩) (by show w.heap.size<=fb;omega) _
 have q0:=f2.cell 0
 have q1:=f2.cell 1
 have r0:=f2.frozen 0
 have r1:=f2.frozen 1
 have x0:=fV.cell 0
 have x1:=fV.cell 1
 have c0:=yV.cell 0
 have c1:=yV.cell 1
 have z0:=yV.frozen 0
 have z1:=yV.frozen 1
 simp only [zc,zE,zj] at q0 q1 x0 x1 c0 c1
 have HV:=zL hV
 have YV:=zL yV
 have KV:=zL kV
 unfold fv
 clear hV yV kV k2 y2 f2
 go_upto_region 4 with fail
 exact zDs
end
set_option maxHeartbeats 8000000 in
theorem aoZ (Ac An A:Option Addr) (m cc cn c:Nat) (K:ByteArray) (per:Int) (ns:List Int) (p:List Pk) (w:World) (B:Nat) (hB:B<=w.heap.size) (h:RdP w B A p) (h':RdI w B An ns) (he:(qE (qg K) p per ns).1=0):
 Calls Tryz.prog 35 #[.agg #[.slice Ac m cc,.string K,.int .i64 per,.slice An ns.length cn],.slice A p.length c] w (vI Sn.cs 3 64 (vD (qg K) p per ns) w):=by
 have k0:Below w.heap.size w (w.alloc (.cells #[.slice Ac m cc,.string K,.int .i64 per,.slice An ns.length cn] 45)):=(zAA _ _).alloc (zD _) _
 have hB0:B<=(w.alloc (.cells #[.slice Ac m cc,.string K,.int .i64 per,.slice An ns.length cn] 45)).heap.size:=zAB hB k0.size
 have hr:=h.below (k0.mono hB)
 have hr':=h'.below (k0.mono hB)
 have K0:=zL k0
 have HR:=zL hr
 have HR':=zL hr'
 have x0:Blk (w.alloc (.cells #[.slice Ac m cc,.string K,.int .i64 per,.slice An ns.length cn] 45)) w.heap.size 45 #[.slice Ac m cc,.string K,.int .i64 per,.slice An ns.length cn]:=Blk.new _ _ _
 have e1:=x0.cell 1
 have e2:=x0.cell 2
 have e3:=x0.cell 3
 simp only [zc,zE,zj] at e1 e2 e3
 clear x0 k0 hr hr' h h'
 rcases kind_cases K with ⟨s0,s1,s2,s3,s4,hn⟩|⟨s0,s1,s2,s3,s4,hn⟩|⟨s0,s1,s2,s3,s4,hn⟩|⟨s0,s1,s2,s3,s4,hn⟩|⟨s0,s1,s2,s3,s4,hn⟩|⟨s0,s1,s2,s3,s4,hn⟩
 ·rw [hn] at he ⊢
  clear hn
  have hlk:(qm p per).1=0:=by
   by_cases h9:(qm p per).1=0
   ·exact h9
   ·unfold qE at he;rw [zp h9] at he;exact zAv he h9
  have HV:=zM (vD 0 p per ns=af5 p per) (zp he)
  obtain ⟨_,l3,l4,l5,l6⟩:=zI hlk
  have hs:=xe hlk
  have HL:=zL (apK A c p per _ B hB0 HR.o l4 hs l3 l5 l6)
  clear hs l4 hlk he
  exact zDc
 ·rw [hn] at he ⊢
  clear hn
  obtain ⟨hlk,hnum,h8,hb,-⟩:=uT (show (qM p per ns 100).1=0 from he)
  have HV:=zM (vD 1 p per ns=xR p per (xO p ns)) (zp he)
  obtain ⟨_,l3,l4,l5,l6⟩:=zI hlk
  have hs:=xe hlk
  have HL:=zL (aoD A An c cn p per ns _ B hB0 HR.o HR'.out l4 hs l3 l5 l6 h8)
  clear hs l4 hlk he hnum h8 hb
  exact zDc
 ·rw [hn] at he ⊢
  clear hn
  obtain ⟨hlk,hnum,h8,hb,-⟩:=uT (show (qM p per ns 1099511627776).1=0 from he)
  have HV:=zM (vD 2 p per ns=xR p per (vH p ns)) (zp he)
  obtain ⟨_,l3,l4,l5,l6⟩:=zI hlk
  have hs:=xe hlk
  have HL:=zL (apP A An c cn p per ns _ B hB0 HR.o HR'.out l4 hs l3 l5 l6 h8 hb)
  clear hs l4 hlk he hnum h8 hb
  exact zDc
 ·rw [hn] at he ⊢
  clear hn
  obtain ⟨hlk,hnum,h8,hb,-⟩:=aaF (show (zt p per ns).1=0 from he)
  have HV:=zM (vD 3 p per ns=acU p per ns) (zp he)
  obtain ⟨_,l3,l4,l5,l6⟩:=zI hlk
  have hs:=xe hlk
  have HL:=zL (alL A An c cn p per ns _ B hB0 HR.o HR'.out l4 hs l3 l5 l6 h8 hb)
  clear hs l4 hlk he hnum h8 hb
  exact zDc
 ·rw [hn] at he ⊢
  clear hn
  obtain ⟨hlk,hnum,h8,hb,-⟩:=kU (show (zQ p per ns).1=0 from he)
  have HV:=zM (vD 4 p per ns=ah1 p per ns) (zp he)
  obtain ⟨_,l3,l4,l5,l6⟩:=zI hlk
  have hs:=xe hlk
  have HL:=zL (apM A An c cn p per ns _ B hB0 HR.o HR'.out l4 hs l3 l5 l6 h8 (acR hb))
  clear hs l4 hlk he hnum h8 hb
  go_enter Tryz.func35,Tryz.ntmps35
  go_wp2_with fail
  refine (HL.o).mono ?_
  rintro e w1 ⟨A1,c1,A2,c2,rfl,o1,-,k1⟩
  have k2:=K0.o.trans (k1.mono K0.o.size)
  have z0:=K0.o.size
  clear e1 e2 e3
  go_wp2_with fail
  go_ret
  rw [HV.o]
  exact ⟨A1,c1,rfl,qO o1 z0,k2⟩
 ·rw [hn] at he
  exact zAv he (by simp [qE])
theorem RdP.adN {w:World} {B:Nat} {A:Option Addr} {l:List Pk} (h:RdP w B A l) (j:Nat):RdP w B A (l.take j):=λh0=>by
 obtain ⟨b,o,e,hb,hc⟩:=h (by rw [zAh] at h0;omega)
 refine ⟨b,o,e,hb,λi x hx=>hc i x ?_⟩
 rw [List.getElem?_take] at hx
 by_cases hi:i<j
 ·rw [zp hi] at hx;exact hx
 ·rw [z6 hi] at hx;cases hx
theorem RdP.aqC {w:World} {B b o:Nat} {l:List Pk} (h:RdP w B (some ⟨b,o,none⟩) l) (j:Nat):RdP w B (some ⟨b,o+j*3,none⟩) (l.drop j):=λh0=>by
 obtain ⟨b',o',e,hb,hc⟩:=h (by rw [List.length_drop] at h0;omega)
 simp only [zAC,zAS,and_true] at e
 obtain ⟨rfl,rfl⟩:=e
 refine ⟨b,o+j*3,rfl,hb,λi x hx q v hv=>?_⟩
 rw [List.getElem?_drop] at hx
 have:=hc (j+i) x hx q v hv
 rw [show o+(j+i)*3+q=o+j*3+i*3+q by omega] at this
 exact this
theorem avX {w:World} {base:Nat} {e:TypeId} {sz:Nat} {A:Option Addr} {n c:Nat} {xs:List Value} (h:w.ownsRow base e sz (.slice A n c) n xs):n<=c:=by
 obtain ⟨_,⟨h1,h2⟩|⟨g,cap,cur,hv,hg,hh,hn,hc,hs,ht⟩⟩:=h
 ·omega
 ·simp only [zAp,true_and] at hv
  omega
theorem ahC {g:Nat} {w w':World} (h:qU g w w'):qU g w w'.drew:=⟨h.bel.drew,h.blk⟩
section
variable (Ac An A:Option Addr) (cc cn c:Nat) (cs:List (List Ln)) (K:ByteArray) (per:Int) (ns:List Int) (p:List Pk) (w:World) (B:Nat) (hB:B<=w.heap.size) (h:abF w B Ac cs) (h':RdI w B An ns) (hp:RdP w B A p) (hl:∀l∈cs,l.length<=9223372036854775807) (hl':ns.length<=9223372036854775807)
include hB h h' hp hl hl'
set_option maxHeartbeats 16000000 in
theorem anZ (h1:(qF cs (qg K) per ns).1=0) (h2:(qj p).1=0):Calls Tryz.prog 22 #[.agg #[.slice Ac cs.length cc,.string K,.int .i64 per,.slice An ns.length cn],.slice A p.length c] w (aeL (uR cs (qg K) per ns p) (uS cs (qg K) per ns p) (zq cs (qg K) per ns p).1 (zq cs (qg K) per ns p).2 w):=by
 have h300:=vg h2
 obtain ⟨h8,hcs,hlk,hg⟩:=xL h1
 have H1:=zL h1
 have H2p:=zL (uU h2)
 have HPK:=zL h2
 have H8:=zL h8
 have HCS:=zL hcs
 obtain ⟨i0,hi0,hz0,hz1,hz2⟩:=info_parts ahO
 obtain ⟨i1,hi1,hy0,hy1,hy2⟩:=info_parts wO
 obtain ⟨W,hW⟩:∃W:World,W=(w.alloc (.cells #[.slice Ac 8 cc,.string K,.int .i64 per,.slice An ns.length cn] 45)).alloc (.cells #[.int .i64 0,.int .i64 0] 55):=⟨_,rfl⟩
 have b0:Below w.heap.size w W:=by rw [hW];exact ((zAA _ _).alloc (zD _) _).alloc zA1 _
 have y0:Blk W (w.heap.size+1) 55 #[.int .i64 0,.int .i64 0]:=by
  have:=Blk.new (w.alloc (.cells #[.slice Ac 8 cc,.string K,.int .i64 per,.slice An ns.length cn] 45)) 55 #[.int .i64 0,.int .i64 0]
  rw [hW]
  simpa using this
 have g0:Blk W w.heap.size 45 #[.slice Ac 8 cc,.string K,.int .i64 per,.slice An ns.length cn]:=by rw [hW];exact (Blk.new _ _ _).below ((zAA _ _).alloc (zD _) _) zA1
 have zW2:W.heap.size=w.heap.size+2:=by rw [hW];simp
 have hf:=abB Ac An cc cn cs K per ns W B (zAB hB b0.size) (h.below (b0.mono hB)) (h'.below (b0.mono hB)) hl hl'
 rw [hg,h8] at hf
 rw [h8]
 obtain ⟨gb,hgb⟩:∃gb,gb=w.heap.size:=⟨_,rfl⟩
 have HGB:=zL hgb
 rw [<-hgb] at y0 g0 zW2
 have HF:=zL hf
 have HW:=zL hW
 have B0:=zL b0
 have Y0:=zL y0
 have G0:=zL g0
 clear hW b0 y0 g0 h1 h2 h8 hcs hlk hg hf hgb
 go_enter Tryz.func22,Tryz.ntmps22
 go_wp2_with fail
 rw [<-HGB.o]
 rw [HGB.o,<-HW.o,<-HGB.o]
 refine (HF.o).mono ?_
 rintro e w1 ⟨rfl,k1⟩
 have y1:=Y0.o.below k1 Y0.o.lt
 have g1:=G0.o.below k1 G0.o.lt
 obtain ⟨X,hX⟩:∃X:World,X=w1.alloc (.cells #[.int .i64 0,.int .i64 (-1)] 55):=⟨_,rfl⟩
 have yX:Blk X (gb+1) 55 #[.int .i64 0,.int .i64 0]:=by rw [hX];exact y1.below ((zAA _ _).alloc (zD _) _) y1.lt
 have gX:Blk X gb 45 #[.slice Ac 8 cc,.string K,.int .i64 per,.slice An ns.length cn]:=by rw [hX];exact g1.below ((zAA _ _).alloc (zD _) _) g1.lt
 have fX:Blk X w1.heap.size 55 #[.int .i64 0,.int .i64 (-1)]:=zCW
 have kX:Below w.heap.size w X:=zCD
 have z1w:gb+2<=w1.heap.size:=by have:=k1.size;omega
 have x0:=fX.cell 0
 simp only [zc,zE,zj] at x0
 have HX:=zL hX
 have YX:=zL yX
 have GX:=zL gX
 have FX:=zL fX
 have KX:=zL kX
 obtain ⟨fb,hfb⟩:∃fb,fb=w1.heap.size:=⟨_,rfl⟩
 unfold fv
 clear hX yX fX gX kX k1 y1 g1
 go_upto_region 2 with fail
 rw [<-HX.o]
 rw [<-hfb] at x0 z1w FX ⊢
 clear hfb
 go_wp2_with fail
 refine (vU A c p X B (zAB hB KX.o.size) (hp.below (KX.o.mono hB)) zO).mono ?_
 rintro e w2 ⟨rfl,k2⟩
 rw [H2p.o]
 have y2:=YX.o.below k2 YX.o.lt
 have g2:=GX.o.below k2 GX.o.lt
 have f2:=FX.o.below k2 FX.o.lt
 have hBg:w.heap.size<=fb:=by have:=HGB.o;omega
 obtain ⟨V,hV⟩:∃V:World,V=(w2.setCell ⟨fb,0,none⟩ (.int .i64 0)).setCell ⟨fb,1,none⟩ (.int .i64 (-1)):=⟨_,rfl⟩
 have fV:Blk V fb 55 #[.int .i64 0,.int .i64 (-1)]:=by rw [hV];exact (f2.qi 0 (.int .i64 0)).qi 1 (.int .i64 (-1))
 have yV:Blk V (gb+1) 55 #[.int .i64 0,.int .i64 0]:=by rw [hV];exact y2.same (((zAF _ ⟨fb,1,none⟩ _ _ (by show gb+1≠fb;omega)).trans (zAF _ ⟨fb,0,none⟩ _ _ (by show gb+1≠fb;omega))))
 have gV:Blk V gb 45 #[.slice Ac 8 cc,.string K,.int .i64 per,.slice An ns.length cn]:=by rw [hV];exact g2.same (((zAF _ ⟨fb,1,none⟩ _ _ (by show gb≠fb;omega)).trans (zAF _ ⟨fb,0,none⟩ _ _ (by show gb≠fb;omega))))
 have kV:Below w.heap.size w V:=by rw [hV];exact ((KX.o.trans (k2.mono KX.o.size)).setCell (p:=⟨fb,0,none⟩) hBg _).setCell (p:=⟨fb,1,none⟩) hBg _
 have q0:=f2.cell 0
 have q1:=f2.cell 1
 have r0:=f2.frozen 0
 have r1:=f2.frozen 1
 have x0:=fV.cell 0
 simp only [zc,zE,zj] at q0 q1 x0
 have HV:=zL hV
 have YV:=zL yV
 have GV:=zL gV
 have FV:=zL fV
 have KV:=zL kV
 have zgV:=gV.lt
 have zfV:=fV.lt
 have zyV:=yV.lt
 unfold fv
 clear hV yV kV gV fV k2 y2 f2 g2
 go_upto_region 4 with fail
 rw [<-HV.o]
 clear q0 q1 r0 r1
 go_wp2_with (at_make;refine wpList_make_full _ rfl (.tmp 35) (.tmp 35) 27 rfl V.heap.size 3 i1 (.int .i64 0) 1 Tryz.underlying27 hi1 hy0 hy1 .i64 .i64 p.length p.length p.length rfl rfl rfl rfl (by rw [hy2];omega) zA2 (zD _) ?_;intro w3 row3 g3;rw [intRow_new] at row3)
 have ia3:IA w3 V.heap.size p.length (zF cs p 0).1:=Arw.qA row3 λk _=>rfl
 have k3:Below V.heap.size V w3:=(zAA _ _).grown g3 (zD _) zA1
 obtain ⟨g,hg⟩:∃g,g=V.heap.size:=⟨_,rfl⟩
 rw [<-hg] at ia3 zgV zfV zyV ⊢
 have G3:=zL (GV.o.below k3 GV.o.lt)
 have Y3:=zL (YV.o.below k3 YV.o.lt)
 have F3:=zL (FV.o.below k3 FV.o.lt)
 have K3:=zL (KV.o.trans (k3.mono KV.o.size))
 have I3:=zL ia3
 have hwg:w.heap.size<=g:=by rw [hg];exact KV.o.size
 have hBg2:B<=g:=zAB hB hwg
 have ngb:gb≠g:=zO
 have nyb:gb+1≠g:=zO
 have nfb:fb≠g:=zO
 clear row3 g3 ia3 k3 x0 hg
 go_loopw [8,10] (λnv iv wr=>∃f:Nat,f<=8/\nv=.int .i64 (zF cs p f).2/\iv=.int .i64 f/\IA wr g p.length (zF cs p f).1/\But g w3 wr) (λ_ iv _=>8 - (intOf iv).toNat)
 case atStart=>exact ⟨0,zAK _,rfl,rfl,I3.o,But.refl _ _⟩
 case round=>
  obtain ⟨f,hf,rfl,rfl,hia,hbut⟩:=hrel
  have c0:=(G3.o.but hbut ngb).cell 0
  simp only [zc,zE] at c0
  have hgbY:=(G3.o.but hbut ngb).lt
  have hgY:=hia.lt
  obtain ⟨a,ha⟩:∃a,a=(zF cs p f).1:=⟨_,rfl⟩
  have HA:=zL ha.symm
  rw [<-ha] at hia
  have IAY:=zL hia
  have BT:=zL hbut
  have kr:Below B w wr:=(K3.o.mono hB).trans (hbut.below hBg2 (zAB hB K3.o.size))
  have hBY:B<=wr.heap.size:=zAB hB kr.size
  have KR:=zL kr
  obtain ⟨Y,hY⟩:∃Y:World,Y=wr:=⟨_,rfl⟩
  subst hY
  clear hia hbut kr ha
  by_cases hf8:f<8
  ·skip
   have u1:(0:Int)<=(f:Int):=zO
   have u2:(f:Int)<8:=zO
   go_wp2_with fail
   go_loopw [11,12,13] (λv1 v2 iv wx=>∃(k:Nat) (A1:Option Addr) (c1:Nat) (A2:Option Addr) (c2:Nat),k<=p.length/\v1=.slice A1 (ownK p f k).length c1/\v2=.slice A2 (numsK p f k).length c2/\iv=.int .i64 k/\afL wx Y.heap.size A1 c1 (ownK p f k) A2 c2 (numsK p f k)/\Below Y.heap.size Y wx) (λ_ _ iv _=>p.length - (intOf iv).toNat)
   case atStart=>exact ⟨0,none,0,none,0,zAK _,rfl,rfl,rfl,afL.ui _ _,zAA _ _⟩
   case round=>
    obtain ⟨k,A1,c1,A2,c2,hk,rfl,rfl,rfl,h2,hbw⟩:=hrel
    have zw:=hbw.size
    have kw:=KR.o.trans (hbw.mono hBY)
    have H2:=zL h2
    clear h2
    by_cases hlt:k<p.length
    ·obtain ⟨b1,o1,rfl,hb1,e0,e1,e2⟩:=RdP.get (hp.below kw) hlt
     obtain ⟨x,hx⟩:∃x:Pk,x=p[k]:=⟨_,rfl⟩
     have hxf:fOf p k=x.f:=by rw [vR hlt,hx]
     have hxd:p.getD k ⟨0,0,0⟩=x:=by rw [ad1 hlt,hx]
     rw [<-hx] at e0 e1 e2
     have HXD:=zL hxd
     have v1:(0:Int)<=(k:Int):=zO
     have v2:(k:Int)<(p.length:Int):=zO
     clear hx hxd
     by_cases hxe:x.f=(f:Int)
     ·have HO:=zL (alT (p:=p) (f:=f) (k:=k) (hxf.trans hxe))
      have HN:=zL (ae2 (p:=p) (f:=f) (k:=k) (hxf.trans hxe))
      have hlo:(ownK p f k).length<=k:=by rw [jg];exact jW p f k
      have hln:=jW p f k
      obtain ⟨ow,how⟩:∃ow,ow=ownK p f k:=⟨_,rfl⟩
      obtain ⟨nu,hnu⟩:∃nu,nu=numsK p f k:=⟨_,rfl⟩
      obtain ⟨ow',how'⟩:∃ow',ow'=ow++[x]:=⟨_,rfl⟩
      obtain ⟨nu',hnu'⟩:∃nu',nu'=nu++[k]:=⟨_,rfl⟩
      rw [<-how] at hlo HO H2 ⊢
      rw [<-hnu] at hln HN H2 ⊢
      rw [HXD.o,<-how'] at HO
      rw [<-hnu'] at HN
      have HOW:=zL how'
      have HNU:=zL hnu'
      rw [hxe] at e0
      have q1:ow.length+[x].length<=maxLen:=zA8
      have q2:(ow.length+[x].length)*24<=140737488355328:=zBF
      have q3:nu.length+[k].length<=maxLen:=zA8
      have q4:(nu.length+[k].length)*8<=140737488355328:=zBF
      have hnewP:RdP (wr.alloc (.cells #[.int .i64 x.f,.int .i64 x.s,.int .i64 x.a] 53)) (wr.heap.size+1) (some ⟨wr.heap.size,0,none⟩) [x]:=RdP.zU x
      rw [hxe] at hnewP
      have HnP:=zL hnewP
      clear hxf how hnu how' hnu' hnewP hxe
      go_wp2_with (first
       |(at_builtin;refine qd _ Pk.cs rfl (.tmp 54) (.tmp 59) 46 rfl Y.heap.size 53 i0 (.agg #[.int .i64 0,.int .i64 0,.int .i64 0]) 3 24 Tryz.underlying46 hi0 hz0 hz1 hz2 rfl zO Pk.qw Pk.qV (.slice A1 ow.length c1) ow.length (ow.flatMap Pk.cs) rfl (H2.o.r1.alloc _) (wr.heap.size+1) (some ⟨wr.heap.size,0,none⟩) 1 [x] rfl HnP.o q1 q2 (qG zw _) ?_;intro v3 w3 row3 g3 at3;obtain ⟨A5,c5,hv5,row3⟩:=qI row3 zO;rw [<-HOW.o] at hv5 row3;rw [hv5] at at3 ⊢;clear hv5;have r2':=ag9 H2.o.r2 g3 (λb hb e=>H2.o.ne b e hb);have z3:Y.heap.size<=w3.heap.size:=zAB (qG zw _) g3.size)
       |(at_builtin;refine qd _ nCs rfl (.tmp 61) (.tmp 63) 27 rfl Y.heap.size 3 i1 (.int .i64 0) 1 8 Tryz.underlying27 hi1 hy0 hy1 hy2 rfl zO xP adU (.slice A2 nu.length c2) nu.length (nu.flatMap nCs) rfl (r2'.alloc _) (w3.heap.size+1) (some ⟨w3.heap.size,0,none⟩) 1 [k] rfl (Rd.zU rfl zO xP) q3 q4 (qG z3 _) ?_;intro v4 w4 row4 g4 at4;obtain ⟨A6,c6,hv6,row4⟩:=qI row4 zO;rw [<-HNU.o] at hv6 row4;rw [hv6] at at4 ⊢;clear hv6))
      have k3:=ql (hbw.alloc zw _) (H2.o.r1.alloc _) g3 (zD _) (qG zw _)
      have k4:=ql (k3.alloc z3 _) (r2'.alloc _) g4 (zD _) (qG z3 _)
      have t4:=H2.o.step row3 g3 at3 row4 g4 at4
      exact zEo
     ·have hne:¬fOf p k=(f:Int):=by rw [hxf];exact hxe
      have HO:=zL (aqM (p:=p) hne)
      have HN:=zL (ahE (p:=p) hne)
      clear hne hxf
      go_wp2_with fail
      go_roundw
      case rel=>exact ⟨k+1,A1,c1,A2,c2,hlt,by rw [HO.o],by rw [HN.o],by go_num,by rw [HO.o,HN.o];exact H2.o,hbw⟩
      case measure=>simp [intOf];omega
    ·obtain rfl:k=p.length:=by omega
     have haw:IA wr g p.length a:=IAY.o.same (hbw.block g hgY)
     have HAW:=zL haw
     obtain ⟨ow,how⟩:∃ow,ow=ownK p f p.length:=⟨_,rfl⟩
     obtain ⟨nu,hnu⟩:∃nu,nu=numsK p f p.length:=⟨_,rfl⟩
     have hlen:ow.length=nu.length:=by rw [how,hnu];exact jg _ _ _
     have hpo:(qj ow).1=0:=by rw [how];exact acW HPK.o (ahA p f)
     have h2:=H2.o
     rw [<-how,<-hnu] at h2
     rw [<-how,<-hnu]
     have HOW:=zL how
     have HNU:=zL hnu
     have RN0:=zL h2.r2
     have RO0:=zL h2.r1
     have HPO:=zL hpo
     have hn300:nu.length<=300:=by rw [HNU.o];have:=jW p f p.length;omega
     have x0:wr.cell? ⟨gb,0,none⟩=some (.slice Ac 8 cc):=(hbw.cell (p:=⟨gb,0,none⟩) hgbY).trans c0
     have hfl:f<cs.length:=by rw [H8.o];exact hf8
     have hgd:cs.getD f []=cs[f]:=by simp [List.getD,hfl]
     obtain ⟨b,o,ac,cl,rfl,hb,d0,hrd⟩:=(h.below (KR.o)) f hfl
     have hll:=hl _ (zd hfl)
     have hcl:=HCS.o cs[f] (zd hfl)
     obtain ⟨l,hle⟩:∃l,l=cs[f]:=⟨_,rfl⟩
     rw [<-hle] at d0 hrd hll hcl
     have HGD:=zL (hgd.trans hle.symm)
     have HCL:=zL hcl
     have HRD:=zL hrd
     have d0':wr.cell? ⟨b,o+f,none⟩=some (.slice ac l.length cl):=(hbw.cell (p:=⟨b,o+f,none⟩) (by show b<Y.heap.size;omega)).trans d0
     clear how hnu hpo h2 haw d0 hk hlt hcl hgd hle hrd c0
     by_cases h0:l=[]
     ·have hfb:zN l p f=-1:=by unfold zN shpR;rw [zp h0,zp rfl]
      obtain ⟨OS,hOS⟩:∃OS,OS=ow:=⟨_,rfl⟩
      have HSH:=zM ((shpR l p f).1=OS) (by unfold shpR;rw [zp h0,hOS,HOW.o])
      have hl0:l.length=0:=by rw [h0];rfl
      have HN9:=zM (zF cs p (f+1)=(atS a nu OS,(zF cs p f).2)) zC6
      rw [hl0] at d0'
      rw [<-hOS] at RO0 hlen ⊢
      have HL:=zL hlen
      have RO:=zL RO0.o
      have RN:=zL RN0.o
      have KZ:=zL (BT.o.trans (But.of_below (g:=g) hbw))
      have IZ:=zL HAW.o
      obtain ⟨wz,hwz⟩:∃wz:World,wz=wr:=⟨_,rfl⟩
      subst hwz
      clear hfb hOS hlen hl0 h0
      exact zDD
     ·have h1:(qh l).1=0:=HCL.o.resolve_left h0
      have hl0:(0:Int)<(l.length:Int):=by have:=List.length_pos_iff.2 h0;omega
      have HSR:=zM (shpR l p f=zG l ow) (by unfold shpR;rw [z6 h0,HOW.o])
      have HLEN:=zL hlen
      have HSO:=zL (alH ac A1 cl c1 l ow wr wr.heap.size (zD _) ((HRD.o.below (hbw.mono hBY)).more (zAB hBY zw)) (RdP.qA RO0.o) hll HPO.o h1)
      by_cases hbad:(zG l ow).2=-1
      ·have hfb:zN l p f=-1:=by unfold zN;rw [HSR.o,zp hbad]
       obtain ⟨OS,hOS⟩:∃OS,OS=(zG l ow).1:=⟨_,rfl⟩
       have HSH:=zM ((shpR l p f).1=OS) (by rw [HSR.o,hOS])
       have hlen2:OS.length=nu.length:=zE1
       have HN9:=zM (zF cs p (f+1)=(atS a nu OS,(zF cs p f).2)) zC6
       have HL:=zL hlen2
       rw [hbad,<-hOS] at HSO
       clear hfb hbad hOS hlen2 hlen h1 h0
       go_wp2_with fail
       refine (HSO.o).mono ?_
       rintro e wz ⟨AO,cO,rfl,ro,kz⟩
       have RO:=zL (qO ro zw)
       have RN:=zL (own_below RN0.o kz (zD _))
       have KZ:=zL (BT.o.trans (But.of_below (g:=g) (hbw.trans (kz.mono zw))))
       have IZ:=zL (HAW.o.same (kz.block g (zAG hgY zw)))
       clear ro kz x0 d0' HSO
       exact zDD
      ·obtain ⟨m,hm⟩:∃m:Nat,(zG l ow).2=(m:Int):=zEw
       have hml:m<nu.length:=zEi
       obtain ⟨t,ht⟩:∃t,t=nu[m]:=⟨_,rfl⟩
       have hfb:zN l p f=(t:Int):=by
        unfold zN
        rw [HSR.o,z6 hbad,hm,zAX,<-HNU.o,ht]
        simp [List.getD,hml]
       obtain ⟨fi,hfi⟩:∃fi,fi=(zF cs p f).2:=⟨_,rfl⟩
       have hnn:=ahT cs p f
       rw [<-hfi] at hnn ⊢
       have HN9:=zM (zF cs p (f+1)=(a,ja fi (t:Int))) (by rw [ahU (by rw [HGD.o,hfb];omega),HGD.o,hfb,HA.o,hfi])
       have HT:=zL ht
       rw [hm] at HSO
       clear hfb hfi hbad hm ht hlen h1 h0
       go_wp2_with fail
       refine (HSO.o).mono ?_
       rintro e wz ⟨AO,cO,rfl,-,kz⟩
       have hrn:=own_below RN0.o kz (zD _)
       obtain ⟨b3,hA3,_,hb3,y1⟩:=jd hrn zO xP hml
       have z1:=y1 0 _ rfl
       simp only [Nat.mul_one,Nat.add_zero] at z1
       subst hA3
       rw [<-HT.o] at z1
       have KZ:=zL (BT.o.trans (But.of_below (g:=g) (hbw.trans (kz.mono zw))))
       have IZ:=zL (HAW.o.same (kz.block g (zAG hgY zw)))
       have q1:(0:Int)<=(m:Int):=zO
       have q2:(m:Int)<(nu.length:Int):=zO
       clear x0 d0' HSO y1 hrn
       by_cases hf1:fi=-1
       ·have HU:=zM (ja fi (t:Int)=(t:Int)) (zp (.inl hf1))
        have t1:fi<0:=zO
        exact zDr
       ·have t1:¬fi<0:=by omega
        by_cases hlt2:(t:Int)<fi
        ·have HU:=zM (ja fi (t:Int)=(t:Int)) (zp (.inr hlt2))
         exact zDr
        ·have HU:=zM (ja fi (t:Int)=fi) (z6 zO)
         exact zDr
  ·obtain rfl:f=8:=by omega
   have yY:=Y3.o.but BT.o nyb
   have gY:=G3.o.but BT.o ngb
   have fY:=F3.o.but BT.o nfb
   have kY:Below w.heap.size w Y:=K3.o.trans (BT.o.below hwg K3.o.size)
   have YY:=zL yY
   have FY:=zL fY
   have KY:=zL kY
   have yYl:=yY.lt
   have fYl:=fY.lt
   have gYl:=gY.lt
   by_cases hff:(zF cs p 8).2=-1
   ·skip
    have HFF:=zL hff
    rw [hff,show ((8:Nat):Int)=8 from rfl]
    clear hff
    go_wp2_with fail
    go_loopw [17,18] (λov iv wx=>∃(i:Nat) (out:List Pk) (Ao:Option Addr) (co:Nat),i<=p.length/\out=outO p a i/\ov=.slice Ao out.length co/\iv=.int .i64 i/\(out=[]->Ao=none/\co=0)/\wx.ownsRow Y.heap.size 53 3 (.slice Ao out.length co) out.length (out.flatMap Pk.cs)/\Below Y.heap.size Y wx) (λ_ iv _=>p.length - (intOf iv).toNat)
    case atStart=>exact ⟨0,[],none,0,zAK _,rfl,rfl,rfl,λ_=>⟨rfl,rfl⟩,⟨by simp,.inl ⟨rfl,rfl⟩⟩,zAA _ _⟩
    case round=>
     obtain ⟨i,out,Ao,co,hi,hout,rfl,rfl,hnil,row,hbw⟩:=hrel
     have zw:=hbw.size
     have HOUT:=zL hout
     have HNIL:=zL hnil
     have ROW:=zL row
     have hn:out.length=i:=by rw [hout];exact aaU _ _ _
     have kw:=KR.o.trans (hbw.mono hBY)
     clear hout hnil row
     by_cases hin:i<p.length
     ·obtain ⟨b1,o1,rfl,hb1,e0,e1,e2⟩:=RdP.get (hp.below kw) hin
      obtain ⟨x,hx⟩:∃x:Pk,x=p[i]:=⟨_,rfl⟩
      have cA:=(IAY.o.same (hbw.block g hgY)).cell hin
      obtain ⟨t,ht⟩:∃t,t=a i:=⟨_,rfl⟩
      have HPK2:=zM (pkO p a i=⟨x.f,x.s,t⟩) (by unfold pkO;rw [vR hin,yA hin,<-hx,ht])
      rw [<-hx] at e0 e1 e2
      simp only [<-ht] at cA
      have q1:(0:Int)<=(i:Int):=zO
      have q2:(i:Int)<(p.length:Int):=zO
      have HT:=zL ht
      have hcap:=avX ROW.o
      clear hx ht
      obtain ⟨V,hV⟩:∃V:World,V=wr.alloc (.cells #[.int .i64 x.f,.int .i64 x.s,.int .i64 x.a] 53):=⟨_,rfl⟩
      have bV:Below wr.heap.size wr V:=zBy
      have xV:Blk V wr.heap.size 53 #[.int .i64 x.f,.int .i64 x.s,.int .i64 x.a]:=zBU
      obtain ⟨qb,hqb⟩:∃qb,qb=wr.heap.size:=⟨_,rfl⟩
      rw [<-hqb] at xV bV
      have cV:V.cell? ⟨g,i,none⟩=some (.int .i64 t):=(bV.cell (p:=⟨g,i,none⟩) (by show g<qb;omega)).trans cA
      have y2:=xV.cell 2
      have f2:=xV.frozen 2
      simp only [zc,zE,zj] at y2
      obtain ⟨V2,hV2⟩:∃V2:World,V2=V.setCell ⟨qb,2,none⟩ (.int .i64 t):=⟨_,rfl⟩
      have xV2:Blk V2 qb 53 #[.int .i64 x.f,.int .i64 x.s,.int .i64 t]:=by rw [hV2];exact xV.qi 2 (.int .i64 t)
      have b2:Below qb wr V2:=by rw [hV2];exact bV.setCell (p:=⟨qb,2,none⟩) (zD _) _
      have row2:V2.ownsRow Y.heap.size 53 3 (.slice Ao out.length co) out.length (out.flatMap Pk.cs):=zY ROW.o λq hq=>b2.block q (by rw [hqb];exact jQ ROW.o q hq)
      have XV2:=zL xV2
      have ROW2:=zL row2
      have w0:=xV2.cell 0
      have w1':=xV2.cell 1
      have w2':=xV2.cell 2
      simp only [zc,zE,zj] at w0 w1' w2'
      have k2':Below Y.heap.size Y V2:=hbw.trans (b2.mono zO)
      have hqV:=xV2.lt
      have HV:=zL hV
      have HV2:=zL hV2
      have HQB:=zL hqb
      obtain ⟨n,hnn⟩:∃n,n=out.length:=⟨_,rfl⟩
      rw [<-hnn] at hcap hn ⊢
      have HN:=zL hnn
      have hn3:n<=300:=zO
      have HNI:=zL hn
      clear hV hV2 hqb bV xV xV2 b2 row2 hnn hn
      go_upto_region 36 with fail
      rw [<-HV.o,<-HQB.o]
      go_wp2_with fail
      rw [<-HV2.o]
      clear y2 f2 cV cA e0 e1 e2
      go_loopw [20] (λjv wx=>∃(j q:Nat),j<=n/\jv=.int .i64 j/\(∀m (h:m<out.length),j<=m->t<out[m].a)/\wx=V2.drewN q) (λjv _=>(intOf jv).toNat)
      case atStart=>exact ⟨n,0,zD _,rfl,λm hm hj=>zAv hm (by rw [<-HN.o];omega),rfl⟩
      case round=>
       obtain ⟨j,q,hj,rfl,hpre,rfl⟩:=hrel
       have HPRE:=zL hpre
       have hj9:j<=out.length:=by rw [<-HN.o];exact hj
       have g0:(V2.drewN q).cell? ⟨qb,2,none⟩=some (.int .i64 t):=w2'
       clear hpre
       by_cases hj0:0<j
       ·have hjo:j - 1<out.length:=by omega
        obtain ⟨b3,o3,rfl,hb3,t0,t1,t2⟩:=RdP.get (RdP.qA ROW2.o) hjo
        obtain ⟨y,hy⟩:∃y,y=out[j - 1]:=⟨_,rfl⟩
        rw [<-hy] at t0 t1 t2
        have j0:(0:Int)<(j:Int):=zO
        have HY:=zL hy
        clear hy
        have J1:=zM (IntKind.i64.wrap ((j:Int) - 1)=(j:Int) - 1) (IntWalk.i64_in _ zO)
        by_cases hr:t<y.a
        ·have HP2:=zL (show ∀m (h:m<out.length),j - 1<=m->t<out[m].a from λm hm hmj=>by
              by_cases e:m=j - 1
              ·subst e;rw [<-HY.o];exact hr
              ·exact HPRE.o m hm zO)
         go_wp2_with fail
         go_quiet (fail)
         rename Nat=>nq
         go_wp2_with fail
         go_roundw
         case rel=>exact ⟨j - 1,q+nq,by omega,zAu (Value.int .i64) zO,HP2.o,rfl⟩
         case measure=>simp [intOf];omega
        ·have hr2:¬t<y.a:=hr
         have HS:=zL (ajF HOUT.o hj9 (λm h hm=>by rw [<-HT.o];exact HPRE.o m h hm) (λh h0=>by rw [<-HT.o,<-HY.o];omega))
         clear hr
         have j5:(j:Int) - 1<(n:Int):=zO
         have j6:(0:Int)<=(j:Int) - 1:=zO
         have j1:=J1.o
         go_wp2_with fail
         go_quiet (fail)
         rename Nat=>nq
         clear j1 j5 j6
         rcases Nat.lt_or_ge j n with hjn|hjn
         ·have hdl:(out.drop j).length=n - j:=by rw [List.length_drop,<-HN.o]
          obtain ⟨X,hX⟩:∃X:World,X=(V2.drewN q).drewN nq:=⟨_,rfl⟩
          first |rw [<-hX]|rw [show V2.drewN (q+nq)=X from hX.symm]
          have ROWX:=zM (X.ownsRow Y.heap.size 53 3 (.slice (some ⟨b3,o3,none⟩) out.length co) out.length (out.flatMap Pk.cs)) zBl
          obtain ⟨z,hz⟩:∃z:Pk,z=⟨x.f,x.s,t⟩:=⟨_,rfl⟩
          have XX:=zM (Blk X qb 53 #[.int .i64 z.f,.int .i64 z.s,.int .i64 z.a]) zCC
          have HZ:=zM (pkO p a i=z) zCQ
          have kX:Below Y.heap.size Y X:=zBN
          have zX:=kX.size
          have HO:=zL (RdP.qA ROWX.o)
          have hqX:qb<X.heap.size:=XX.o.lt
          have j2:(j:Int)<=(n:Int):=zO
          have hjc:j<=co:=zO
          have j3:(j:Int)<=(co:Int):=zO
          have htl:(out.take j).length=j:=zCM
          clear hX hz w0 w1' w2'
          go_upto_region 42 with (at_builtin;refine qd _ Pk.cs rfl (.tmp 152) (.tmp 155) 46 rfl X.heap.size 53 i0 (.agg #[.int .i64 0,.int .i64 0,.int .i64 0]) 3 24 Tryz.underlying46 hi0 hz0 hz1 hz2 rfl zO Pk.qw Pk.qV (.slice none 0 0) 0 [] rfl ⟨by simp,.inl ⟨rfl,rfl⟩⟩ X.heap.size (some ⟨b3,o3,none⟩) co (out.take j) zBi (HO.o.adN j) zA2 zO (zD _) ?_;intro v3 w3 row3 g3 at3;simp only [Nat.zero_add,zAa] at row3;obtain ⟨A4,c4,rfl⟩:=yl row3 zO;have k3:Below X.heap.size X w3:=(zAA _ _).grown g3 (zD _) zBO;have z3:=k3.size;have ROW3:=zL row3;clear row3;have e0:=(XX.o.below k3 hqX).cell 0;have e1:=(XX.o.below k3 hqX).cell 1;have e2:=(XX.o.below k3 hqX).cell 2;simp only [zc,zE,zj] at e0 e1 e2;clear at3)
          rename y.a<=t=>hq9
          clear hq9
          exact zDI
         ·obtain rfl:j=n:=by omega
          have hdl:(out.drop j).length=0:=by rw [List.length_drop,<-HN.o,Nat.sub_self]
          have HDN:=zM (out.drop j=[]) (List.length_eq_zero_iff.1 hdl)
          rcases Nat.lt_or_ge j co with hcl|hcl
          ·skip
           obtain ⟨X,hX⟩:∃X:World,X=(V2.drewN q).drewN nq:=⟨_,rfl⟩
           first |rw [<-hX]|rw [show V2.drewN (q+nq)=X from hX.symm]
           have ROWX:=zM (X.ownsRow Y.heap.size 53 3 (.slice (some ⟨b3,o3,none⟩) out.length co) out.length (out.flatMap Pk.cs)) zBl
           obtain ⟨z,hz⟩:∃z:Pk,z=⟨x.f,x.s,t⟩:=⟨_,rfl⟩
           have XX:=zM (Blk X qb 53 #[.int .i64 z.f,.int .i64 z.s,.int .i64 z.a]) zCC
           have HZ:=zM (pkO p a i=z) zCQ
           have kX:Below Y.heap.size Y X:=zBN
           have zX:=kX.size
           have HO:=zL (RdP.qA ROWX.o)
           have hqX:qb<X.heap.size:=XX.o.lt
           have hjc:j<=co:=zO
           have j3:(j:Int)<=(co:Int):=zO
           have j4:(j:Int)<(co:Int):=zO
           have htl:(out.take j).length=j:=zCM
           clear hX hz w0 w1' w2'
           go_upto_region 42 with (at_builtin;refine qd _ Pk.cs rfl (.tmp 152) (.tmp 155) 46 rfl X.heap.size 53 i0 (.agg #[.int .i64 0,.int .i64 0,.int .i64 0]) 3 24 Tryz.underlying46 hi0 hz0 hz1 hz2 rfl zO Pk.qw Pk.qV (.slice none 0 0) 0 [] rfl ⟨by simp,.inl ⟨rfl,rfl⟩⟩ X.heap.size (some ⟨b3,o3,none⟩) co (out.take j) zBi (HO.o.adN j) zA2 zO (zD _) ?_;intro v3 w3 row3 g3 at3;simp only [Nat.zero_add,zAa] at row3;obtain ⟨A4,c4,rfl⟩:=yl row3 zO;have k3:Below X.heap.size X w3:=(zAA _ _).grown g3 (zD _) zBO;have z3:=k3.size;have ROW3:=zL row3;clear row3;have e0:=(XX.o.below k3 hqX).cell 0;have e1:=(XX.o.below k3 hqX).cell 1;have e2:=(XX.o.below k3 hqX).cell 2;simp only [zc,zE,zj] at e0 e1 e2;clear at3)
           rename y.a<=t=>hq9
           clear hq9
           go_upto_region 43 with (at_builtin;refine qd _ Pk.cs rfl (.tmp 157) (.tmp 159) 46 rfl X.heap.size 53 i0 (.agg #[.int .i64 0,.int .i64 0,.int .i64 0]) 3 24 Tryz.underlying46 hi0 hz0 hz1 hz2 rfl zO Pk.qw Pk.qV (.slice A4 (out.take j).length c4) (out.take j).length ((out.take j).flatMap Pk.cs) zBi (ROW3.o.alloc _) (w3.heap.size+1) (some ⟨w3.heap.size,0,none⟩) 1 [z] rfl (RdP.zU z) zBI zBR zBY ?_;intro v5 w5 row5 g5 at5;obtain ⟨A6,c6,hv6,row6⟩:=qI row5 zO;subst hv6;have ROW6:=zL row6;have k5:=ql (k3.alloc z3 _) (ROW3.o.alloc _) g5 (zD _) zBY;have z5:=k5.size;clear row5 row6 at5 e0 e1 e2)
           have hxl:(out.take j++[z]).length=j+1:=zCf
           have M1:=zM ((out.take j++[z]).length+(out.drop j).length<=maxLen) zA2
           have M2:=zM (((out.take j++[z]).length+(out.drop j).length)*24<=140737488355328) zO
           have HXL:=zL hxl
           have HDL:=zL hdl
           have HTL:=zL htl
           clear hxl hdl htl
           go_wp2_with (at_builtin;(refine qd _ Pk.cs rfl (.tmp 161) (.tmp 164) 46 rfl X.heap.size 53 i0 (.agg #[.int .i64 0,.int .i64 0,.int .i64 0]) 3 24 Tryz.underlying46 hi0 hz0 hz1 hz2 rfl zO Pk.qw Pk.qV (.slice A6 (out.take j++[z]).length c6) (out.take j++[z]).length ((out.take j++[z]).flatMap Pk.cs) zCz ROW6.o X.heap.size (some ⟨b3,o3+j*3,none⟩) (co - j) (out.drop j) zC0 zCR M1.o M2.o z5 ?_;intro v7 w7 row7 g7 at7;obtain ⟨A8,c8,hv8,row8⟩:=qI row7 zO;subst hv8;have ROW8:=zL row8;have k7:=ql k5 ROW6.o g7 (zD _) z5;clear row7 row8 at7))
           have HINS:=zM (out.take j++[z]++out.drop j=outO p a (i+1)) zBj
           have HLL9:=zM ((outO p a (i+1)).length=i+1) (aaU _ _ _)
           have ROW9:=zM (w7.ownsRow X.heap.size 53 3 (.slice A8 (outO p a (i+1)).length c8) (outO p a (i+1)).length ((outO p a (i+1)).flatMap Pk.cs)) zBz
           have HLN:=zM ((outO p a (i+1)).length=(out.take j++[z]).length+(out.drop j).length) zCc
           exact zDb
          ·obtain rfl:co=j:=by omega
           obtain ⟨X,hX⟩:∃X:World,X=(V2.drewN q).drewN nq:=⟨_,rfl⟩
           first |rw [<-hX]|rw [show V2.drewN (q+nq)=X from hX.symm]
           have ROWX:=zM (X.ownsRow Y.heap.size 53 3 (.slice (some ⟨b3,o3,none⟩) out.length co) out.length (out.flatMap Pk.cs)) zBl
           obtain ⟨z,hz⟩:∃z:Pk,z=⟨x.f,x.s,t⟩:=⟨_,rfl⟩
           have XX:=zM (Blk X qb 53 #[.int .i64 z.f,.int .i64 z.s,.int .i64 z.a]) zCC
           have HZ:=zM (pkO p a i=z) zCQ
           have kX:Below Y.heap.size Y X:=zBN
           have zX:=kX.size
           have HO:=zL (RdP.qA ROWX.o)
           have hqX:qb<X.heap.size:=XX.o.lt
           have j3:(co:Int)<=(co:Int):=zO
           have htl:(out.take co).length=co:=zCM
           clear hX hz w0 w1' w2'
           go_upto_region 42 with (at_builtin;refine qd _ Pk.cs rfl (.tmp 152) (.tmp 155) 46 rfl X.heap.size 53 i0 (.agg #[.int .i64 0,.int .i64 0,.int .i64 0]) 3 24 Tryz.underlying46 hi0 hz0 hz1 hz2 rfl zO Pk.qw Pk.qV (.slice none 0 0) 0 [] rfl ⟨by simp,.inl ⟨rfl,rfl⟩⟩ X.heap.size (some ⟨b3,o3,none⟩) co (out.take co) zBi (HO.o.adN co) zA2 zO (zD _) ?_;intro v3 w3 row3 g3 at3;simp only [Nat.zero_add,zAa] at row3;obtain ⟨A4,c4,rfl⟩:=yl row3 zO;have k3:Below X.heap.size X w3:=(zAA _ _).grown g3 (zD _) zBO;have z3:=k3.size;have ROW3:=zL row3;clear row3;have e0:=(XX.o.below k3 hqX).cell 0;have e1:=(XX.o.below k3 hqX).cell 1;have e2:=(XX.o.below k3 hqX).cell 2;simp only [zc,zE,zj] at e0 e1 e2;clear at3)
           rename y.a<=t=>hq9
           clear hq9
           go_upto_region 43 with (at_builtin;refine qd _ Pk.cs rfl (.tmp 157) (.tmp 159) 46 rfl X.heap.size 53 i0 (.agg #[.int .i64 0,.int .i64 0,.int .i64 0]) 3 24 Tryz.underlying46 hi0 hz0 hz1 hz2 rfl zO Pk.qw Pk.qV (.slice A4 (out.take co).length c4) (out.take co).length ((out.take co).flatMap Pk.cs) zBi (ROW3.o.alloc _) (w3.heap.size+1) (some ⟨w3.heap.size,0,none⟩) 1 [z] rfl (RdP.zU z) zBI zBR zBY ?_;intro v5 w5 row5 g5 at5;obtain ⟨A6,c6,hv6,row6⟩:=qI row5 zO;subst hv6;have ROW6:=zL row6;have k5:=ql (k3.alloc z3 _) (ROW3.o.alloc _) g5 (zD _) zBY;have z5:=k5.size;clear row5 row6 at5 e0 e1 e2)
           have hxl:(out.take co++[z]).length=co+1:=zCf
           have M1:=zM ((out.take co++[z]).length+(out.drop co).length<=maxLen) zA2
           have M2:=zM (((out.take co++[z]).length+(out.drop co).length)*24<=140737488355328) zO
           have HXL:=zL hxl
           have HDL:=zL hdl
           have HTL:=zL htl
           clear hxl hdl htl
           go_wp2_with (at_builtin;(refine qd _ Pk.cs rfl (.tmp 161) (.tmp 164) 46 rfl X.heap.size 53 i0 (.agg #[.int .i64 0,.int .i64 0,.int .i64 0]) 3 24 Tryz.underlying46 hi0 hz0 hz1 hz2 rfl zO Pk.qw Pk.qV (.slice A6 (out.take co++[z]).length c6) (out.take co++[z]).length ((out.take co++[z]).flatMap Pk.cs) zCz ROW6.o X.heap.size (some ⟨b3,o3,none⟩) 0 (out.drop co) zC0 zCR M1.o M2.o z5 ?_;intro v7 w7 row7 g7 at7;obtain ⟨A8,c8,hv8,row8⟩:=qI row7 zO;subst hv8;have ROW8:=zL row8;have k7:=ql k5 ROW6.o g7 (zD _) z5;clear row7 row8 at7))
           have HINS:=zM (out.take co++[z]++out.drop co=outO p a (i+1)) zBj
           have HLL9:=zM ((outO p a (i+1)).length=i+1) (aaU _ _ _)
           have ROW9:=zM (w7.ownsRow X.heap.size 53 3 (.slice A8 (outO p a (i+1)).length c8) (outO p a (i+1)).length ((outO p a (i+1)).flatMap Pk.cs)) zBz
           have HLN:=zM ((outO p a (i+1)).length=(out.take co++[z]).length+(out.drop co).length) zCc
           exact zDb
       ·have gf:decide ((0:Int)<(j:Int))=false:=zAH zO
        have HS:=zL (ajF HOUT.o hj9 (λm h hm=>by rw [<-HT.o];exact HPRE.o m h hm) (λh h0=>zAv h0 hj0))
        go_wp2_with fail
        go_quiet (fail)
        rename Nat=>nq
        cases Ao with
        |none=>
         have ho0:out=[]/\co=0:=by
              cases out with
              |nil=>exact ⟨rfl,(HNIL.o rfl).2⟩
              |cons a0 r0=>exact zAv (RdP.get (RdP.qA ROW2.o) (i:=0) zA1) (by rintro ⟨b,o,e,-⟩;cases e)
         obtain ⟨ho1,rfl⟩:=ho0
         obtain rfl:j=0:=zO
         have hdl:(out.drop 0).length=0:=by rw [ho1];rfl
         have HDN:=zM (out.drop 0=[]) (by rw [ho1];rfl)
         obtain ⟨X,hX⟩:∃X:World,X=(V2.drewN q).drewN nq:=⟨_,rfl⟩
         first |rw [<-hX]|rw [show V2.drewN (q+nq)=X from hX.symm]
         have ROWX:=zM (X.ownsRow Y.heap.size 53 3 (.slice none out.length 0) out.length (out.flatMap Pk.cs)) zBl
         obtain ⟨z,hz⟩:∃z:Pk,z=⟨x.f,x.s,t⟩:=⟨_,rfl⟩
         have XX:=zM (Blk X qb 53 #[.int .i64 z.f,.int .i64 z.s,.int .i64 z.a]) zCC
         have HZ:=zM (pkO p a i=z) zCQ
         have kX:Below Y.heap.size Y X:=zBN
         have zX:=kX.size
         have HO:=zL (RdP.qA ROWX.o)
         have hqX:qb<X.heap.size:=XX.o.lt
         have hoz:out.length=0:=by rw [ho1];rfl
         have htl:(out.take 0).length=0:=zCM
         clear hX hz w0 w1' w2'
         go_upto_region 42 with (at_builtin;refine qd _ Pk.cs rfl (.tmp 152) (.tmp 155) 46 rfl X.heap.size 53 i0 (.agg #[.int .i64 0,.int .i64 0,.int .i64 0]) 3 24 Tryz.underlying46 hi0 hz0 hz1 hz2 rfl zO Pk.qw Pk.qV (.slice none 0 0) 0 [] rfl ⟨by simp,.inl ⟨rfl,rfl⟩⟩ X.heap.size none 0 (out.take 0) zBi (HO.o.adN 0) zA2 zO (zD _) ?_;intro v3 w3 row3 g3 at3;simp only [Nat.zero_add,zAa] at row3;obtain ⟨A4,c4,rfl⟩:=yl row3 zO;have k3:Below X.heap.size X w3:=(zAA _ _).grown g3 (zD _) zBO;have z3:=k3.size;have ROW3:=zL row3;clear row3;have e0:=(XX.o.below k3 hqX).cell 0;have e1:=(XX.o.below k3 hqX).cell 1;have e2:=(XX.o.below k3 hqX).cell 2;simp only [zc,zE,zj] at e0 e1 e2;clear at3)
         skip
         go_upto_region 43 with (at_builtin;refine qd _ Pk.cs rfl (.tmp 157) (.tmp 159) 46 rfl X.heap.size 53 i0 (.agg #[.int .i64 0,.int .i64 0,.int .i64 0]) 3 24 Tryz.underlying46 hi0 hz0 hz1 hz2 rfl zO Pk.qw Pk.qV (.slice A4 (out.take 0).length c4) (out.take 0).length ((out.take 0).flatMap Pk.cs) zBi (ROW3.o.alloc _) (w3.heap.size+1) (some ⟨w3.heap.size,0,none⟩) 1 [z] rfl (RdP.zU z) zBI zBR zBY ?_;intro v5 w5 row5 g5 at5;obtain ⟨A6,c6,hv6,row6⟩:=qI row5 zO;subst hv6;have ROW6:=zL row6;have k5:=ql (k3.alloc z3 _) (ROW3.o.alloc _) g5 (zD _) zBY;have z5:=k5.size;clear row5 row6 at5 e0 e1 e2)
         have hxl:(out.take 0++[z]).length=0+1:=zCf
         have M1:=zM ((out.take 0++[z]).length+(out.drop 0).length<=maxLen) zA2
         have M2:=zM (((out.take 0++[z]).length+(out.drop 0).length)*24<=140737488355328) zO
         have HXL:=zL hxl
         have HDL:=zL hdl
         have HTL:=zL htl
         clear hxl hdl htl
         go_wp2_with (at_builtin;(refine qd _ Pk.cs rfl (.tmp 161) (.tmp 164) 46 rfl X.heap.size 53 i0 (.agg #[.int .i64 0,.int .i64 0,.int .i64 0]) 3 24 Tryz.underlying46 hi0 hz0 hz1 hz2 rfl zO Pk.qw Pk.qV (.slice A6 (out.take 0++[z]).length c6) (out.take 0++[z]).length ((out.take 0++[z]).flatMap Pk.cs) zCz ROW6.o X.heap.size _ _ (out.drop 0) zC0 zCR M1.o M2.o z5 ?_;intro v7 w7 row7 g7 at7;obtain ⟨A8,c8,hv8,row8⟩:=qI row7 zO;subst hv8;have ROW8:=zL row8;have k7:=ql k5 ROW6.o g7 (zD _) z5;clear row7 row8 at7))
         have HINS:=zM (out.take 0++[z]++out.drop 0=outO p a (i+1)) zBj
         have HLL9:=zM ((outO p a (i+1)).length=i+1) (aaU _ _ _)
         have ROW9:=zM (w7.ownsRow X.heap.size 53 3 (.slice A8 (outO p a (i+1)).length c8) (outO p a (i+1)).length ((outO p a (i+1)).flatMap Pk.cs)) zBz
         have HLN:=zM ((outO p a (i+1)).length=(out.take 0++[z]).length+(out.drop 0).length) zCc
         exact zDb
        |some p3=>
         have ho1:out≠[]:=λe=>by cases (HNIL.o e).1
         have ho2:0<out.length:=List.length_pos_iff.2 ho1
         obtain ⟨b3,o3,e3,hb3,-,-,-⟩:=RdP.get (RdP.qA ROW2.o) ho2
         cases e3
         have hjn:j<n:=by rw [HN.o];omega
         have hdl:(out.drop j).length=n - j:=by rw [List.length_drop,<-HN.o]
         obtain ⟨X,hX⟩:∃X:World,X=(V2.drewN q).drewN nq:=⟨_,rfl⟩
         first |rw [<-hX]|rw [show V2.drewN (q+nq)=X from hX.symm]
         have ROWX:=zM (X.ownsRow Y.heap.size 53 3 (.slice (some ⟨b3,o3,none⟩) out.length co) out.length (out.flatMap Pk.cs)) zBl
         obtain ⟨z,hz⟩:∃z:Pk,z=⟨x.f,x.s,t⟩:=⟨_,rfl⟩
         have XX:=zM (Blk X qb 53 #[.int .i64 z.f,.int .i64 z.s,.int .i64 z.a]) zCC
         have HZ:=zM (pkO p a i=z) zCQ
         have kX:Below Y.heap.size Y X:=zBN
         have zX:=kX.size
         have HO:=zL (RdP.qA ROWX.o)
         have hqX:qb<X.heap.size:=XX.o.lt
         have j2:(j:Int)<=(n:Int):=zO
         have hjc:j<=co:=zO
         have j3:(j:Int)<=(co:Int):=zO
         have htl:(out.take j).length=j:=zCM
         clear hX hz w0 w1' w2'
         go_upto_region 42 with (at_builtin;refine qd _ Pk.cs rfl (.tmp 152) (.tmp 155) 46 rfl X.heap.size 53 i0 (.agg #[.int .i64 0,.int .i64 0,.int .i64 0]) 3 24 Tryz.underlying46 hi0 hz0 hz1 hz2 rfl zO Pk.qw Pk.qV (.slice none 0 0) 0 [] rfl ⟨by simp,.inl ⟨rfl,rfl⟩⟩ X.heap.size (some ⟨b3,o3,none⟩) co (out.take j) zBi (HO.o.adN j) zA2 zO (zD _) ?_;intro v3 w3 row3 g3 at3;simp only [Nat.zero_add,zAa] at row3;obtain ⟨A4,c4,rfl⟩:=yl row3 zO;have k3:Below X.heap.size X w3:=(zAA _ _).grown g3 (zD _) zBO;have z3:=k3.size;have ROW3:=zL row3;clear row3;have e0:=(XX.o.below k3 hqX).cell 0;have e1:=(XX.o.below k3 hqX).cell 1;have e2:=(XX.o.below k3 hqX).cell 2;simp only [zc,zE,zj] at e0 e1 e2;clear at3)
         skip
         exact zDI
     ·obtain rfl:i=p.length:=by omega
      have hre:zq cs (qg K) per ns p=(0,-1):=(z6 (λh9=>h9 H1.o)).trans ((z6 (λh9=>h9 HPK.o)).trans (z6 (λh9=>h9 HFF.o)))
      obtain ⟨-,-,-,-,-,r6⟩:=aeV (show (zq cs (qg K) per ns p).1=0 by rw [hre])
      have hqo:out=ab2 p (zF cs p 8).1:=by rw [HOUT.o,HA.o];rfl
      have HQ:=zM (uR cs (qg K) per ns p=out) ((zp (by rw [hre])).trans hqo.symm)
      have HL:=zM (uS cs (qg K) per ns p=vD (qg K) out per ns) ((zp (by rw [hre])).trans (by rw [<-hqo]))
      have HRE:=zL hre
      rw [<-hqo] at r6
      have HLK:=zL (aoZ Ac An Ao 8 cc cn co K per ns out wr wr.heap.size (zD _) (RdP.qA ROW.o) ((h'.below kw).more (zAB hB kw.size)) (by rw [r6]))
      obtain ⟨lv,hlv⟩:∃lv,lv=vD (qg K) out per ns:=⟨_,rfl⟩
      rw [<-hlv] at HLK HL
      have gW:=gY.below hbw gYl
      have m0:=gW.cell 0
      have m1:=gW.cell 1
      have m2:=gW.cell 2
      have m3:=gW.cell 3
      simp only [zc,zE,zj] at m0 m1 m2 m3
      have hnp:¬((p.length:Int)<(p.length:Int)):=zO
      clear hre r6 hqo hlv gW hn
      go_wp2_with fail
      refine (HLK.o).mono ?_
      rintro e w1 ⟨A1,c1,rfl,o1,k1⟩
      have k1':Below Y.heap.size Y w1:=hbw.trans (k1.mono zw)
      have yv:=YY.o.below k1' yYl
      have fw:=FY.o.below k1' fYl
      have s0:=yv.cell 0
      have s1:=yv.cell 1
      have s2:=yv.frozen 0
      have s3:=yv.frozen 1
      have s4:=fw.cell 0
      have s5:=fw.cell 1
      simp only [zc,zE,zj] at s0 s1 s4 s5
      have hge:w.heap.size<=gb+1:=zCp
      have hk9:Below w.heap.size w ((w1.setCell ⟨gb+1,0,none⟩ (.int .i64 0)).setCell ⟨gb+1,1,none⟩ (.int .i64 (-1))):=((KY.o.trans (k1'.mono KY.o.size)).setCell (p:=⟨gb+1,0,none⟩) hge _).setCell (p:=⟨gb+1,1,none⟩) hge _
      have hfar:∀b,b≠gb+1->((w1.setCell ⟨gb+1,0,none⟩ (.int .i64 0)).setCell ⟨gb+1,1,none⟩ (.int .i64 (-1))).heap[b]?=w1.heap[b]?:=λb hb=>(zAF _ ⟨gb+1,1,none⟩ _ b hb).trans (zAF _ ⟨gb+1,0,none⟩ _ b hb)
      have hq9:RdP ((w1.setCell ⟨gb+1,0,none⟩ (.int .i64 0)).setCell ⟨gb+1,1,none⟩ (.int .i64 (-1))) _ Ao out:=RdP.qA (zY (own_below ROW.o k1 (zD _)) λb hb=>hfar b (λe=>by have:=zH ROW.o b hb;omega))
      have hs9:RdS ((w1.setCell ⟨gb+1,0,none⟩ (.int .i64 0)).setCell ⟨gb+1,1,none⟩ (.int .i64 (-1))) _ A1 lv:=RdS.qA (zY o1 λb hb=>hfar b (λe=>by have:=zH o1 b hb;omega))
      have hb9:=(yv.qi 0 (.int .i64 0)).qi 1 (.int .i64 (-1))
      have K9:=zL hk9
      have Q9:=zL hq9
      have S9:=zL hs9
      have B9:=zL hb9
      clear o1 k1 k1' yv fw hk9 hfar hq9 hs9 hb9 m0 m1 m2 m3 hge HLK
      go_wp2_with fail
      go_region
      all_goals
       go_wp2_with fail
       rw [HRE.o,HQ.o,HL.o]
       exact zAt (v:=.tuple #[.slice Ao out.length co,.slice A1 lv.length c1,fv 0 (-1)]) (vT (t:=4) (u:=5) (p:=6) rfl _ _ (gb+1) 55 #[.int .i64 0,.int .i64 (-1)] (0,0) _ rfl B9.o Tryz.underlying55 rfl zn) rfl ⟨Ao,co,A1,c1,rfl,Q9.o,S9.o,K9.o.drew⟩
   ·have hnn:=(ahT cs p 8).resolve_left hff
    have hre:zq cs (qg K) per ns p=(4,(zF cs p 8).2):=(z6 (λh9=>h9 H1.o)).trans ((z6 (λh9=>h9 HPK.o)).trans (zp hff))
    have HQ:=zM (uR cs (qg K) per ns p=[]) (z6 (by rw [hre];simp))
    have HL:=zM (uS cs (qg K) per ns p=[]) (z6 (by rw [hre];simp))
    have HRE:=zL hre
    have d0:=yY.cell 0
    have d1:=yY.cell 1
    have z0:=yY.frozen 0
    have z1:=yY.frozen 1
    simp only [zc,zE,zj] at d0 d1
    obtain ⟨nv,hnv⟩:∃nv,nv=(zF cs p 8).2:=⟨_,rfl⟩
    rw [<-hnv] at hnn HRE ⊢
    clear yY gY fY kY hff hre hnv
    go_wp2_with fail
    rw [HRE.o,HQ.o,HL.o]
    exact zAt (v:=.tuple #[.slice none 0 0,.slice none 0 0,fv 4 nv]) (vT (t:=4) (u:=5) (p:=6) rfl _ _ (gb+1) 55 #[.int .i64 4,.int .i64 nv] (0,0) _ rfl ((YY.o.qi 0 (.int .i64 4)).qi 1 (.int .i64 nv)) Tryz.underlying55 rfl zn) rfl ⟨none,0,none,0,rfl,Rd.ui,Rd.ui,(KY.o.setCell (p:=⟨gb+1,0,none⟩) zCp _).setCell (p:=⟨gb+1,1,none⟩) zCp _⟩
theorem ar8 (hlp:p.length<=9223372036854775807):Calls Tryz.prog 22 #[.agg #[.slice Ac cs.length cc,.string K,.int .i64 per,.slice An ns.length cn],.slice A p.length c] w (aeL (uR cs (qg K) per ns p) (uS cs (qg K) per ns p) (zq cs (qg K) per ns p).1 (zq cs (qg K) per ns p).2 w):=by
 by_cases h1:(qF cs (qg K) per ns).1=0
 ·by_cases h2:(qj p).1=0
  ·exact anZ Ac An A cc cn c cs K per ns p w B hB h h' hp hl hl' h1 h2
  ·exact ar7 Ac An A cc cn c cs K per ns p w B hB h h' hl hl' hp hlp h1 h2
 ·exact an0 Ac An A cc cn c cs K per ns p w B hB h h' hl hl' h1
end
end Go.Proofs.YtoomffajodheaaaGreatDoor
