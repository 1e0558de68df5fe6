/- The proof of ScriptPlays, part RndOf. Conditions: in each statement. -/
import Derived.Test.YtoomffajodheaaaGreatDoorZDocPl
set_option linter.all false
namespace Go.Proofs.YtoomffajodheaaaGreatDoor
open Go.RowKit
set_option maxRecDepth 100000
theorem zB9{p:Prop}(h:p:=by rfl):p:=h
theorem zER{p:Prop}(h:p:=by
 clear HT
 go_wp2_with fail
 go_roundw
 case rel=>exact ⟨j+1,hjl,by go_num,by rw [HT2.o],by first |rfl|trivial⟩
 case measure=>simp [intOf];omega):p:=h
theorem zEj{p:Prop}(h:p:=by
 go_wp2_with fail
 go_roundw
 case rel=>exact ⟨i+1,k,s,A7,c7,hil,by go_num,rfl,CT.o,HSC.o,HSS.o,HM.o⟩
 case measure=>simp [intOf];omega):p:=h
theorem zFR{p:Prop}(h:p:=by
 rw [hW1,HS1.o]
 exact (((HM.o.setRow h9 zB9 (some g)).af9 g (x0+y0)).drewN 1)):p:=h
theorem atN:(Tryz.prog.info? 4).map (λi=>(i.zero,i.size,i.bytes))=some (some (.bool false),1,1):=zK
theorem aiR {l:List Nat} {j f:Nat} (h:j<l.length):decide (f∈l.take (j+1))=(decide (f∈l.take j)||l[j]==f):=by
 have e:f∈l.take (j+1) ↔ (f∈l.take j\/l[j]=f):=by
  rw [zAN h,zAQ,zAW]
  exact ⟨λh=>h.imp id Eq.symm,λh=>h.imp id Eq.symm⟩
 rw [Bool.eq_iff_iff,zAe,Bool.or_eq_true,zAe,beq_iff_eq]
 exact e
theorem ayN (o:Option Nat):∃sn:Int,svV o=.int .i64 sn/\(∀g:Nat,(g:Int)=sn ↔ o=some g)/\(sn<0 ↔ o=none)/\-1<=sn:=by
 cases o with
 |none=>exact ⟨-1,rfl,λg=>⟨λh=>by omega,λh=>by cases h⟩,⟨λ_=>rfl,λ_=>by omega⟩,by omega⟩
 |some x=>exact ⟨x,rfl,λg=>⟨λh=>by congr 1;omega,λh=>by injection h with h;rw [h]⟩,⟨λh=>by omega,λh=>by cases h⟩,by omega⟩
theorem akP {s:RS} {f:Nat}:f∈lst s ↔ (s.sv=some f\/f∈s.row):=by
 unfold lst
 split
 ·rename_i g h
  rw [h,zAM]
  exact ⟨λh=>h.imp (λe=>by rw [e]) id,λh=>h.imp (λe=>by injection e with e;exact e.symm) id⟩
 ·rename_i h
  rw [h]
  simp
theorem zZ.rdN {w:World} {base:Nat} {e:TypeId} {A:Option Addr} {c:Nat} {s:List Nat} (h:zZ w base e (.slice A s.length c) s):Rd w w.heap.size 1 nCs A s:=λh0=>by
 obtain ⟨b,o,c',hv,_,hb,hc⟩:=h.at_ h0
 simp only [zAp,true_and] at hv
 refine ⟨b,o,hv.1,hb,λi x hx j v hj=>?_⟩
 obtain ⟨hi,e1⟩:=zAj.1 hx
 have hj0:j=0:=by
  have:=(zAj.1 hj).1
  simp [nCs] at this
  exact this
 subst hj0
 simp only [nCs,zE,zAC] at hj
 rw [Nat.mul_one,Nat.add_zero,hc i hi,e1,hj]
theorem asK {s s':RS} (hc:s'.c=s.c) (hv:s'.sv=s.sv):rMu s'=rMu s:=by
 have:lack s'=lack s:=by funext g;unfold lack;rw [hc]
 unfold rMu
 rw [this,hv]
set_option maxHeartbeats 16000000 in
theorem alL (A A':Option Addr) (c c':Nat) (p:List Pk) (per:Int) (qs:List Int) (w:World) (B:Nat) (hB:B<=w.heap.size) (h:RdP w B A p) (h':RdI w B A' qs) (hp:∀x∈p,zg x) (hs:p.Pairwise (λx y=>x.a<=y.a)) (hl:p.length<=300) (h0:1<=per) (h1:per<=1000) (h8:qs.length=8) (hqn:∀n∈qs,1<=n/\n<=3000):
 Calls Tryz.prog 59 #[.slice A p.length c,.int .i64 per,.slice A' qs.length c'] w (vI Sn.cs 3 64 (acU p per qs) w):=by
 obtain ⟨iI,hI,hI0,hI1,hI2⟩:=info_parts wO
 obtain ⟨iB,hBo,hB0,hB1,hB2⟩:=info_parts atN
 obtain ⟨iS,hSn,hS0,hS1,hS2⟩:=info_parts akX
 have hqq:∀g,g<8->1<=qu qs g/\qu qs g<=3000:=λg hg=>by
  unfold qu
  have hgl:g<qs.length:=zO
  simp only [List.getD,zAR hgl,Option.getD_some]
  exact hqn _ (zd hgl)
 have hq0:∀g,0<=qu qs g:=λg=>by
  by_cases hg:g<8
  ·have:=(hqq g hg).1;omega
  ·unfold qu
   simp only [List.getD,List.getElem?_eq_none (show qs.length<=g by omega),Option.getD_none]
   omega
 have HQQ:=zL hqq
 have HQ0:=zL hq0
 have HQ1:=zM (∀g,g<8->1<=qu qs g) (λg hg=>(hqq g hg).1)
 have H8:=zL h8
 have HS:=zL hs
 have HP:=zL hp
 clear h8 hs hp hqq hq0 hqn
 go_enter Tryz.func59,Tryz.ntmps59
 go_wp2_with (first
  |(at_make;refine wpList_make_full _ rfl (.tmp 24) (.tmp 24) 150 rfl w.heap.size 4 iB (.bool false) 1 Tryz.underlying150 hBo hB0 hB1 .i64 .i64 p.length p.length p.length rfl rfl rfl rfl (by rw [hB2];omega) zA2 (zD _) ?_;intro wB rowB gB;rw [bool_newR] at rowB)
  |(at_make;refine wpList_make_full _ rfl (.tmp 27) (.tmp 27) 150 rfl wB.heap.size 4 iB (.bool false) 1 Tryz.underlying150 hBo hB0 hB1 .i64 .i64 p.length p.length p.length rfl rfl rfl rfl (by rw [hB2];omega) zA2 (zD _) ?_;intro wC rowC gC;rw [bool_newR] at rowC)
  |(at_make;refine wpList_make_full _ rfl (.const (.int .i64 8)) (.const (.int .i64 8)) 27 rfl wC.heap.size 3 iI (.int .i64 0) 1 Tryz.underlying27 hI hI0 hI1 .i64 .i64 8 8 8 rfl rfl rfl rfl (by rw [hI2];omega) zA2 (zD _) ?_;intro wD rowD gD;rw [int_newR] at rowD))
 obtain ⟨qD,egD⟩:∃qD,qD=w.heap.size:=⟨_,rfl⟩
 obtain ⟨qC,egC⟩:∃qC,qC=wB.heap.size:=⟨_,rfl⟩
 obtain ⟨qR,egR⟩:∃qR,qR=wC.heap.size:=⟨_,rfl⟩
 have aD:Arw wB qD 4 p.length λj=>.bool (dnB [] j):=by rw [egD];exact Arw.qA rowB λ_ _=>rfl
 have aC:Arw wC qC 4 p.length λj=>.bool (decide (j<0)):=by rw [egC];exact Arw.qA rowC λ_ _=>rfl
 have aR:Arw wD qR 3 8 λj=>.int .i64 (rs0.c j):=by rw [egR];exact Arw.qA rowD λ_ _=>rfl
 have lD:=aD.lt
 have lC:=aC.lt
 have lR:=aR.lt
 have kB:Below w.heap.size w wB:=(zAA _ _).grown gB (zD _) zA1
 have sB:=gB.size
 have sC:=gC.size
 have sD:=gD.size
 have kC:Below w.heap.size w wC:=kB.grown gC zO zA1
 have kD:Below w.heap.size w wD:=kC.grown gD zO zA1
 have mem0:xZ p [] w.heap.size wD.heap.size wD qC qD qR none 0 0 rs0 none 0 wD:=
  {cm:=aC.grown gD zA1,dn:=(aD.grown gC zA1).grown gD zA1,cr:=aR,row:=⟨by simp,.inl ⟨rfl,rfl⟩⟩,rl:=.inl ⟨rfl,rfl⟩,bel:=zAA _ _,ge:=⟨by omega,by omega,by omega⟩,lo:=⟨by omega,by omega,by omega⟩,n1:=⟨by omega,by omega,by omega⟩,bs:=zD _,rn:=λb e=>by simp [Value.ownBlock] at e}
 have hbw:w.heap.size<=wD.heap.size:=kD.size
 rw [<-egD,<-egC,<-egR]
 have M0:=zL mem0
 have KD:=zL kD
 clear aC aD aR lC lD lR kB kC kD sB sC sD egC egD egR rowB rowC rowD gB gC gD mem0
 go_loopg [7,11,12,13] (mu p (⟨[],0,0,rs0⟩:St RS)*30000+24002) (λn v rv sv nw wr=>∃(f:Nat) (t:St RS) (A5:Option Addr) (c5:Nat) (A6:Option Addr) (c6:Nat),v=.slice A5 t.out.length c5/\rv=.slice A6 t.s.row.length c6/\sv=svV t.s.sv/\nw=.int .i64 t.now/\aiF p per qs f t/\xZ p t.out w.heap.size wD.heap.size wD qC qD qR A5 c5 t.next t.s A6 c6 wr/\mu p t*30000+rMu t.s<=n)
 case atStart=>exact ⟨_,⟨[],0,0,rs0⟩,none,0,none,0,rfl,rfl,rfl,rfl,⟨rfl,uI p rs0,wh (M:=yn p qs) (s0:=rs0) p ag4 (akE p qs),λj hj=>zAv hj (Nat.not_lt_zero _)⟩,M0.o,Nat.add_le_add_left (aoK (akE p qs)) _⟩
 case round=>
  obtain ⟨f,t,A5,c5,A6,c6,rfl,rfl,rfl,rfl,hR,hm0,hmu⟩:=hrel
  have n0:=hR.inv.now0
  have n1:=hR.inv.now1
  have HR:=zL hR
  have HM0:=zL hm0
  have HMU:=zL hmu
  clear hR M0 hm0 hmu
  obtain ⟨n,rfl⟩:∃n,gk=n+1:=⟨gk - 1,by have:=HMU.o;unfold rMu at this;omega⟩
  by_cases hlt:t.out.length<p.length
  ·have HLT:=zL hlt
   obtain ⟨sn,hsv,hsg,hsn,hs1⟩:=ayN t.s.sv
   rw [hsv]
   have HSG:=zL hsg
   have HSN:=zL hsn
   have HSV:=zL hsv
   clear hsv hsg hsn
   go_wp2_with fail
   go_loopw [11,14] (λrv iv wr=>∃(i k:Nat) (s:RS) (A6:Option Addr) (c6:Nat),i<=p.length/\iv=.int .i64 i/\rv=.slice A6 s.row.length c6/\CAt (yn p qs) p t i k s/\s.c=t.s.c/\s.sv=t.s.sv/\xZ p t.out w.heap.size wD.heap.size wD qC qD qR A5 c5 k s A6 c6 wr) (λ_ iv _=>p.length - (intOf iv).toNat)
   case atStart=>exact ⟨0,t.next,t.s,A6,c6,zAK _,rfl,rfl,CAt.start HR.o.inv,rfl,rfl,HM0.o⟩
   case round=>
    obtain ⟨i,k,s,A7,c7,hi,rfl,rfl,hC,hsc,hss,hm⟩:=hrel
    have HC:=zL hC
    have HM:=zL hm
    have HSC:=zL hsc
    have HSS:=zL hss
    clear hC hm hsc hss
    by_cases hil:i<p.length
    ·as_aux_lemma=>
     have kw:=KD.o.trans HM.o.bel
     have KW:=zL kw
     obtain ⟨b,o,rfl,hbb,d0,d1,d2⟩:=RdP.get (h.below (kw.mono hB)) hil
     have c0:wr.cell? ⟨qC,i,none⟩=some (.bool (decide (i<k))):=HM.o.cm.cell hil
     have f0:=HM.o.cm.frozen i
     have q1:(0:Int)<=(i:Int):=zO
     have q2:(i:Int)<(p.length:Int):=zO
     have q3:¬(i:Int)<0:=zO
     clear kw hi
     by_cases hik:i<k
     ·obtain ⟨cat2,hai⟩:=HC.o.old HR.o.cm hik
      have CT:=zL cat2
      rw [zAI hik] at c0
      clear cat2 hai hik
      exact zEj
     ·have hki:k<=i:=by omega
      rw [zAH hik] at c0
      obtain ⟨pa,hpa⟩:∃pa,pa=p[i].a:=⟨_,rfl⟩
      have haa:aOf p i=pa:=by rw [zy hil,hpa]
      rw [<-hpa] at d2
      have HAA:=zL haa
      clear hik hpa haa
      by_cases hlate:t.now<pa
      ·have CT:=zL (HC.o.late hki (by rw [HAA.o];exact hlate))
       clear hki
       exact zEj
      ·have hle:pa<=t.now:=by omega
       have hki2:k=i:=HC.o.a2L HS.o hki hil (by rw [HAA.o];exact hle)
       subst hki2
       have hok:=HP.o _ (zd hil)
       obtain ⟨fl,hf⟩:∃fl:Nat,p[k].f=fl:=⟨p[k].f.toNat,by have:=hok.1;omega⟩
       have hfl:flN p k=fl:=by unfold flN;rw [vR hil,hf];simp
       rw [hf] at d0
       have CT:=zL (HC.o.come (aa5 HP.o HQ0.o HQ1.o) hil (by rw [HAA.o];exact hle))
       have HFL:=zL hfl
       have hMc:=HM.o.cm
       clear hok hf hfl hlate hki hMc
       have m0:=HM.o.rl.slice
       obtain ⟨W1,hW1⟩:∃W1:World,W1=wr.setCell ⟨qC,k,none⟩ (.bool true):=⟨_,rfl⟩
       have HW1:=zL hW1
       have rl1:zZ W1 wD.heap.size 3 (.slice A7 s.row.length c7) s.row:=by
        rw [hW1]
        exact HM.o.rl.qi (a:=⟨qC,k,none⟩) (λe=>by have h9:wD.heap.size<=qC:=(HM.o.rl.lt _ e).1;have:=HM.o.lo.1;omega) _
       have bw1:Below B wr W1:=by rw [hW1];exact (zAA _ _).setCell (p:=⟨qC,k,none⟩) (zAB hB HM.o.ge.1) _
       have d01:(wr.setCell ⟨qC,k,none⟩ (.bool true)).cell? ⟨b,o+k*3,none⟩=some (.int .i64 (fl:Int)):=by rw [<-hW1];exact (bw1.cell (p:=⟨b,o+k*3,none⟩) hbb).trans d0
       have hrl:s.row.length<=8:=by
        have h9:=aaS HP.o HC.o.inv.ok
        have:s.row.length<=(lst s).length:=by unfold lst;split<;>simp
        omega
       obtain ⟨b0,hb0⟩:∃b0,b0=((fl:Int)==sn):=⟨_,rfl⟩
       have hb0':b0=decide (s.sv=some fl):=by rw [hb0,HSS.o,Bool.eq_iff_iff,beq_iff_eq,zAe];exact HSG.o fl
       have HB0:=zL hb0
       have HB0':=zL hb0'
       have HRL1:=zL rl1
       clear hW1 rl1 d0 d1 bw1 m0 hb0 hb0'
       go_wp2_with fail
       rw [<-HW1.o,<-HB0.o]
       clear d01 c0 f0 d2
       go_loopw [16,17] (λisv jv wr=>∃j:Nat,j<=s.row.length/\jv=.int .i64 j/\isv=.bool (b0||decide (fl∈s.row.take j))/\wr=W1) (λ_ jv _=>s.row.length - (intOf jv).toNat)
       case atStart=>exact ⟨0,zAK _,rfl,by simp,rfl⟩
       case round=>
        obtain ⟨j,hj,rfl,rfl,hwr⟩:=hrel
        obtain rfl:W1=wr:=hwr.symm
        clear hwr
        by_cases hjl:j<s.row.length
        ·obtain ⟨b7,o7,c8,e7,hcl,hb7,hcell⟩:=HRL1.o.at_ zO
         simp only [zAp,true_and] at e7
         obtain ⟨rfl,rfl⟩:=e7
         have cj:=hcell j hjl
         have HT:=zL (aiR (f:=fl) hjl)
         have r1:(0:Int)<=(j:Int):=zO
         have r2:(j:Int)<(s.row.length:Int):=zO
         obtain ⟨x,hx⟩:∃x,x=s.row[j]:=⟨_,rfl⟩
         rw [<-hx] at cj HT
         clear hcell hx
         by_cases hxf:x=fl
         ·subst hxf
          have hxx:((x:Int)==(x:Int))=true:=zA1
          have HT2:=zM ((b0||decide (x∈s.row.take (j+1)))=true) (by rw [HT.o];simp)
          exact zER
         ·have hxx:((x:Int)==(fl:Int))=false:=by simp;omega
          have HT2:=zM ((b0||decide (fl∈s.row.take (j+1)))=(b0||decide (fl∈s.row.take j))) (by rw [HT.o,beq_eq_false_iff_ne.2 hxf,Bool.or_false])
          exact zER
        ·have hje:s.row.take j=s.row:=zAZ zO
         rw [hje,HB0'.out]
         have hml:(decide (s.sv=some fl)||decide (fl∈s.row))=decide (fl∈lst s):=by
          rw [Bool.eq_iff_iff,Bool.or_eq_true,zAe,zAe,zAe]
          exact akP.symm
         rw [hml]
         clear hje hml
         by_cases hm:fl∈lst s
         ·rw [zAI hm]
          have HM2:=zM (xZ p t.out w.heap.size wD.heap.size wD qC qD qR A5 c5 (k+1) (uf p s k) A7 c7 W1) (by rw [HW1.o];exact HM.o.a3A (by rw [HFL.o];exact hm))
          have hrow:(uf p s k).row=s.row:=zp (by rw [HFL.o];exact hm)
          have HRW:=zL hrow
          clear hm hrow
          go_wp2_with fail
          go_roundw
          case rel=>exact ⟨k+1,k+1,uf p s k,A7,c7,hil,by go_num,by rw [HRW.o],CT.o,HSC.o,HSS.o,HM2.o⟩
          case measure=>simp [intOf];omega
         ·rw [zAH hm]
          have HMN:=zL hm
          clear hm
          go_wp2_with (at_builtin;refine wpList_append_mid _ rfl (.tmp 79) (.tmp 81) 27 rfl wD.heap.size 3 iI Tryz.underlying27 hI hI0 hI1 hI2 (.slice A7 s.row.length c7) s.row rfl (HRL1.o.alloc _) ⟨W1.heap.size,0,none⟩ fl rfl (uK (heap_alloc_new _ _) 0) zO (by have:=HM.o.bs;rw [HW1.o];simp;omega) ?_;intro v3 w3 row3 g3 at3)
          obtain ⟨A8,c8,hv8,m8⟩:=HM.o.a2Z (by rw [HFL.o];exact HMN.o) (by rw [HFL.o];exact row3) (by rw [<-HW1.o];exact g3) (by rw [<-HW1.o];exact at3)
          refine ⟨⟨k+1,k+1,uf p s k,A8,c8,hil,by go_num,hv8,CT.o,HSC.o,HSS.o,m8⟩,?_⟩
          simp [intOf]
          omega
    ·have hend:comeL (yn p qs) t.now (p.drop t.next) t.next t.s=(k,s):=by
      have h9:=HC.o
      rw [show i=p.length by omega] at h9
      exact h9.agB
     have hri:RI p qs k s:=HC.o.inv.ok
     have HEND:=zL hend
     have HRI:=zL hri
     have hkp:=hri.le
     clear hend hri hi
     by_cases hidle:s.sv=none/\s.row=[]
     ·as_aux_lemma=>
      obtain ⟨hsv,hrow⟩:=hidle
      have sn0:sn<0:=HSN.o.2 (by rw [<-HSS.o];exact hsv)
      have HSVN:=zL hsv
      clear hsv
      have hturn:vM qs s=none:=by unfold vM;rw [HSVN.o,hrow]
      obtain ⟨ik,idn,idl,est⟩:=HR.o.idle HP.o HQ0.o HQ1.o HLT.o HEND.o hturn
      obtain ⟨hro,hmu2⟩:=HR.o.step HP.o HS.o h0 h1 HQ0.o HQ1.o HLT.o
      rw [est] at hro hmu2
      have HRO:=zL hro
      have HMU2:=zL hmu2
      have IDN:=zL idn
      have IDL:=zL idl
      have hz:s.row.length=0:=by rw [hrow];rfl
      have HZ:=zL hz
      rw [hz]
      obtain ⟨W1,hW1⟩:∃W1:World,W1=wr:=⟨_,rfl⟩
      have HM1:=zM (xZ p t.out w.heap.size wD.heap.size wD qC qD qR A5 c5 k s A7 c7 W1) (by rw [hW1];exact HM.o)
      rw [<-hW1]
      clear hro hmu2 idn idl est hturn hrow hW1 hz
      go_wp2_with fail
      clear hil
      go_loopw [18] (λiv wr=>∃i:Nat,i<=k/\iv=.int .i64 i/\wr=W1) (λiv _=>k - (intOf iv).toNat)
      case atStart=>exact ⟨0,zAK _,rfl,rfl⟩
      case round=>
       obtain ⟨i,hi,rfl,hwr⟩:=hrel
       obtain rfl:W1=wr:=hwr.symm
       clear hwr
       have hil2:i<p.length:=zO
       have e0:W1.cell? ⟨qD,i,none⟩=some (.bool (dnB t.out i)):=HM1.o.dn.cell hil2
       have q1:(0:Int)<=(i:Int):=zO
       have q2:(i:Int)<(p.length:Int):=zO
       by_cases hik:i<k
       ·rw [IDL.o i hik] at e0
        go_wp2_with fail
        go_roundw
        case rel=>exact ⟨i+1,hik,by go_num,by first |rfl|trivial⟩
        case measure=>simp [intOf];omega
       ·obtain rfl:i=k:=by omega
        rw [IDN.o] at e0
        have kw:=KD.o.trans HM1.o.bel
        obtain ⟨b,o,rfl,hbb,d0,d1,d2⟩:=RdP.get (h.below (kw.mono hB)) hil2
        have haa:aOf p i=p[i].a:=zy hil2
        rw [<-haa] at d2
        have HAA:=zL haa
        have hrm:=aoK HRI.o
        have HRM:=zL hrm
        clear kw haa hrm hik hi
        go_wp2_with fail
        go_roundg n
        case rel=>exact ⟨_,⟨t.out,aOf p i,i,s⟩,A5,c5,A7,c7,rfl,by rw [HZ.o],by rw [HSS.o,HSV.o],rfl,HRO.o,HM1.o,by have:=HRM.o;have:=HMU.o;have:=HMU2.o;show _*30000+rMu s<=n;omega⟩
        case measure=>exact Nat.lt_succ_self _
     ·have ways:(∃g r,s.sv=none/\s.row=g::r)\/∃g,s.sv=some g:=by
       cases hsv:s.sv with
       |some g=>exact .inr ⟨g,rfl⟩
       |none=>
        cases hrow:s.row with
        |nil=>exact zAv ⟨hsv,hrow⟩ hidle
        |cons g r=>exact .inl ⟨g,r,rfl,rfl⟩
      clear hidle
      rcases ways with ⟨g,r,hsv,hrow⟩|⟨g,hsv⟩
      focus
       have sn0:sn<0:=HSN.o.2 (by rw [<-HSS.o];exact hsv)
       have HSVN:=zL hsv
       clear hsv
       have hqg:s.q g≠[]:=(HRI.o.mem g).1 (akP.2 (.inr (by rw [hrow];exact zAD)))
       have g8:=HRI.o.g8 HP.o hqg
       obtain ⟨x0,hx0⟩:∃x0,x0=s.c g:=⟨_,rfl⟩
       obtain ⟨y0,hy0⟩:∃y0,y0=qu qs g:=⟨_,rfl⟩
       have hturn:vM qs s=some (g,{s with row:=r,sv:=some g,c:=upd s.c g (x0+y0)}):=by unfold vM;rw [HSVN.o,hrow,hx0,hy0]
       have hcb:=alO HP.o HQQ.o HRI.o g8
       have hqb:=HQQ.o g g8
       rw [<-hx0] at hcb
       rw [<-hy0] at hqb
       obtain ⟨hcb1,hcb2⟩:=hcb
       obtain ⟨hqb1,hqb2⟩:=hqb
       have hrl:=HM.o.rl
       rw [hrow] at hrl
       obtain ⟨b7,o7,c8,e7,hcl,e0⟩:=hrl.aq2
       simp only [zAp,true_and,zAL] at e7
       obtain ⟨rfl,rfl⟩:=e7
       have htl:=hrl.tail
       have ec:wr.cell? ⟨qR,g,none⟩=some (.int .i64 x0):=by rw [hx0];exact HM.o.cr.cell g8
       have fc:=HM.o.cr.frozen g
       have kw:=KD.o.trans HM.o.bel
       have hgq:g<qs.length:=by rw [H8.o];exact g8
       obtain ⟨b2,o2,rfl,hb2,k0⟩:=RdI.get (h'.below (kw.mono hB)) hgq
       have hqe:qs[g]=y0:=by rw [hy0];unfold qu;simp [List.getD,hgq]
       rw [hqe] at k0
       have q1:(0:Int)<=(g:Int):=zO
       have q2:(g:Int)<8:=zO
       have q3:(g:Int)<(qs.length:Int):=zO
       have q4:¬(g:Int)<0:=zO
       obtain ⟨N,hN⟩:∃N,N=(g::r).length:=⟨_,rfl⟩
       have hN1:N=r.length+1:=by rw [hN];rfl
       have hz:((N:Int)==0)=false:=beq_eq_false_iff_ne.2 zO
       have q5:(0:Int)<(N:Int):=zO
       have q6:(1:Int)<=(N:Int):=zO
       have q7:(N:Int)<=(c7:Int):=zO
       rw [hrow,<-hN]
       have HN1:=zL hN1
       obtain ⟨s1,hs1⟩:∃s1:RS,s1={s with row:=r,sv:=some g,c:=upd s.c g (x0+y0)}:=⟨_,rfl⟩
       rw [<-hs1] at hturn
       have HS1:=zL hs1
       have HTURN:=zL hturn
       have HTL:=zL htl
       have HRW:=zL hrow
       clear hqg hx0 hy0 hturn hrl htl kw hgq hqe hrow hs1 hN hN1 hcl
       by_cases hc8:c7=1
       focus
        subst hc8
        go_wp2_with fail
        go_still_tail 12,zK
        go_wp2_with fail
        obtain ⟨W1,hW1⟩:∃W1:World,W1=(wr.setCell ⟨qR,g,none⟩ (.int .i64 (x0+y0))).drew:=⟨_,rfl⟩
        obtain ⟨V6,hV6⟩:∃V6,V6=Value.slice (some ⟨b7,o7,none⟩) (N - 1) 0:=⟨_,rfl⟩
        have hv:∃A8 c8,V6=.slice A8 s1.row.length c8/\xZ p t.out w.heap.size wD.heap.size wD qC qD qR A5 c5 k s1 A8 c8 W1:=by
         have hsr:s1.row=r:=by rw [HS1.o]
         have h9:=HTL.o
         simp only [ite_true] at h9
         refine ⟨(some ⟨b7,o7,none⟩),0,by rw [hV6,hsr,HN1.o];rfl,?_⟩
         exact zFR
        rw [<-hW1,<-hV6]
        have HVV:=zL hv
        have G8:=zL g8
        clear hv hW1 hV6 ec fc e0 k0 hz q5 q6 q7 hcb1 hcb2 hqb1 hqb2 HTL HRW HN1 HS1
       rotate_left
       focus
        go_wp2_with fail
        go_still_tail 12,zK
        go_wp2_with fail
        obtain ⟨W1,hW1⟩:∃W1:World,W1=(wr.setCell ⟨qR,g,none⟩ (.int .i64 (x0+y0))).drew:=⟨_,rfl⟩
        obtain ⟨V6,hV6⟩:∃V6,V6=Value.slice (some ⟨b7,o7+1,none⟩) (N - 1) (c7 - 1):=⟨_,rfl⟩
        have hv:∃A8 c8,V6=.slice A8 s1.row.length c8/\xZ p t.out w.heap.size wD.heap.size wD qC qD qR A5 c5 k s1 A8 c8 W1:=by
         have hsr:s1.row=r:=by rw [HS1.o]
         have h9:=HTL.o
         rw [z6 hc8] at h9
         refine ⟨(some ⟨b7,o7+1,none⟩),(c7 - 1),by rw [hV6,hsr,HN1.o];rfl,?_⟩
         exact zFR
        rw [<-hW1,<-hV6]
        have HVV:=zL hv
        have G8:=zL g8
        clear hv hW1 hV6 ec fc e0 k0 hz q5 q6 q7 hcb1 hcb2 hqb1 hqb2 HTL HRW HN1 HS1 hc8
      rotate_left 2
      focus
       have hsg:(g:Int)=sn:=(HSG.o g).2 (by rw [<-HSS.o];exact hsv)
       have g8:=HRI.o.g8 HP.o ((HRI.o.mem g).1 (akP.2 (.inl hsv)))
       have HTURN:=zM (vM qs s=some (g,s)) (by unfold vM;rw [hsv])
       have q4:¬(g:Int)<0:=zO
       subst hsg
       obtain ⟨W1,hW1⟩:∃W1:World,W1=wr:=⟨_,rfl⟩
       obtain ⟨V6,hV6⟩:∃V6,V6=Value.slice A7 s.row.length c7:=⟨_,rfl⟩
       obtain ⟨s1,hs1⟩:∃s1,s1=s:=⟨_,rfl⟩
       have hv:∃A8 c8,V6=.slice A8 s1.row.length c8/\xZ p t.out w.heap.size wD.heap.size wD qC qD qR A5 c5 k s1 A8 c8 W1:=by
        rw [hs1,hW1]
        exact ⟨A7,c7,hV6,HM.o⟩
       rw [<-hW1]
       have HVV:=zL hv
       have G8:=zL g8
       have HV6:=zL hV6
       have HTURN:=zM (vM qs s=some (g,s1)) (by rw [hs1];exact HTURN.o)
       clear hv hW1 hV6 hs1 hsv
       go_wp2_with fail
       rw [<-HV6.o]
      all_goals
       obtain ⟨A8,c8,rfl,hm1⟩:=HVV.o
       have HM1:=zL hm1
       obtain ⟨hri1,hsv1,hq1,hl1,hne,_⟩:=HRI.o.turn HQ0.o HTURN.o
       obtain ⟨kk,tl,hqk⟩:∃kk tl,s.q g=kk::tl:=by
        cases hq:s.q g with
        |nil=>exact zAv hq hne
        |cons kk tl=>exact ⟨kk,tl,rfl⟩
       have hwt:=HR.o.wait HP.o HS.o HQ0.o HQ1.o HEND.o
       have hwq:=(au2 HRI.o hwt G8.o).trans hqk
       have hkp:kk<p.length:=by have:=(HRI.o.fl g kk (by rw [hqk];exact zAD)).1;have:=HRI.o.le;omega
       have hhd:yH s1 g=kk:=by unfold yH;rw [hq1,hqk];rfl
       have kw1:=KD.o.trans hm1.bel
       have HQK:=zL hqk
       have HWT:=zL hwt
       have HHD:=zL hhd
       have HRI1:=zL hri1
       have HSV1:=zL hsv1
       have HQ1E:=zL hq1
       have HWQ:=zL hwq
       have KW1:=zL kw1
       have hda:=hm1.dn
       clear HVV hri1 hsv1 hq1 hl1 hne hwt hwq hhd hqk hm1
       refine (afR A c p qD (dnB t.out) g t.now W1 _ (zAB hB kw1.size) (h.below (kw1.mono hB)) HP.o hl hda).mono ?_
       rw [HWQ.o]
       rintro e w2 ⟨A9,c9,rfl,o9,k9⟩
       have hm2:=HM1.o.aaB k9
       have HM2:=zL hm2
       have HK9:=zL k9
       obtain ⟨b9,o9',c9',e9,hc9,e90⟩:=(zZ.qA o9).aq2
       simp only [zAp,true_and,zAL] at e9
       obtain ⟨rfl,rfl⟩:=e9
       obtain ⟨N9,hN9⟩:∃N9,N9=(kk::tl).length:=⟨_,rfl⟩
       rw [<-hN9]
       have n9:(0:Int)<(N9:Int):=by rw [hN9];simp only [zAL];omega
       have kw2:=KD.o.trans hm2.bel
       obtain ⟨b,o,rfl,hbb,d0,d1,d2⟩:=RdP.get (h.below (kw2.mono hB)) hkp
       have hok:=HP.o _ (zd hkp)
       obtain ⟨z,hz⟩:∃z,z=p[kk].s:=⟨_,rfl⟩
       obtain ⟨cr,hcr⟩:∃cr,cr=s1.c g:=⟨_,rfl⟩
       have ec:w2.cell? ⟨qR,g,none⟩=some (.int .i64 cr):=by rw [hcr];exact hm2.cr.cell G8.o
       have hzk:sOf p kk=z:=by rw [yA hkp,hz]
       have hcb:=alO HP.o HQQ.o HRI1.o G8.o
       rw [<-hcr] at hcb
       obtain ⟨hcb1,hcb2⟩:=hcb
       have z1:1<=z:=by rw [hz];exact hok.2.2.1
       have z2:z<=1500:=by rw [hz];exact hok.2.2.2.1
       rw [<-hz] at d1
       have HZK:=zL hzk
       have HCR:=zL hcr
       have KW2:=zL kw2
       have HD1:=zL d1
       have p1:(0:Int)<=(kk:Int):=zO
       have p2:(kk:Int)<(p.length:Int):=zO
       have p3:(0:Int)<=(g:Int):=zO
       have p4:(g:Int)<8:=by have:=G8.o;omega
       have p5:¬(kk:Int)<0:=zO
       clear kw1 hda o9 hm2 k9 hc9 hN9 hok hz hcr hzk kw2 d0 d2
       by_cases hfit:z<=cr
       ·as_aux_lemma=>
        have hft:sOf p (yH s1 g)<=s1.c g:=by rw [HHD.o,HZK.o,<-HCR.o];exact hfit
        have est:yG (yn p qs) p per t=⟨t.out++[⟨kk,t.now,t.now+per*z⟩],t.now+per*z,k,wY p s1 g⟩:=by
         have h9:=vS (M:=yn p qs) (p:=p) (per:=per) (t:=t) HEND.o (show (yn p qs).pick s=_ from asI HTURN.o hft)
         rw [HHD.o,HZK.o] at h9
         exact h9
        obtain ⟨hro,hmu2⟩:=HR.o.step HP.o HS.o h0 h1 HQ0.o HQ1.o HLT.o
        rw [est] at hro hmu2
        have HRO:=zL hro
        have HMU2:=zL hmu2
        have hrm:=aoK (show RI p qs k (wY p s1 g) from hro.inv.ok)
        have HRM:=zL hrm
        have m1:0<=per*z:=zAY zO zO
        have m2:per*z<=1000*1500:=Int.mul_le_mul h1 z2 zO zO
        have hol:t.out.length<=300:=by have:=HLT.o;omega
        have n2:t.now<=1099961627776:=zO
        have hnn:decide (cr<z)=false:=zAH zO
        have HNN:=zL hnn
        clear hft est hro hmu2 hrm hfit hnn
        go_wp2_with fail
        have hnn:=HNN.o
        go_quiet (fail)
        rename Nat=>nq
        obtain ⟨X,hX⟩:∃X:World,X=w2.drewN nq:=⟨_,rfl⟩
        have HMX:=zM (xZ p t.out w.heap.size wD.heap.size wD qC qD qR A5 c5 k s1 A8 c8 X) (by rw [hX];exact HM2.o.drewN nq)
        have ecX:X.cell? ⟨qR,g,none⟩=some (.int .i64 cr):=by rw [hX];exact ec
        have dX:X.cell? ⟨b,o+kk*3+1,none⟩=some (.int .i64 z):=by rw [hX];exact d1
        have fX:=HMX.o.cr.frozen g
        rw [<-hX]
        clear hX ec d1 e90
        have y1:-9223372036854775808<=cr - z:=zO
        have y2:cr - z<=9223372036854775807:=zO
        clear hnn HNN
        go_upto_region 38 with fail
        go_cut [] from 30 to 188 (λwx=>xZ p t.out w.heap.size wD.heap.size wD qC qD qR A5 c5 k {s1 with c:=upd s1.c g (cr - z)} A8 c8 wx/\wx.cell? ⟨b,o+kk*3+1,none⟩=some (.int .i64 z))
        case first=>as_aux_lemma=>
         have HMY:=zM (xZ p t.out w.heap.size wD.heap.size wD qC qD qR A5 c5 k {s1 with c:=upd s1.c g (cr - z)} A8 c8 (X.setCell ⟨qR,g,none⟩ (.int .i64 (cr - z))).drew) ((HMX.o.af9 g (cr - z)).drewN 1)
         have HdY:=zM ((X.setCell ⟨qR,g,none⟩ (.int .i64 (cr - z))).drew.cell? ⟨b,o+kk*3+1,none⟩=some (.int .i64 z)) ((World.cell?_setCell_far X ⟨qR,g,none⟩ ⟨b,o+kk*3+1,none⟩ (.int .i64 (cr - z)) (by have hg3:=HMX.o.ge;show qR≠b;omega)).trans dX)
         go_region
         go_wp2_with fail
         go_meet
         exact ⟨HMY.o,HdY.o⟩
        case rest=>
        rename World=>Y
        have HMY:=zL hcut.1
        have fD:=hcut.1.dn.frozen kk
        have cD:=hcut.1.dn.cell hkp
        have HdZ:=zM ((Y.setCell ⟨qD,kk,none⟩ (.bool true)).cell? ⟨b,o+kk*3+1,none⟩=some (.int .i64 z)) ((World.cell?_setCell_far Y ⟨qD,kk,none⟩ ⟨b,o+kk*3+1,none⟩ (.bool true) (by have hg3:=hcut.1.ge;show qD≠b;omega)).trans hcut.2)
        clear hcut HMX ecX dX fX X
        go_upto_region 39 with fail
        go_cut [] from 30 to 188 (λwx=>wx=Y.setCell ⟨qD,kk,none⟩ (.bool true))
        case first=>as_aux_lemma=>
         go_wp2_with fail
         go_meet
         rfl
        case rest=>
        rename World=>Z
        have HZ:=zL hcut
        have dZ:Z.cell? ⟨b,o+kk*3+1,none⟩=some (.int .i64 z):=by rw [HZ.o];exact HdZ.o
        have rowZ:Z.ownsRow wD.heap.size 64 3 (.slice A5 t.out.length c5) t.out.length (t.out.flatMap Sn.cs):=by
         rw [HZ.o]
         exact aaR HMY.o.row λb' hb'=>zAF Y ⟨qD,kk,none⟩ (.bool true) b' (λe=>by have h9:=zH HMY.o.row b' hb';have:=HMY.o.lo;simp only at e;omega)
        have hZs:wD.heap.size<=Z.heap.size:=by rw [HZ.o,zf];exact HMY.o.bs
        obtain ⟨x,hx⟩:∃x:Sn,x=⟨kk,t.now,t.now+per*z⟩:=⟨_,rfl⟩
        have Hx:=zL hx
        have hq3:t.out.length+[x].length<=maxLen:=zA8
        have hq4:(t.out.length+[x].length)*24<=140737488355328:=zBF
        have hq5:wD.heap.size<=((Z.alloc (.cells #[.int .i64 kk,.int .i64 t.now,.int .i64 (t.now+per*z)] 64)).alloc (.cells #[.int .i64 kk,.int .i64 t.now,.int .i64 (t.now+per*z)] 64)).heap.size:=zA7
        have HROW:=zL rowZ
        clear hcut hx rowZ fD cD
        rw [<-Hx.o] at HRO HMU2
        obtain ⟨out',ho⟩:∃out',out'=t.out++[x]:=⟨_,rfl⟩
        rw [<-ho] at HRO HMU2
        have Ho:=zL ho
        clear ho
        have hxp:x.p=kk:=by rw [Hx.o]
        have HXP:=zL hxp
        clear hxp
        go_upto_region 41 with fail
        go_cut [7] from 30 to 188 (λs7 wx=>∃A6 c6,s7=.slice A6 out'.length c6/\xZ p out' w.heap.size wD.heap.size wD qC qD qR A6 c6 k {s1 with c:=upd s1.c g (cr - z)} A8 c8 wx/\Blk wx Z.heap.size 64 #[.int .i64 kk,.int .i64 t.now,.int .i64 (t.now+per*z)]/\Z.heap.size<wx.heap.size)
        case first=>as_aux_lemma=>
         go_wp2_with (at_builtin;refine qd _ Sn.cs rfl (.tmp 172) (.tmp 174) 60 rfl wD.heap.size 64 iS (.agg #[.int .i64 0,.int .i64 0,.int .i64 0]) 3 24 Tryz.underlying60 hSn hS0 hS1 hS2 rfl zO Sn.qw Sn.qV (.slice A5 t.out.length c5) t.out.length (t.out.flatMap Sn.cs) rfl ((HROW.o.alloc _).alloc _) (Z.heap.size+2) (some ⟨Z.heap.size+1,0,none⟩) 1 [x] rfl (Rd.of_block (qN _ _ _) ((zAu (λy=>[y].flatMap Sn.cs) Hx.o).symm) (Nat.lt_succ_self _) zO Sn.qw) hq3 hq4 hq5 ?_;intro v3 w3 row3 g3 at3)
         go_meet
         obtain ⟨A6,c6,hv6,row3⟩:=qI row3 zO
         have hb3:=aaV g3 (xQ HROW.o)
         have hs3:Z.heap.size<w3.heap.size:=by have:=g3.size;simp at this;omega
         rw [hv6] at at3
         rw [HZ.o] at g3 at3
         have m4:=HMY.o.sent HXP.o row3 g3 at3
         rw [<-Ho.o] at hv6 m4
         exact ⟨A6,c6,hv6,m4,hb3,hs3⟩
        case rest=>
        rename World=>V
        obtain ⟨A6,c6,rfl,hm7,hb7,hs7⟩:=hcut
        have HM7:=zL hm7
        have HB7:=zL hb7
        have kw7:=KD.o.trans hm7.bel
        have hd7:=hm7.dn
        have htl:=arQ HRI.o HWT.o G8.o HQK.o (d':=dnB out') (λj=>by
         rw [Ho.o,aeA,HXP.o]
         congr 1
         rw [Bool.eq_iff_iff,beq_iff_eq,beq_iff_eq]
         omega)
        have HTL:=zL htl
        clear hm7 hb7 htl dZ hq3 hq4 hq5
        go_wp2_with fail
        refine (afR (some ⟨b,o,none⟩) c p qD (dnB out') g t.now V _ (zAB hB kw7.size) (h.below (kw7.mono hB)) HP.o hl hd7).mono ?_
        rw [HTL.o]
        rintro e w4 ⟨A11,c11,rfl,o11,k11⟩
        have HM4:=zL (HM7.o.aaB k11)
        have hb4:=HB7.o.below k11 hs7
        have hge:=HM7.o.lo
        have hgx:Z.heap.size≠qR:=zO
        obtain ⟨N11,hN11⟩:∃N11,N11=tl.length:=⟨_,rfl⟩
        rw [<-hN11]
        have HN11:=zL hN11
        clear hd7 o11 k11 hN11 hge
        by_cases hN0:N11=0
        ·have hz0:((N11:Int)==0)=true:=by simp [hN0]
         have htn:tl=[]:=zAm (by rw [<-HN11.o];exact hN0)
         have cR:=HM4.o.cr.cell G8.o
         have fR:=HM4.o.cr.frozen g
         have xT:(w4.setCell ⟨qR,g,none⟩ (.int .i64 0)).cell? ⟨Z.heap.size,2,none⟩=some (.int .i64 (t.now+per*z)):=(hb4.far (p:=⟨qR,g,none⟩) hgx (.int .i64 0)).cell 2
         have hst:(s1.q g).tail=[]:=by rw [HQ1E.o,HQK.o];exact htn
         have HST:=zM (wY p s1 g={s1 with q:=upd s1.q g [],c:=upd s1.c g 0,sv:=none}) (zp hst)
         have HMS:=zM (xZ p out' w.heap.size wD.heap.size wD qC qD qR A6 c6 k (wY p s1 g) A8 c8 (w4.setCell ⟨qR,g,none⟩ (.int .i64 0))) ((HM4.o.af9 g 0).axP (by rw [HST.o];funext j;show upd s1.c g 0 j=upd (upd s1.c g (cr - z)) g 0 j;unfold upd;split<;>rfl) (by rw [HST.o]))
         clear hb4 hgx htn hst hN0
         go_wp2_with fail
         go_roundg n
         case rel=>exact ⟨f - 1,⟨out',t.now+per*z,k,wY p s1 g⟩,A6,c6,A8,c8,rfl,by rw [HST.o],by rw [HST.o];rfl,rfl,HRO.o,HMS.o,by have:=HMU.o;have:=HMU2.o;have:=HRM.o;show mu p _*30000+rMu (wY p s1 g)<=n;omega⟩
         case measure=>exact Nat.lt_succ_self _
        ·have hz0:((N11:Int)==0)=false:=beq_eq_false_iff_ne.2 zO
         have xT:w4.cell? ⟨Z.heap.size,2,none⟩=some (.int .i64 (t.now+per*z)):=hb4.cell 2
         have hst:(s1.q g).tail≠[]:=by rw [HQ1E.o,HQK.o];intro e;exact hN0 (by rw [HN11.o,show tl=[] from e];rfl)
         have HST:=zM (wY p s1 g={s1 with q:=upd s1.q g (s1.q g).tail,c:=upd s1.c g (s1.c g - sOf p (yH s1 g))}) (z6 hst)
         have HMS:=zM (xZ p out' w.heap.size wD.heap.size wD qC qD qR A6 c6 k (wY p s1 g) A8 c8 w4) (HM4.o.axP (by rw [HST.o];show upd s1.c g (s1.c g - sOf p (yH s1 g))=upd s1.c g (cr - z);rw [HHD.o,HZK.o,<-HCR.o]) (by rw [HST.o]))
         clear hb4 hgx hst hN0
         go_wp2_with fail
         go_roundg n
         case rel=>exact ⟨f - 1,⟨out',t.now+per*z,k,wY p s1 g⟩,A6,c6,A8,c8,rfl,by rw [HST.o],by rw [HST.o];show Value.int .i64 (g:Int)=svV s1.sv;rw [HSV1.o];rfl,rfl,HRO.o,HMS.o,by have:=HMU.o;have:=HMU2.o;have:=HRM.o;show mu p _*30000+rMu (wY p s1 g)<=n;omega⟩
         case measure=>exact Nat.lt_succ_self _
       ·as_aux_lemma=>
        have hnf:¬sOf p (yH s1 g)<=s1.c g:=by rw [HHD.o,HZK.o,<-HCR.o];exact hfit
        have hro:=HR.o.fail HP.o HS.o HQ0.o HQ1.o HLT.o HEND.o HTURN.o hnf
        have hmf:=(agJ HP.o HQ0.o HQ1.o HRI.o HTURN.o hnf).2
        rw [asK HSC.o HSS.o] at hmf
        have HRO:=zL hro
        have HMF:=zL hmf
        have hnz:cr<z:=zO
        have hrl8:s1.row.length<=8:=by
         have h9:=aaS HP.o HRI1.o
         have:s1.row.length<=(lst s1).length:=by unfold lst;split<;>simp
         omega
        clear hnf hro hmf hfit
        go_wp2_with fail
        go_quiet (fail)
        rename Nat=>nq
        obtain ⟨X,hX⟩:∃X:World,X=w2.drewN nq:=⟨_,rfl⟩
        have HMX:=zM (xZ p t.out w.heap.size wD.heap.size wD qC qD qR A5 c5 k s1 A8 c8 X) (by rw [hX];exact HM2.o.drewN nq)
        rw [<-hX]
        clear hX ec d1 e90
        go_wp2_with (first
         |(at_builtin;refine qd _ nCs rfl (.tmp 137) (.tmp 138) 27 rfl wD.heap.size 3 iI (.int .i64 0) 1 8 Tryz.underlying27 hI hI0 hI1 hI2 rfl zO xP adU (.slice none 0 0) 0 [] rfl ⟨by simp,.inl ⟨rfl,rfl⟩⟩ X.heap.size A8 c8 s1.row rfl HMX.o.rl.rdN zA2 zO HMX.o.bs ?_;intro v3 w3 row3 g3 at3;simp only [Nat.zero_add,zAa] at row3)
         |(at_builtin;refine wpList_append_mid _ rfl (.tmp 140) (.tmp 142) 27 rfl wD.heap.size 3 iI Tryz.underlying27 hI hI0 hI1 hI2 v3 s1.row rfl ((zZ.qA row3).alloc _) ⟨w3.heap.size,0,none⟩ g rfl (uK (heap_alloc_new _ _) 0) zO (by have:=HMX.o.bs;have:=g3.size;simp;omega) ?_;intro v4 w4 row4 g4 at4))
        obtain ⟨A10,c10,hv4⟩:=row4.slice
        have k3:Below X.heap.size X w3:=(zAA _ _).grown g3 (zD _) zBO
        have ho3:∀b,v3.ownBlock=some b->X.heap.size<=b:=λb hb=>by
         rcases at3 with e|e
         ·rw [hb] at e;simp [Value.ownBlock] at e
         ·rw [hb] at e;injection e with e;omega
        have k4:Below X.heap.size X w4:=(k3.alloc k3.size _).grown g4 (qG k3.size _) ho3
        have ho4:∀b,(Value.slice A10 (s1.row++[g]).length c10).ownBlock=some b->X.heap.size<=b:=λb hb=>by
         rw [<-hv4] at hb
         rcases at4 with e|⟨g',e,e'⟩
         ·exact ho3 b (by rw [<-e];exact hb)
         ·rw [hb] at e
          injection e with e
          have:=k3.size
          simp at e'
          omega
        rw [hv4] at row4
        have HN:=zM (xZ p t.out w.heap.size wD.heap.size wD qC qD qR A5 c5 k (rEnd s1 g) A10 c10 w4) (HMX.o.newRow k4 row4 ho4 none)
        clear k3 ho3 k4 ho4 row4 row3 g3 g4 at3 at4
        go_roundg n
        case rel=>exact ⟨f,⟨t.out,t.now,k,rEnd s1 g⟩,A5,c5,A10,c10,rfl,hv4,rfl,rfl,HRO.o,HN.o,by have:=HMU.o;have:=HMF.o;show mu p t*30000+rMu (rEnd s1 g)<=n;omega⟩
        case measure=>exact Nat.lt_succ_self _
  ·have e:=HR.o.run.trans (acB (yn p qs) p per f t hlt)
   have eL:=zM (acU p per qs=t.out) (by unfold acU;rw [e])
   clear e
   go_wp2_with fail
   go_ret
   rw [eL.o]
   exact ⟨A5,c5,rfl,qO HM0.o.row hbw,KD.o.trans HM0.o.bel⟩
end Go.Proofs.YtoomffajodheaaaGreatDoor
