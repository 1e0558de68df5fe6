/- The proof of ScriptPlays, part SfM. Conditions: in each statement. -/
import Derived.Test.YtoomffajodheaaaGreatDoorZKpM
set_option linter.all false
namespace Go.Proofs.YtoomffajodheaaaGreatDoor
open Go.RowKit
set_option maxRecDepth 100000
theorem zBM{p:Prop}(h:p:=by rw [hX];exact below_drewN (below_drewN k2' q) nq):p:=h
theorem zBh{p:Prop}(h:p:=by rw [htl];rfl):p:=h
theorem zBw{p:Prop}(h:p:=by rw [hX];exact ym ROW2.o λq hq=>rfl):p:=h
theorem zB3{p:Prop}(h:p:=by rw [HI.o,zAi,List.singleton_append]):p:=h
theorem zB6{p:Prop}(h:p:=by rw [<-hins,zAP,hxl,hdl]<;>omega):p:=h
theorem zCJ{p:Prop}(h:p:=by rw [<-hins,zAP,hxl,hdl];omega):p:=h
theorem zCL{p:Prop}(h:p:=by rw [zAh];have:=HN.o;omega):p:=h
theorem zCY{p:Prop}(h:p:=by rw [hdn];exact λh0=>zAv h0 (by simp)):p:=h
theorem zCa{p:Prop}(h:p:=by rw [<-hins,zAP,hxl];simp):p:=h
theorem zCe{p:Prop}(h:p:=by rw [zAP,htl];rfl):p:=h
theorem zDV{p:Prop}(h:p:=by
 have hil2:(uW out x).length<=i+1:=zCJ
 have hine:uW out x=[]->A8=none/\c8=0:=λe=>zAv (zAu List.length e) zCa
 have row9:=ROW8.o
 rw [hins] at row9
 go_roundw
 case rel=>exact ⟨i+1,uW out x,A8,c8,hil,by go_num,zAu (λk=>Value.slice A8 k c8) zB6,hil2,HRS.o,hine,qO row9 zX,kX.trans (k7.mono zX)⟩
 case measure=>simp [intOf];omega):p:=h
theorem zDk{p:Prop}(h:p:=by
 go_upto_region 19 with fail
 rw [<-HN1.o,<-HBY.o]
 go_wp2_with fail
 go_roundw
 case rel=>exact ⟨k+1,⟨lo,lb,op,hi',hb'⟩,hkl,by go_num,rfl,rfl,rfl,rfl,rfl,by rw [<-E.o];exact HN.o,by rw [<-E.o];exact HST.o,BXV.o,kV⟩
 case measure=>simp [intOf];omega):p:=h
theorem zD0{p:Prop}(h:p:=by
 clear hstep hn hby hby0 hh0
 go_upto_region 19 with fail
 rw [<-HN1.o,<-HBY.o]
 go_wp2_with fail
 go_roundw
 case rel=>exact ⟨k+1,⟨lo,lb,op,-n,-by'⟩,hkl,by go_num,rfl,rfl,rfl,rfl,rfl,by rw [<-E.o];exact HN.o,by rw [<-E.o];exact HST.o,BXV.o,kV⟩
 case measure=>simp [intOf];omega):p:=h
theorem zEd{p:Prop}(h:p:=by
 go_wp2_with fail
 go_roundw
 case rel=>exact ⟨k+1,⟨lo,lb,op,hi',hb'⟩,hkl,by go_num,rfl,rfl,rfl,rfl,rfl,HN.o,HSD.o,BXV.o,kV⟩
 case measure=>simp [intOf];omega):p:=h
theorem zEl{p:Prop}(h:p:=by
 clear hh0
 go_wp2_with fail
 go_ret
 exact ⟨by rw [HF.o,E.o];rfl,hbw⟩):p:=h
theorem zFS{p:Prop}(h:p:=by
 go_wp2_with fail
 go_ret2
 rw [HALL.o]
 exact ⟨A1,c1,rfl,HRD.o,hbw⟩):p:=h
theorem zFl{p:Prop}(h:p:=by
 have hins:out.take j++[x]++out.drop j=uW out x:=zB3
 exact zDV):p:=h
theorem zFm{p:Prop}(h:p:=by
 go_wp2_with fail
 go_ret
 exact ⟨by rw [E.o];rfl,kV⟩):p:=h
structure SBd (s:SS):Prop where
 lo:0<=s.lo/\s.lo<=20000
 lb:1<=s.lb/\s.lb<=100000
 hi:-20000<=s.hi/\s.hi<=20000
 hb:0<=s.hb/\s.hb<=100000
theorem SBd.step {a b:Ln} {s:SS} (h:SBd s) (ha:yL a) (hb:yL b) (hne:b.r≠a.r):SBd (jG a b s):=by
 obtain ⟨a1,a2,a3,a4⟩:=ha
 obtain ⟨b1,b2,b3,b4⟩:=hb
 unfold jG
 split
 ·split
  ·rename_i h1 h2
   exact ⟨by show 0<=a.b - b.b/\a.b - b.b<=20000;omega,by show 1<=b.r - a.r/\b.r - a.r<=100000;omega,h.hi,h.hb⟩
  ·exact h
 ·split
  ·exact ⟨h.lo,h.lb,by show -20000≤-(a.b - b.b)/\-(a.b - b.b)<=20000;omega,by show 0≤-(b.r - a.r)/\-(b.r - a.r)<=100000;omega⟩
  ·exact h
theorem ae3 {x y:Ln}:x=y ↔ x.b=y.b/\x.r=y.r:=⟨λh=>by rw [h];exact ⟨rfl,rfl⟩,λh=>awE h.1 h.2⟩
set_option maxHeartbeats 8000000 in
theorem aiJ (A:Option Addr) (c:Nat) (l:List Ln) (i:Nat) (w:World) (B:Nat) (hB:B<=w.heap.size) (h:RdL w B A l) (hl:l.length<=1000) (hi:i<l.length) (hok:∀x∈l,yL x):
 Calls Tryz.prog 106 #[.slice A l.length c,.int .i64 (i:Int)] w λe w'=>e=.returned (.bool (aaE l i))/\Below w.heap.size w w':=by
 obtain ⟨b,o,rfl,hb,d0,d1⟩:=RdL.get h hi
 have hoka:=hok _ (zd hi)
 obtain ⟨a,ha⟩:∃a,a=l[i]:=⟨_,rfl⟩
 rw [<-ha] at d0 d1 hoka
 have hsb:aaE l i=match agX a i 0 ss0 l with |none=>false|some s=>adF s:=by
  unfold aaE
  rw [zAR hi,<-ha]
  rfl
 have HSB:=zL hsb
 have OKA:=zL hoka
 have HOK:=zL hok
 obtain ⟨a1,a2,a3,a4⟩:=hoka
 have q1:(0:Int)<=(i:Int):=zO
 have q2:(i:Int)<(l.length:Int):=zO
 clear ha hsb hok
 go_enter Tryz.func106,Tryz.ntmps106
 go_upto_region 7 with fail
 obtain ⟨V,hV⟩:∃V:World,V=w.alloc (.cells #[.int .i64 a.b,.int .i64 a.r] 75):=⟨_,rfl⟩
 have bx:Blk V w.heap.size 75 #[.int .i64 a.b,.int .i64 a.r]:=zBU
 have kV:Below w.heap.size w V:=zBy
 obtain ⟨gx,hgx⟩:∃gx,gx=w.heap.size:=⟨_,rfl⟩
 rw [<-hV,<-hgx]
 rw [<-hgx] at bx
 have BX:=zL bx
 clear hV hgx bx d0 d1
 go_wp2_with fail
 go_loopw [5,6,7,8,9,11] (λs5 s6 s7 s8 s9 kv wr=>∃(k:Nat) (s:SS),k<=l.length/\kv=.int .i64 k/\s5=.int .i64 s.lo/\s6=.int .i64 s.lb/\s7=.bool s.op/\s8=.int .i64 s.hi/\s9=.int .i64 s.hb/\agX a i 0 ss0 l=agX a i k s (l.drop k)/\SBd s/\Blk wr gx 75 #[.int .i64 a.b,.int .i64 a.r]/\Below w.heap.size w wr) (λ_ _ _ _ _ kv _=>l.length - (intOf kv).toNat)
 case atStart=>exact ⟨0,ss0,zAK _,rfl,rfl,rfl,rfl,rfl,rfl,rfl,⟨by simp [ss0],by simp [ss0],by simp [ss0],by simp [ss0]⟩,BX.o,kV⟩
 case round=>
  obtain ⟨k,s,hk,rfl,rfl,rfl,rfl,rfl,rfl,hgo,hsd,hbx,hbw⟩:=hrel
  have HGO:=zL hgo
  have HSD:=zL hsd
  have BXW:=zL hbx
  have zw:=hbw.size
  clear hgo hbx BX kV
  obtain ⟨lo,lb,op,hi',hb'⟩:=s
  obtain ⟨sd1,sd2,sd3,sd4⟩:=hsd
  simp only at sd1 sd2 sd3 sd4
  by_cases hkl:k<l.length
  ·have hokk:=HOK.o _ (zd hkl)
   obtain ⟨b9,o9,e9,hb9,e0,e1⟩:=RdL.get (h.below (hbw.mono hB)) hkl
   simp only [zAC,zAS,and_true] at e9
   obtain ⟨rfl,rfl⟩:=e9
   have hd:l.drop k=l[k]::l.drop (k+1):=zAE hkl
   obtain ⟨b',hb''⟩:∃b',b'=l[k]:=⟨_,rfl⟩
   rw [<-hb''] at hokk e0 e1 hd
   have OKB:=zL hokk
   obtain ⟨b1,b2,b3,b4⟩:=hokk
   have HG2:=HGO.o
   rw [hd,agX] at HG2
   have HG:=zL HG2
   have q3:(0:Int)<=(k:Int):=zO
   have q4:(k:Int)<(l.length:Int):=zO
   clear hd hb'' HG2
   go_upto_region 11 with fail
   obtain ⟨V,hV⟩:∃V:World,V=wr.alloc (.cells #[.int .i64 b'.b,.int .i64 b'.r] 75):=⟨_,rfl⟩
   have by_:Blk V wr.heap.size 75 #[.int .i64 b'.b,.int .i64 b'.r]:=zBU
   have bxV:Blk V gx 75 #[.int .i64 a.b,.int .i64 a.r]:=by rw [hV];exact BXW.o.alloc _
   have kV:Below w.heap.size w V:=zCT
   obtain ⟨gy,hgy⟩:∃gy,gy=wr.heap.size:=⟨_,rfl⟩
   rw [<-hV,<-hgy]
   rw [<-hgy] at by_
   have x0:V.cell? ⟨gx,0,none⟩=some (.int .i64 a.b):=bxV.cell 0
   have x1:V.cell? ⟨gx,1,none⟩=some (.int .i64 a.r):=bxV.cell 1
   have y0:V.cell? ⟨gy,0,none⟩=some (.int .i64 b'.b):=by_.cell 0
   have y1:V.cell? ⟨gy,1,none⟩=some (.int .i64 b'.r):=by_.cell 1
   have BXV:=zL bxV
   clear hV hgy by_ bxV e0 e1
   go_cut [31] from 19 to 86 (λs31 wx=>s31=.bool (decide (b'=a))/\wx=V)
   case first=>as_aux_lemma=>
    by_cases hbe:b'.b=a.b
    ·have c1:(b'.b==a.b)=true:=beq_iff_eq.2 hbe
     by_cases hre:b'.r=a.r
     ·have c2:(b'.r==a.r)=true:=beq_iff_eq.2 hre
      have E:=zM (decide (b'=a)=true) (zAI (ae3.2 ⟨hbe,hre⟩))
      clear hbe hre
      exact zDq
     ·have c2:(b'.r==a.r)=false:=beq_eq_false_iff_ne.2 hre
      have E:=zM (decide (b'=a)=false) (zAH (λe=>hre (ae3.1 e).2))
      clear hbe hre
      exact zDq
    ·have c1:(b'.b==a.b)=false:=beq_eq_false_iff_ne.2 hbe
     have E:=zM (decide (b'=a)=false) (zAH (λe=>hbe (ae3.1 e).1))
     clear hbe
     exact zDq
   case rest=>
   obtain ⟨rfl,hwc⟩:=hcut
   obtain rfl:V=wc:=hwc.symm
   clear hwc
   by_cases hba:b'=a
   ·rw [zAI hba]
    have HB1:=HG.o
    rw [zp hba] at HB1
    by_cases hki:k<i
    ·rw [zp hki] at HB1
     have E:=zM (aaE l i=false) (by rw [HSB.o,HB1])
     clear HB1 hba
     exact zFm
    ·rw [z6 hki] at HB1
     have HN:=zL HB1
     clear HB1 hba
     exact zEd
   ·rw [zAH hba]
    have HB1:=HG.o
    rw [z6 hba] at HB1
    clear hba
    by_cases hre:b'.r=a.r
    ·have c2:(b'.r==a.r)=true:=beq_iff_eq.2 hre
     rw [zp hre] at HB1
     by_cases hbb:b'.b<=a.b
     ·rw [zp hbb] at HB1
      have E:=zM (aaE l i=false) (by rw [HSB.o,HB1])
      clear HB1 hre
      exact zFm
     ·rw [z6 hbb] at HB1
      have HN:=zL HB1
      clear HB1 hre
      exact zEd
    ·have c2:(b'.r==a.r)=false:=beq_eq_false_iff_ne.2 hre
     rw [z6 hre] at HB1
     have HST:=zL (HSD.o.step OKA.o OKB.o hre)
     have HN:=zL HB1
     obtain ⟨n,hn⟩:∃n,n=a.b - b'.b:=⟨_,rfl⟩
     obtain ⟨by',hby⟩:∃by',by'=b'.r - a.r:=⟨_,rfl⟩
     have n1:-20000<=n/\n<=20000:=zO
     have m1:-100000<=by'/\by'<=100000:=zO
     obtain ⟨t1,t2⟩:=aaG (a:=n) (b:=lb) zO zO
     obtain ⟨t3,t4⟩:=aaG (a:=lo) (b:=by') zO zO
     obtain ⟨t5,t6⟩:=aaG (a:=-n) (b:=hb') zO zO
     obtain ⟨t7,t8⟩:=aaG (a:=hi') (b:=-by') zO zO
     have hstep:jG a b' ⟨lo,lb,op,hi',hb'⟩=if 0<by' then (if 0<=n/\lo*by'<=n*lb then ⟨n,by',true,hi',hb'⟩ else ⟨lo,lb,op,hi',hb'⟩) else (if hb'=0\/-n*hb'<hi'*-by' then ⟨lo,lb,op,-n,-by'⟩ else ⟨lo,lb,op,hi',hb'⟩):=by
      rw [hn,hby]
      rfl
     have HN1:=zL hn
     have HBY:=zL hby
     have hby0:by'≠0:=zO
     clear HB1 hre
     by_cases hby1:0<by'
     ·by_cases hn0:0<=n
      ·by_cases hc:lo*by'<=n*lb
       ·have E:=zM (jG a b' ⟨lo,lb,op,hi',hb'⟩=⟨n,by',true,hi',hb'⟩) (by rw [hstep,zp hby1,zp ⟨hn0,hc⟩])
        clear hstep hn hby hby0
        go_upto_region 19 with fail
        rw [<-HN1.o,<-HBY.o]
        go_wp2_with fail
        go_roundw
        case rel=>exact ⟨k+1,⟨n,by',true,hi',hb'⟩,hkl,by go_num,rfl,rfl,rfl,rfl,rfl,by rw [<-E.o];exact HN.o,by rw [<-E.o];exact HST.o,BXV.o,kV⟩
        case measure=>simp [intOf];omega
       ·have E:=zM (jG a b' ⟨lo,lb,op,hi',hb'⟩=⟨lo,lb,op,hi',hb'⟩) (by rw [hstep,zp hby1,z6 (λe=>hc e.2)])
        clear hstep hn hby hby0
        exact zDk
      ·have E:=zM (jG a b' ⟨lo,lb,op,hi',hb'⟩=⟨lo,lb,op,hi',hb'⟩) (by rw [hstep,zp hby1,z6 (λe=>hn0 e.1)])
       clear hstep hn hby hby0
       exact zDk
     ·by_cases hh0:hb'=0
      ·have E:=zM (jG a b' ⟨lo,lb,op,hi',hb'⟩=⟨lo,lb,op,-n,-by'⟩) (by rw [hstep,z6 hby1,zp (.inl hh0)])
       have c4:(hb'==0)=true:=beq_iff_eq.2 hh0
       exact zD0
      ·have c4:(hb'==0)=false:=beq_eq_false_iff_ne.2 hh0
       by_cases hc:-n*hb'<hi'*-by'
       ·have E:=zM (jG a b' ⟨lo,lb,op,hi',hb'⟩=⟨lo,lb,op,-n,-by'⟩) (by rw [hstep,z6 hby1,zp (.inr hc)])
        exact zD0
       ·have E:=zM (jG a b' ⟨lo,lb,op,hi',hb'⟩=⟨lo,lb,op,hi',hb'⟩) (by rw [hstep,z6 hby1,z6 (λe=>e.elim hh0 hc)])
        clear hstep hn hby hby0 hh0
        exact zDk
  ·have hfin:aaE l i=adF ⟨lo,lb,op,hi',hb'⟩:=by rw [HSB.o,HGO.o,zAO zO];rfl
   have HF:=zL hfin
   obtain ⟨t1,t2⟩:=aaG (a:=lo) (b:=hb') zO zO
   obtain ⟨t3,t4⟩:=aaG (a:=hi') (b:=lb) zO zO
   clear hfin
   by_cases hh0:hb'=0
   ·have c4:(hb'==0)=true:=beq_iff_eq.2 hh0
    have E:=zM (adF ⟨lo,lb,op,hi',hb'⟩=true) (zp hh0)
    exact zEl
   ·have c4:(hb'==0)=false:=beq_eq_false_iff_ne.2 hh0
    cases op with
    |false=>
     have E:=zM (adF ⟨lo,lb,false,hi',hb'⟩=decide (0<hi')) ((z6 hh0).trans (zp rfl))
     exact zEl
    |true=>
     have E:=zM (adF ⟨lo,lb,true,hi',hb'⟩=decide (lo*hb'<hi'*lb)) ((z6 hh0).trans (z6 zA1))
     exact zEl
theorem ap7 {out:List Ln} {p:Ln->Bool} {j:Nat} (hj:j<=out.length) (h1:∀(m:Nat) (hm:m<out.length),m<j->p out[m]=true) (h2:∀(hm:j<out.length),p out[j]=false):out.takeWhile p=out.take j/\out.dropWhile p=out.drop j:=by
 induction out generalizing j with
 |nil=>simp
 |cons y r ih=>
  cases j with
  |zero=>
   have h3:p y=false:=h2 zA1
   rw [List.takeWhile_cons_of_neg (by simp [h3]),List.dropWhile_cons_of_neg (by simp [h3])]
   simp
  |succ j=>
   have h3:p y=true:=h1 0 zA1 zO
   obtain ⟨e1,e2⟩:=ih (j:=j) (by simpa using hj) (λm hm hmj=>h1 (m+1) (by simpa using hm) zO) (λhm=>h2 (by simpa using hm))
   rw [List.takeWhile_cons_of_pos h3,List.dropWhile_cons_of_pos h3,e1,e2]
   simp
theorem RdL.agG {w:World} {B:Nat} {A:Option Addr} {l:List Ln} (h:RdL w B A l) (j:Nat):RdL w B A (l.take j):=λh0=>by
 obtain ⟨b,o,e,hb,hc⟩:=h (by rw [zAh] at h0;omega)
 refine ⟨b,o,e,hb,λi x hx=>hc i x ?_⟩
 rw [List.getElem?_take] at hx
 by_cases hi:i<j
 ·rw [zp hi] at hx;exact hx
 ·rw [z6 hi] at hx;cases hx
theorem RdL.ayR {w:World} {B b o:Nat} {l:List Ln} (h:RdL w B (some ⟨b,o,none⟩) l) (j:Nat):RdL w B (some ⟨b,o+j*2,none⟩) (l.drop j):=λh0=>by
 obtain ⟨b',o',e,hb,hc⟩:=h (by rw [List.length_drop] at h0;omega)
 simp only [zAC,zAS,and_true] at e
 obtain ⟨rfl,rfl⟩:=e
 refine ⟨b,o+j*2,rfl,hb,λi x hx q v hv=>?_⟩
 rw [List.getElem?_drop] at hx
 have:=hc (j+i) x hx q v hv
 rw [show o+(j+i)*2+q=o+j*2+i*2+q by omega] at this
 exact this
theorem an9 {l:List Ln} {i:Nat} (hi:i<l.length) (out:List Ln):adK l (l.length - i) out=adK l (l.length - (i+1)) (if aaE l i then uW out l[i] else out):=by
 obtain ⟨n,hn⟩:∃n,l.length - i=n+1:=⟨l.length - i - 1,by omega⟩
 rw [hn,adK,show l.length - (n+1)=i by omega,show l.length - (i+1)=n by omega]
 simp [List.getD,zAR hi]
set_option maxHeartbeats 8000000 in
theorem anO (A:Option Addr) (c:Nat) (l:List Ln) (w:World) (B:Nat) (hB:B<=w.heap.size) (h:RdL w B A l) (hl:l.length<=1000) (hok:∀x∈l,yL x):
 Calls Tryz.prog 80 #[.slice A l.length c] w (vI Ln.cs 2 75 (tidyRef l) w):=by
 obtain ⟨i0,hi0,hz0,hz1,hz2⟩:=info_parts aaP
 go_enter Tryz.func80,Tryz.ntmps80
 go_wp2_with fail
 go_loopw [3,4] (λov iv wr=>∃(i:Nat) (out:List Ln) (A3:Option Addr) (c3:Nat),i<=l.length/\iv=.int .i64 i/\ov=.slice A3 out.length c3/\out.length<=i/\tidyRef l=adK l (l.length - i) out/\(out=[]->A3=none/\c3=0)/\wr.ownsRow w.heap.size 75 2 (.slice A3 out.length c3) out.length (out.flatMap Ln.cs)/\Below w.heap.size w wr) (λ_ iv _=>l.length - (intOf iv).toNat)
 case atStart=>exact ⟨0,[],none,0,zAK _,rfl,rfl,zAK _,rfl,λ_=>⟨rfl,rfl⟩,⟨by simp,.inl ⟨rfl,rfl⟩⟩,zAA _ _⟩
 case round=>
  obtain ⟨i,out,A3,c3,hi,rfl,rfl,hoi,href,hnil,row,hbw⟩:=hrel
  have HREF:=zL href
  have ROW:=zL row
  have HNIL:=zL hnil
  have zw:=hbw.size
  clear href row hnil
  by_cases hil:i<l.length
  ·have hrs:=HREF.o.trans (an9 hil out)
   have q1:(0:Int)<=(i:Int):=zO
   have q2:(i:Int)<(l.length:Int):=zO
   go_wp2_with fail
   refine (aiJ A c l i wr B (zAB hB zw) (h.below (hbw.mono hB)) hl hil hok).mono ?_
   rintro e w2 ⟨rfl,k2⟩
   have k2':=hbw.trans (k2.mono zw)
   have z2:=k2'.size
   have row2:w2.ownsRow w.heap.size 75 2 (.slice A3 out.length c3) out.length (out.flatMap Ln.cs):=ym ROW.o λq hq=>k2.block q (vV ROW.o q hq)
   have ROW2:=zL row2
   clear row2
   cases hsb:aaE l i with
   |false=>
    rw [hsb,z6 zA1] at hrs
    have HRS:=zL hrs
    clear hrs hsb
    go_wp2_with fail
    go_roundw
    case rel=>exact ⟨i+1,out,A3,c3,hil,by go_num,rfl,by omega,HRS.o,HNIL.o,ROW2.o,k2'⟩
    case measure=>simp [intOf];omega
   |true=>
    rw [hsb,zp rfl] at hrs
    have HRS:=zL hrs
    obtain ⟨b,o,rfl,hb,d0,d1⟩:=RdL.get (h.below (k2'.mono hB)) hil
    obtain ⟨x,hx⟩:∃x,x=l[i]:=⟨_,rfl⟩
    rw [<-hx] at d0 d1 HRS
    have hcap:=alS ROW2.o
    obtain ⟨n,hn⟩:∃n,n=out.length:=⟨_,rfl⟩
    rw [<-hn] at hcap hoi ⊢
    have HN:=zL hn
    have HX:=zL hx
    clear hrs hsb hx hn
    go_wp2_with fail
    go_loopw [6] (λjv wr=>∃(j q:Nat),j<=n/\jv=.int .i64 j/\(∀(m:Nat) (hm:m<out.length),m<j->x.r<out[m].r)/\wr=w2.drewN q) (λjv _=>n - (intOf jv).toNat)
    case atStart=>exact ⟨0,0,zAK _,rfl,λm _ hm=>by omega,rfl⟩
    case round=>
     obtain ⟨j,q,hj,rfl,hpre,rfl⟩:=hrel
     have HPRE:=zL hpre
     clear hpre
     by_cases hjn:j<n
     ·have hjo:j<out.length:=by rw [<-HN.o];exact hjn
      obtain ⟨b3,o3,rfl,hb3,t0,t1⟩:=RdL.get (RdL.qA ROW2.o) hjo
      obtain ⟨y,hy⟩:∃y,y=out[j]:=⟨_,rfl⟩
      rw [<-hy] at t0 t1
      have j0:(0:Int)<=(j:Int):=zO
      have j1:(j:Int)<(n:Int):=zO
      have HY:=zL hy
      clear hy
      by_cases hr:x.r<y.r
      ·have HP2:=zL (show ∀(m:Nat) (hm:m<out.length),m<j+1->x.r<out[m].r from λm hm hmj=>by
        by_cases e:m=j
        ·subst e;rw [<-HY.o];exact hr
        ·exact HPRE.o m hm zO)
       go_wp2_with fail
       go_quiet (fail)
       rename Nat=>nq
       go_wp2_with fail
       go_roundw
       case rel=>exact ⟨j+1,q+nq,by omega,by go_num,HP2.o,by first |rfl|exact World.drewN_drewN _ _ _⟩
       case measure=>simp [intOf];omega
      ·skip
       have hr2:¬x.r<y.r:=hr
       have HI:=zL (show uW out x=out.take j++x::out.drop j by
        obtain ⟨e1,e2⟩:=ap7 (out:=out) (p:=λy=>decide (x.r<y.r)) (j:=j) zO (λm hm hmj=>zAI (HPRE.o m hm hmj)) (λhm=>zAH (by rw [<-HY.o];exact hr))
        unfold uW
        rw [e1,e2])
       have hdl:(out.drop j).length=n - j:=by rw [List.length_drop,<-HN.o]
       go_wp2_with fail
       go_quiet (fail)
       rename Nat=>nq
       obtain ⟨X,hX⟩:∃X:World,X=(w2.drewN q).drewN nq:=⟨_,rfl⟩
       rw [<-hX]
       have ROWX:=zM (X.ownsRow w.heap.size 75 2 (.slice (some ⟨b3,o3,none⟩) out.length c3) out.length (out.flatMap Ln.cs)) zBw
       have kX:Below w.heap.size w X:=zBM
       have zX:=kX.size
       have zB:B<=X.heap.size:=zAB hB zX
       have HO:=zL (RdL.qA ROWX.o)
       have j2:(j:Int)<=(n:Int):=zO
       have hjc:j<=c3:=zO
       have j3:(j:Int)<=(c3:Int):=zO
       have htl:(out.take j).length=j:=by rw [zAh];omega
       clear hX
       go_upto_region 12 with (at_builtin;refine qd _ Ln.cs rfl (.tmp 38) (.tmp 41) _ rfl X.heap.size 75 i0 _ 2 16 Tryz.underlying57 hi0 hz0 hz1 hz2 rfl zO Ln.qw Ln.qV (.slice none 0 0) 0 [] rfl ⟨by simp,.inl ⟨rfl,rfl⟩⟩ X.heap.size (some ⟨b3,o3,none⟩) c3 (out.take j) zBh (HO.o.agG j) zA2 zO (zD _) ?_;intro v3 w3 row3 g3 at3;simp only [Nat.zero_add,zAa] at row3;obtain ⟨A4,c4,rfl⟩:=yl row3 zO;have k3:Below X.heap.size X w3:=(zAA _ _).grown g3 (zD _) zBO;have z3:=k3.size;have ROW3:=zL row3;clear row3;obtain ⟨b',o',e',hb',e0,e1⟩:=RdL.get (h.below ((kX.trans (k3.mono zX)).mono hB)) hil;simp only [zAC,zAS,and_true] at e';obtain ⟨rfl,rfl⟩:=e';rw [<-HX.o] at e0 e1;clear at3 d0 d1)
       go_upto_region 13 with (at_builtin;refine qd _ Ln.cs rfl (.tmp 43) (.tmp 48) _ rfl X.heap.size 75 i0 _ 2 16 Tryz.underlying57 hi0 hz0 hz1 hz2 rfl zO Ln.qw Ln.qV (.slice A4 (out.take j).length c4) (out.take j).length ((out.take j).flatMap Ln.cs) zBh (ROW3.o.alloc _) (w3.heap.size+1) (some ⟨w3.heap.size,0,none⟩) 1 [x] rfl (RdL.zU x) zBH zBQ zBX ?_;intro v5 w5 row5 g5 at5;obtain ⟨A6,c6,hv6,row6⟩:=qI row5 zO;subst hv6;have ROW6:=zL row6;have k5:=ql (k3.alloc z3 _) (ROW3.o.alloc _) g5 (zD _) zBX;have z5:=k5.size;clear row5 row6 at5 e0 e1)
       have hxl:(out.take j++[x]).length=j+1:=zCe
       go_wp2_with (at_builtin;refine qd _ Ln.cs rfl (.tmp 50) (.tmp 53) _ rfl X.heap.size 75 i0 _ 2 16 Tryz.underlying57 hi0 hz0 hz1 hz2 rfl zO Ln.qw Ln.qV (.slice A6 (out.take j++[x]).length c6) (out.take j++[x]).length ((out.take j++[x]).flatMap Ln.cs) (by rw [hxl];rfl) ROW6.o X.heap.size (some ⟨b3,o3+j*2,none⟩) (c3 - j) (out.drop j) (by rw [hdl];rfl) ((HO.o.ayR j).below k5) zA2 zO z5 ?_;intro v7 w7 row7 g7 at7;obtain ⟨A8,c8,hv8,row8⟩:=qI row7 zO;subst hv8;have ROW8:=zL row8;have k7:=ql k5 ROW6.o g7 (zD _) z5;clear row7 row8 at7)
       exact zFl
     ·obtain rfl:j=n:=by omega
      have HI:=zL (show uW out x=out.take j++x::out.drop j by
       obtain ⟨e1,e2⟩:=ap7 (out:=out) (p:=λy=>decide (x.r<y.r)) (j:=j) (by rw [HN.o];exact zD _) (λm hm hmj=>zAI (HPRE.o m hm hmj)) (λhm=>zAv hm (by rw [HN.o];omega))
       unfold uW
       rw [e1,e2])
      have hdl:(out.drop j).length=0:=by rw [List.length_drop,<-HN.o,Nat.sub_self]
      have hdn:out.drop j=[]:=List.length_eq_zero_iff.1 hdl
      go_wp2_with fail
      go_quiet (fail)
      rename Nat=>nq
      obtain ⟨X,hX⟩:∃X:World,X=(w2.drewN q).drewN nq:=⟨_,rfl⟩
      rw [<-hX]
      cases A3 with
      |none=>
       have ho0:out=[]/\c3=0:=by
        cases out with
        |nil=>exact ⟨rfl,(HNIL.o rfl).2⟩
        |cons a r=>exact zAv (RdL.get (RdL.qA ROW2.o) (i:=0) zA1) (by rintro ⟨b,o,e,-⟩;cases e)
       obtain ⟨ho1,rfl⟩:=ho0
       obtain rfl:j=0:=by rw [HN.o,ho1];rfl
       have ROWX:=zM (X.ownsRow w.heap.size 75 2 (.slice none out.length 0) out.length (out.flatMap Ln.cs)) zBw
       have kX:Below w.heap.size w X:=zBM
       have zX:=kX.size
       have zB:B<=X.heap.size:=zAB hB zX
       have HO:=zL (RdL.qA ROWX.o)
       have hoz:out.length=0:=by rw [ho1];rfl
       have htl:(out.take 0).length=0:=by rw [zAh];omega
       clear hX
       go_upto_region 12 with (at_builtin;refine qd _ Ln.cs rfl (.tmp 38) (.tmp 41) _ rfl X.heap.size 75 i0 _ 2 16 Tryz.underlying57 hi0 hz0 hz1 hz2 rfl zO Ln.qw Ln.qV (.slice none 0 0) 0 [] rfl ⟨by simp,.inl ⟨rfl,rfl⟩⟩ X.heap.size none 0 (out.take 0) zBh (HO.o.agG 0) zA2 zO (zD _) ?_;intro v3 w3 row3 g3 at3;simp only [Nat.zero_add,zAa] at row3;obtain ⟨A4,c4,rfl⟩:=yl row3 zO;have k3:Below X.heap.size X w3:=(zAA _ _).grown g3 (zD _) zBO;have z3:=k3.size;have ROW3:=zL row3;clear row3;obtain ⟨b',o',e',hb',e0,e1⟩:=RdL.get (h.below ((kX.trans (k3.mono zX)).mono hB)) hil;simp only [zAC,zAS,and_true] at e';obtain ⟨rfl,rfl⟩:=e';rw [<-HX.o] at e0 e1;clear at3 d0 d1)
       go_upto_region 13 with (at_builtin;refine qd _ Ln.cs rfl (.tmp 43) (.tmp 48) _ rfl X.heap.size 75 i0 _ 2 16 Tryz.underlying57 hi0 hz0 hz1 hz2 rfl zO Ln.qw Ln.qV (.slice A4 (out.take 0).length c4) (out.take 0).length ((out.take 0).flatMap Ln.cs) zBh (ROW3.o.alloc _) (w3.heap.size+1) (some ⟨w3.heap.size,0,none⟩) 1 [x] rfl (RdL.zU x) zBH zBQ zBX ?_;intro v5 w5 row5 g5 at5;obtain ⟨A6,c6,hv6,row6⟩:=qI row5 zO;subst hv6;have ROW6:=zL row6;have k5:=ql (k3.alloc z3 _) (ROW3.o.alloc _) g5 (zD _) zBX;have z5:=k5.size;clear row5 row6 at5 e0 e1)
       have hxl:(out.take 0++[x]).length=0+1:=zCe
       go_wp2_with (at_builtin;refine qd _ Ln.cs rfl (.tmp 50) (.tmp 53) _ rfl X.heap.size 75 i0 _ 2 16 Tryz.underlying57 hi0 hz0 hz1 hz2 rfl zO Ln.qw Ln.qV (.slice A6 (out.take 0++[x]).length c6) (out.take 0++[x]).length ((out.take 0++[x]).flatMap Ln.cs) (by rw [hxl];rfl) ROW6.o X.heap.size _ _ (out.drop 0) (by rw [hdl];rfl) zCY zA2 zO z5 ?_;intro v7 w7 row7 g7 at7;obtain ⟨A8,c8,hv8,row8⟩:=qI row7 zO;subst hv8;have ROW8:=zL row8;have k7:=ql k5 ROW6.o g7 (zD _) z5;clear row7 row8 at7)
       have hins:out.take 0++[x]++out.drop 0=uW out x:=zB3
       exact zDV
      |some p3=>
       have ho1:out≠[]:=λe=>by cases (HNIL.o e).1
       have ho2:0<out.length:=List.length_pos_iff.2 ho1
       obtain ⟨b3,o3,e3,hb3,-,-⟩:=RdL.get (RdL.qA ROW2.o) ho2
       cases e3
       rcases Nat.lt_or_ge j c3 with hcl|hcl
       ·skip
        have ROWX:=zM (X.ownsRow w.heap.size 75 2 (.slice (some ⟨b3,o3,none⟩) out.length c3) out.length (out.flatMap Ln.cs)) zBw
        have kX:Below w.heap.size w X:=zBM
        have zX:=kX.size
        have zB:B<=X.heap.size:=zAB hB zX
        have HO:=zL (RdL.qA ROWX.o)
        have hjc:j<=c3:=zO
        have j3:(j:Int)<=(c3:Int):=zO
        have j4:(j:Int)<(c3:Int):=zO
        have htl:(out.take j).length=j:=zCL
        clear hX
        go_upto_region 12 with (at_builtin;refine qd _ Ln.cs rfl (.tmp 38) (.tmp 41) _ rfl X.heap.size 75 i0 _ 2 16 Tryz.underlying57 hi0 hz0 hz1 hz2 rfl zO Ln.qw Ln.qV (.slice none 0 0) 0 [] rfl ⟨by simp,.inl ⟨rfl,rfl⟩⟩ X.heap.size (some ⟨b3,o3,none⟩) c3 (out.take j) zBh (HO.o.agG j) zA2 zO (zD _) ?_;intro v3 w3 row3 g3 at3;simp only [Nat.zero_add,zAa] at row3;obtain ⟨A4,c4,rfl⟩:=yl row3 zO;have k3:Below X.heap.size X w3:=(zAA _ _).grown g3 (zD _) zBO;have z3:=k3.size;have ROW3:=zL row3;clear row3;obtain ⟨b',o',e',hb',e0,e1⟩:=RdL.get (h.below ((kX.trans (k3.mono zX)).mono hB)) hil;simp only [zAC,zAS,and_true] at e';obtain ⟨rfl,rfl⟩:=e';rw [<-HX.o] at e0 e1;clear at3 d0 d1)
        go_upto_region 13 with (at_builtin;refine qd _ Ln.cs rfl (.tmp 43) (.tmp 48) _ rfl X.heap.size 75 i0 _ 2 16 Tryz.underlying57 hi0 hz0 hz1 hz2 rfl zO Ln.qw Ln.qV (.slice A4 (out.take j).length c4) (out.take j).length ((out.take j).flatMap Ln.cs) zBh (ROW3.o.alloc _) (w3.heap.size+1) (some ⟨w3.heap.size,0,none⟩) 1 [x] rfl (RdL.zU x) zBH zBQ zBX ?_;intro v5 w5 row5 g5 at5;obtain ⟨A6,c6,hv6,row6⟩:=qI row5 zO;subst hv6;have ROW6:=zL row6;have k5:=ql (k3.alloc z3 _) (ROW3.o.alloc _) g5 (zD _) zBX;have z5:=k5.size;clear row5 row6 at5 e0 e1)
        have hxl:(out.take j++[x]).length=j+1:=zCe
        go_wp2_with (at_builtin;refine qd _ Ln.cs rfl (.tmp 50) (.tmp 53) _ rfl X.heap.size 75 i0 _ 2 16 Tryz.underlying57 hi0 hz0 hz1 hz2 rfl zO Ln.qw Ln.qV (.slice A6 (out.take j++[x]).length c6) (out.take j++[x]).length ((out.take j++[x]).flatMap Ln.cs) (by rw [hxl];rfl) ROW6.o X.heap.size (some ⟨b3,o3+j*2,none⟩) (c3 - j) (out.drop j) (by rw [hdl];rfl) zCY zA2 zO z5 ?_;intro v7 w7 row7 g7 at7;obtain ⟨A8,c8,hv8,row8⟩:=qI row7 zO;subst hv8;have ROW8:=zL row8;have k7:=ql k5 ROW6.o g7 (zD _) z5;clear row7 row8 at7)
        exact zFl
       ·obtain rfl:c3=j:=by omega
        have ROWX:=zM (X.ownsRow w.heap.size 75 2 (.slice (some ⟨b3,o3,none⟩) out.length c3) out.length (out.flatMap Ln.cs)) zBw
        have kX:Below w.heap.size w X:=zBM
        have zX:=kX.size
        have zB:B<=X.heap.size:=zAB hB zX
        have HO:=zL (RdL.qA ROWX.o)
        have j3:(c3:Int)<=(c3:Int):=zO
        have htl:(out.take c3).length=c3:=zCL
        clear hX
        go_upto_region 12 with (at_builtin;refine qd _ Ln.cs rfl (.tmp 38) (.tmp 41) _ rfl X.heap.size 75 i0 _ 2 16 Tryz.underlying57 hi0 hz0 hz1 hz2 rfl zO Ln.qw Ln.qV (.slice none 0 0) 0 [] rfl ⟨by simp,.inl ⟨rfl,rfl⟩⟩ X.heap.size (some ⟨b3,o3,none⟩) c3 (out.take c3) zBh (HO.o.agG c3) zA2 zO (zD _) ?_;intro v3 w3 row3 g3 at3;simp only [Nat.zero_add,zAa] at row3;obtain ⟨A4,c4,rfl⟩:=yl row3 zO;have k3:Below X.heap.size X w3:=(zAA _ _).grown g3 (zD _) zBO;have z3:=k3.size;have ROW3:=zL row3;clear row3;obtain ⟨b',o',e',hb',e0,e1⟩:=RdL.get (h.below ((kX.trans (k3.mono zX)).mono hB)) hil;simp only [zAC,zAS,and_true] at e';obtain ⟨rfl,rfl⟩:=e';rw [<-HX.o] at e0 e1;clear at3 d0 d1)
        go_upto_region 13 with (at_builtin;refine qd _ Ln.cs rfl (.tmp 43) (.tmp 48) _ rfl X.heap.size 75 i0 _ 2 16 Tryz.underlying57 hi0 hz0 hz1 hz2 rfl zO Ln.qw Ln.qV (.slice A4 (out.take c3).length c4) (out.take c3).length ((out.take c3).flatMap Ln.cs) zBh (ROW3.o.alloc _) (w3.heap.size+1) (some ⟨w3.heap.size,0,none⟩) 1 [x] rfl (RdL.zU x) zBH zBQ zBX ?_;intro v5 w5 row5 g5 at5;obtain ⟨A6,c6,hv6,row6⟩:=qI row5 zO;subst hv6;have ROW6:=zL row6;have k5:=ql (k3.alloc z3 _) (ROW3.o.alloc _) g5 (zD _) zBX;have z5:=k5.size;clear row5 row6 at5 e0 e1)
        have hxl:(out.take c3++[x]).length=c3+1:=zCe
        go_wp2_with (at_builtin;refine qd _ Ln.cs rfl (.tmp 50) (.tmp 53) _ rfl X.heap.size 75 i0 _ 2 16 Tryz.underlying57 hi0 hz0 hz1 hz2 rfl zO Ln.qw Ln.qV (.slice A6 (out.take c3++[x]).length c6) (out.take c3++[x]).length ((out.take c3++[x]).flatMap Ln.cs) (by rw [hxl];rfl) ROW6.o X.heap.size (some ⟨b3,o3,none⟩) 0 (out.drop c3) (by rw [hdl];rfl) zCY zA2 zO z5 ?_;intro v7 w7 row7 g7 at7;obtain ⟨A8,c8,hv8,row8⟩:=qI row7 zO;subst hv8;have ROW8:=zL row8;have k7:=ql k5 ROW6.o g7 (zD _) z5;clear row7 row8 at7)
        have hins:out.take c3++[x]++out.drop c3=uW out x:=zB3
        exact zDV
  ·have hfin:tidyRef l=out:=by rw [HREF.o,show l.length - i=0 by omega];rfl
   have HF:=zL hfin
   clear hfin
   go_wp2_with fail
   go_ret
   rw [HF.o]
   exact ⟨A3,c3,rfl,ROW.o,hbw⟩
set_option maxHeartbeats 8000000 in
theorem arZ (A A':Option Addr) (c c':Nat) (a b:List Ln) (w:World) (B:Nat) (hB:B<=w.heap.size) (h:RdL w B A a) (h':RdL w B A' b) (ha:a.length<=6) (hb:b.length<=6) (hoa:∀x∈a,yL x) (hob:∀x∈b,yL x):
 Calls Tryz.prog 48 #[.slice A a.length c,.slice A' b.length c'] w (λen w'=>∃A2 c2,en=.returned (.tuple #[.slice A2 (adE a b).length c2,.int .i64 (sumErr a b)])/\w'.ownsRow w.heap.size 75 2 (.slice A2 (adE a b).length c2) (adE a b).length ((adE a b).flatMap Ln.cs)/\Below w.heap.size w w'):=by
 obtain ⟨i0,hi0,hz0,hz1,hz2⟩:=info_parts aaP
 have HA:=zL hoa
 have HBB:=zL hob
 have hal:a.length<=9223372036854775807:=zO
 have hbl:b.length<=9223372036854775807:=zO
 have HL:=zL h
 have HL':=zL h'
 clear hoa hob h h'
 go_enter Tryz.func48,Tryz.ntmps48
 go_wp2_with fail
 go_loopw [6,7] (λov iv wr=>∃(i:Nat) (acc:List Ln) (A3:Option Addr) (c3:Nat),i<=a.length/\iv=.int .i64 i/\ov=.slice A3 acc.length c3/\SU a b i 0 acc/\wr.ownsRow w.heap.size 75 2 (.slice A3 acc.length c3) acc.length (acc.flatMap Ln.cs)/\Below w.heap.size w wr) (λ_ iv _=>a.length - (intOf iv).toNat)
 case atStart=>exact ⟨0,[],none,0,zAK _,rfl,rfl,⟨by split<;>simp [sumAll],by simp,by simp⟩,⟨by simp,.inl ⟨rfl,rfl⟩⟩,zAA _ _⟩
 case round=>
  obtain ⟨i,acc,A3,c3,hi,rfl,rfl,hsu,row,hbw⟩:=hrel
  have SUH:=zL hsu
  have ROW:=zL row
  have zw:=hbw.size
  clear hsu row
  by_cases hil:i<a.length
  ·have i0':(0:Int)<=(i:Int):=by omega
   have i1':(i:Int)<(a.length:Int):=zO
   have HX:=zL (HA.o _ (zd hil))
   obtain ⟨x,hx⟩:∃x,x=a[i]:=⟨_,rfl⟩
   rw [<-hx] at HX
   have HXE:=zL hx
   clear hx
   go_wp2_with fail
   go_loopw [6,8] (λov jv wr=>∃(j:Nat) (acc:List Ln) (A3:Option Addr) (c3:Nat),j<=b.length/\jv=.int .i64 j/\ov=.slice A3 acc.length c3/\SU a b i j acc/\wr.ownsRow w.heap.size 75 2 (.slice A3 acc.length c3) acc.length (acc.flatMap Ln.cs)/\Below w.heap.size w wr) (λ_ jv _=>b.length - (intOf jv).toNat)
   case atStart=>exact ⟨0,acc,A3,c3,zAK _,rfl,rfl,SUH.o,ROW.o,hbw⟩
   case round=>
    obtain ⟨j,acc,A3,c3,hj,rfl,rfl,hsu,row,hbw⟩:=hrel
    have SUH:=zL hsu
    have ROW:=zL row
    have zw:=hbw.size
    have hal36:=hsu.len
    clear hsu row
    by_cases hjl:j<b.length
    ·have j0':(0:Int)<=(j:Int):=by omega
     have j1':(j:Int)<(b.length:Int):=zO
     obtain ⟨r1,r2,r3,r4⟩:=HX.o
     obtain ⟨y,hy⟩:∃y,y=b[j]:=⟨_,rfl⟩
     obtain ⟨s1,s2,s3,s4⟩:=HBB.o _ (zd hjl)
     rw [<-hy] at s1 s2 s3 s4
     obtain ⟨bq,o,rfl,hbq,d0,d1⟩:=RdL.get (HL.o.below (hbw.mono hB)) hil
     obtain ⟨bq2,o2,rfl,hbq2,e0,e1⟩:=RdL.get (HL'.out.below (hbw.mono hB)) hjl
     rw [<-HXE.o] at d0 d1
     rw [<-hy] at e0 e1
     have HYE:=zL hy
     clear hy
     go_upto_region 8 with fail
     have q1:bq<wr.heap.size:=zO
     have q2:bq2<wr.heap.size:=zO
     have f0:(wr.alloc (.cells #[.int .i64 0,.int .i64 0] 75)).drew.cell? ⟨bq,o+i*2,none⟩=some (.int .i64 x.b):=(World.cell?_alloc_lt wr _ ⟨bq,o+i*2,none⟩ q1).trans d0
     have f1:(wr.alloc (.cells #[.int .i64 0,.int .i64 0] 75)).drew.cell? ⟨bq,o+i*2+1,none⟩=some (.int .i64 x.r):=(World.cell?_alloc_lt wr _ ⟨bq,o+i*2+1,none⟩ q1).trans d1
     have f2:(wr.alloc (.cells #[.int .i64 0,.int .i64 0] 75)).drew.cell? ⟨bq2,o2+j*2,none⟩=some (.int .i64 y.b):=(World.cell?_alloc_lt wr _ ⟨bq2,o2+j*2,none⟩ q2).trans e0
     have f3:(wr.alloc (.cells #[.int .i64 0,.int .i64 0] 75)).drew.cell? ⟨bq2,o2+j*2+1,none⟩=some (.int .i64 y.r):=(World.cell?_alloc_lt wr _ ⟨bq2,o2+j*2+1,none⟩ q2).trans e1
     go_region
     clear f0 f1 f2 f3 d0 d1 e0 e1
     obtain ⟨z,hz⟩:∃z,z=jN x y:=⟨_,rfl⟩
     rw [show x.b+y.b=z.b by rw [hz];rfl,show x.r+y.r=z.r by rw [hz];rfl]
     have HZ:=zL hz
     obtain ⟨V3,hV⟩:∃V3:World,V3=(wr.alloc (.cells #[.int .i64 z.b,.int .i64 z.r] 75)).drew:=⟨_,rfl⟩
     have bz:Blk V3 wr.heap.size 75 #[.int .i64 z.b,.int .i64 z.r]:=by rw [hV];exact (Blk.new _ _ _).drewN 1
     have row3:V3.ownsRow w.heap.size 75 2 (.slice A3 acc.length c3) acc.length (acc.flatMap Ln.cs):=by rw [hV];exact ROW.o.alloc _
     have kV3:Below w.heap.size w V3:=by rw [hV];exact (hbw.alloc zw _).drew
     obtain ⟨gz,hgz⟩:∃gz,gz=wr.heap.size:=⟨_,rfl⟩
     rw [<-hV,<-hgz]
     rw [<-hgz] at bz
     have w0:V3.cell? ⟨gz,0,none⟩=some (.int .i64 z.b):=bz.cell 0
     have w1':V3.cell? ⟨gz,1,none⟩=some (.int .i64 z.r):=bz.cell 1
     have ROW3:=zL row3
     have BZ:=zL bz
     have zV3:=kV3.size
     clear hV hgz bz row3 hz
     go_wp2_with fail
     refine (abV z V3).mono ?_
     rintro e w4 ⟨rfl,k4⟩
     have k4':=kV3.trans (k4.mono zV3)
     have z4:=k4'.size
     have v0:w4.cell? ⟨gz,0,none⟩=some (.int .i64 z.b):=(BZ.o.below k4 BZ.o.lt).cell 0
     have v1:w4.cell? ⟨gz,1,none⟩=some (.int .i64 z.r):=(BZ.o.below k4 BZ.o.lt).cell 1
     have ROW4:=zM (w4.ownsRow w.heap.size 75 2 (.slice A3 acc.length c3) acc.length (acc.flatMap Ln.cs)) (ym ROW3.o λq hq=>k4.block q (vV ROW3.o q hq))
     clear w0 w1'
     cases hlb:ug z.b z.r with
     |false=>
      have HLE:=zM (je z=2) (by unfold je;rw [hlb];rfl)
      have HER:=zM (sumErr a b=2) (by rw [aqA (zd hil) (zd hjl) (by rw [<-HXE.o,<-HYE.o,<-HZ.o];exact hlb)])
      have HVV:=zM (adE a b=[]) (by unfold adE;rw [HER.o];rfl)
      clear hlb
      rw [HLE.o]
      go_wp2_with fail
      go_ret2
      rw [HER.o,HVV.o]
      exact ⟨none,0,rfl,⟨by simp,.inl ⟨rfl,rfl⟩⟩,k4'⟩
     |true=>
      have HLE:=zM (je z=0) (by unfold je;rw [hlb];rfl)
      have HP:=zL (SUH.o.push hil hjl ha hb (by rw [<-HXE.o,<-HYE.o,<-HZ.o];exact hlb))
      clear hlb
      rw [HLE.o]
      go_wp2_with (at_builtin;refine qd _ Ln.cs rfl (.tmp 49) (.tmp 51) _ rfl w.heap.size 75 i0 _ 2 16 Tryz.underlying57 hi0 hz0 hz1 hz2 rfl zO Ln.qw Ln.qV (.slice A3 acc.length c3) acc.length (acc.flatMap Ln.cs) rfl (ROW4.o.alloc _) (w4.heap.size+1) (some ⟨w4.heap.size,0,none⟩) 1 [z] rfl (RdL.zU z) zBH zBQ zBX ?_;intro v3 w5 row5 g5 at5;obtain ⟨A9,c9,hv9,row6⟩:=qI row5 zO;subst hv9;have k5:=ql (k4'.alloc z4 _) (ROW4.o.alloc _) g5 (zD _) zBX)
      have hp:=HP.o
      rw [<-HXE.o,<-HYE.o,<-HZ.o] at hp
      have hle:(acc++[z]).length=acc.length+1:=zA1
      go_roundw
      case rel=>exact ⟨j+1,acc++[z],A9,c9,hjl,by go_num,by rw [hle],hp,row6,k5⟩
      case measure=>simp [intOf];omega
    ·exact zEa
  ·have hacc:acc=sumAll a b:=by rw [SUH.o.start,zAZ zO]
   have HACC:=zL hacc
   have hal36:=SUH.o.len
   have hok:∀z∈acc,yL z:=λz hz=>by have h9:=SUH.o.ok z hz;unfold ug at h9;have h9:=of_decide_eq_true h9;exact h9
   have hall:(sumAll a b).all (λz=>ug z.b z.r)=true:=List.all_eq_true.2 λz hz=>SUH.o.ok z (by rw [hacc];exact hz)
   have HOK:=zL hok
   have HALL:=zL hall
   clear hacc hok hall
   go_wp2_with fail
   refine (anO A3 c3 acc wr wr.heap.size (zD _) (RdL.qA ROW.o) zO HOK.o).mono ?_
   rintro e w5 ⟨A5,c5,rfl,o5,k5⟩
   have k5':=hbw.trans (k5.mono zw)
   obtain ⟨t,ht⟩:∃t,t=tidyRef acc:=⟨_,rfl⟩
   have htl:t.length<=acc.length:=by rw [ht];exact alE λy hy=>(HOK.o y hy).2.2.1
   rw [<-ht] at o5 ⊢
   have HTT:=zL (ht.trans (by rw [HACC.o]))
   have O5:=zL o5
   clear ht o5
   by_cases h6:6<t.length
   ·have HER:=zM (sumErr a b=3) (by unfold sumErr;rw [zp HALL.o,zp zCm])
    have HVV:=zM (adE a b=[]) (by unfold adE;rw [HER.o];rfl)
    go_wp2_with fail
    go_ret2
    rw [HER.o,HVV.o]
    exact ⟨none,0,rfl,⟨by simp,.inl ⟨rfl,rfl⟩⟩,k5'⟩
   ·have HER:=zM (sumErr a b=0) (by unfold sumErr;rw [zp HALL.o,z6 zCm])
    have HVV:=zM (adE a b=t) (by unfold adE;rw [HER.o,<-HTT.o];rfl)
    go_wp2_with fail
    go_ret2
    rw [HER.o,HVV.o]
    exact ⟨A5,c5,rfl,qO O5.o zw,k5'⟩
theorem ayQ {a b:List Ln} (ha:(qh a).1=0) (hb:(qh b).1=0):jE a b=(sumErr a b,-1)/\kE a b=adE a b:=by
 have e:jE a b=(sumErr a b,-1):=by
  unfold jE
  rw [z6 zO,z6 zO]
 refine ⟨e,?_⟩
 unfold kE adE
 rw [e]
def cvO (o:Option (List Ln)):Option (List Ln):=match o with
 |none=>none
 |some all=>if all.length=0 then none else some all
def cvL (o:Option (List Ln)):List Ln:=match o with
 |none=>[]
 |some all=>all
def cvB (o:Option (List Ln)):Bool:=match o with
 |none=>false
 |some all=>true
def a3M (o:Option (List Ln)) (w:World) (e:Ending) (w':World):Prop:=
 ∃A c,e=.returned (.tuple #[.slice A (cvL o).length c,.bool (cvB o)])/\RdL w' w'.heap.size A (cvL o)/\Below w.heap.size w w'
section
variable (Ac An:Option Addr) (cc cn:Nat) (cs:List (List Ln)) (K:ByteArray) (per:Int) (ns:List Int) (w:World) (B:Nat) (hB:B<=w.heap.size) (h:abF w B Ac cs) (hl:∀l∈cs,l.length<=9223372036854775807)
include hB h hl
set_option maxHeartbeats 8000000 in
theorem amU (h8:cs.length=8) (hcs:adB cs):Calls Tryz.prog 31 #[.agg #[.slice Ac cs.length cc,.string K,.int .i64 per,.slice An ns.length cn]] w (a3M (cvO (bndAll cs)) w):=by
 have H8:=zL h8
 have hBw:B<=w.heap.size:=hB
 obtain ⟨W,hW⟩:∃W:World,W=w.alloc (.cells #[.slice Ac 8 cc,.string K,.int .i64 per,.slice An ns.length cn] 45):=⟨_,rfl⟩
 have bW:Below w.heap.size w W:=zBx
 obtain ⟨gb,hgb⟩:∃gb,gb=w.heap.size:=⟨_,rfl⟩
 have xW:Blk W gb 45 #[.slice Ac 8 cc,.string K,.int .i64 per,.slice An ns.length cn]:=zCx
 have HW:=zL hW
 have BW:=zL bW
 have XW:=zL xW
 have HGB:=zL hgb
 have zW:w.heap.size<=W.heap.size:=bW.size
 have e0:=xW.cell 0
 simp only [zc,zE,zj] at e0
 have h08:0<cs.length:=zO
 obtain ⟨b,o,a0,c0,rfl,hb,d0,hrd0⟩:=(h.below (bW.mono hB)) 0 h08
 have hl0:=hl _ (zd h08)
 have hm0:=hcs _ (zd h08)
 have hg0:cs.getD 0 []=cs[0]:=by simp [List.getD,h08]
 obtain ⟨l0,hl0e⟩:∃l0,l0=cs[0]:=⟨_,rfl⟩
 rw [<-hl0e] at d0 hrd0 hl0 hg0 hm0
 have HG0:=zL hg0
 have HR0:=zL hrd0
 simp only [Nat.add_zero] at d0
 rw [h8]
 have HCS:=zL hcs
 clear h8 hW bW xW hgb hg0 hl0e hrd0 hcs
 by_cases hne:l0.length=0
 ·have HC:=zL (show cvO (bndAll cs)=none by
   unfold bndAll
   rw [HG0.o,zAE (show 1<cs.length by rw [H8.o];omega)]
   unfold aa2
   rw [zp (.inr hne)]
   show (if l0.length=0 then none else some l0)=_
   rw [zp hne])
  rw [hne] at d0
  clear hne hm0 hl0
  go_enter Tryz.func31,Tryz.ntmps31
  go_upto_region 1 with fail
  rw [<-HGB.o]
  rw [HGB.o,<-HW.o,<-HGB.o]
  go_wp2_with fail
  go_ret2
  rw [HC.o]
  exact ⟨none,0,rfl,Rd.ui,BW.o⟩
 ·have hok0:=hm0.resolve_left (λe=>hne (by rw [e];rfl))
  have u0:((l0.length:Int)==0)=false:=zBf
  have HOK0:=zL hok0
  clear hne hm0 hok0
  go_enter Tryz.func31,Tryz.ntmps31
  go_upto_region 1 with fail
  rw [<-HGB.o]
  rw [HGB.o,<-HW.o,<-HGB.o]
  go_wp2_with fail
  go_loopw [4,5] (λav iv wr=>∃(k:Nat) (al:List Ln) (A1:Option Addr) (c1:Nat),k<=7/\iv=.int .i64 ((k+1:Nat):Int)/\av=.slice A1 al.length c1/\bndAll cs=aa2 al (cs.drop (k+1))/\RdL wr wr.heap.size A1 al/\(qh al).1=0/\Below w.heap.size w wr/\Blk wr gb 45 #[.slice (some ⟨b,o,none⟩) 8 cc,.string K,.int .i64 per,.slice An ns.length cn]) (λ_ iv _=>8 - (intOf iv).toNat)
  case atStart=>exact ⟨0,l0,a0,c0,zAK _,rfl,rfl,by unfold bndAll;rw [HG0.o],HR0.o.more (zAB hBw zW),HOK0.o,BW.o,XW.o⟩
  case round=>
   obtain ⟨k,al,A1,c1,hk,rfl,rfl,hall,hrd,hok,hbw,hx⟩:=hrel
   have HALL0:=zL hall
   have HRD:=zL hrd
   have HX:=zL hx
   have zw:=hbw.size
   have f0:=hx.cell 0
   simp only [zc,zE,zj] at f0
   obtain ⟨a1,a2,a3,-⟩:=crvErr_ok hok
   have HOK:=zL hok
   have HA3:=zL a3
   clear hall hrd hx hok a3
   by_cases hlt:k<7
   ·have hkl:k+1<cs.length:=by rw [H8.o];omega
    obtain ⟨b9,o9,a,c,hA9,hb9,d1,hrd⟩:=(h.below (hbw.mono hB)) (k+1) hkl
    simp only [zAC,zAS,and_true] at hA9
    obtain ⟨rfl,rfl⟩:=hA9
    have hst:=aiD hkl al
    have hll:=hl _ (zd hkl)
    have hm:=HCS.o _ (zd hkl)
    obtain ⟨l,hle⟩:∃l,l=cs[k+1]:=⟨_,rfl⟩
    rw [<-hle] at d1 hrd hst hll hm
    obtain ⟨m,hmk⟩:∃m,m=k+1:=⟨_,rfl⟩
    rw [<-hmk] at d1 ⊢
    have HMK:=zL hmk
    have HST:=zL hst
    have HRL:=zL hrd
    have u1:(0:Int)<=(m:Int):=zO
    have u2:(m:Int)<8:=zO
    clear hst hle hrd hb9 hmk
    by_cases hl0':l.length=0
    ·have HALL:=zL (show cvO (bndAll cs)=some al by
      rw [HALL0.o,HST.o,zp (.inl hl0')]
      show (if al.length=0 then none else some al)=_
      rw [z6 zO])
     rw [hl0'] at d1
     clear hl0'
     exact zFS
    ·have hlne:(0:Int)<(l.length:Int):=by omega
     have hokl:=hm.resolve_left (λe=>hl0' (by rw [e];rfl))
     obtain ⟨b1,b2,b3,-⟩:=crvErr_ok hokl
     obtain ⟨se1,se2⟩:=ayQ HOK.o hokl
     have HS2:=zL (arZ A1 a c1 c al l wr wr.heap.size (zD _) HRD.o (HRL.o.more (zAB hB zw)) a2 b2 HA3.o b3)
     by_cases he:sumErr al l=0
     ·have HALL2:=zM (bndAll cs=aa2 (kE al l) (cs.drop (k+1+1))) (by rw [HALL0.o,HST.o,z6 zO,z6 (by rw [se1];simpa using he)])
      have hok2:=(agV HOK.o hokl (by rw [se1];exact he)).1
      have HE:=zL he
      obtain ⟨sv',hsv⟩:∃sv',sv'=adE al l:=⟨_,rfl⟩
      rw [se2] at HALL2 hok2
      rw [<-hsv] at HS2 HALL2 hok2
      rw [he] at HS2
      have HO2:=zL hok2
      clear he hsv hl0' hok2 se1 se2 hokl b3 hm
      go_wp2_with fail
      refine (HS2.o).mono ?_
      rintro e wz ⟨AO,cO,rfl,ro,kz⟩
      have RO:=zL (RdL.qA ro)
      have KZ:=zL (hbw.trans (kz.mono zw))
      have XZ:=zL (HX.o.below kz HX.o.lt)
      clear ro kz d1 HS2 f0
      go_wp2_with fail
      go_roundw
      case rel=>exact ⟨k+1,sv',AO,cO,by omega,by rw [HMK.o];go_num,rfl,HALL2.o,RO.o,HO2.o,KZ.o,XZ.o⟩
      case measure=>simp [intOf];omega
     ·have HALL:=zM (cvO (bndAll cs)=none) (by rw [HALL0.o,HST.o,z6 zO,zp (by rw [se1];exact he)];rfl)
      have he':(0:Int)<(sumErr al l:Int):=zO
      clear he hl0' se1 se2 hokl b3 hm
      go_wp2_with fail
      refine (HS2.o).mono ?_
      rintro e wz ⟨AO,cO,rfl,-,kz⟩
      have kz':=hbw.trans (kz.mono zw)
      clear kz d1 HS2 f0
      go_wp2_with fail
      go_ret2
      rw [HALL.o]
      exact ⟨none,0,rfl,Rd.ui,kz'⟩
   ·obtain rfl:k=7:=by omega
    have HALL:=zL (show cvO (bndAll cs)=some al by
     rw [HALL0.o,zAO (by rw [H8.o];omega)]
     show (if al.length=0 then none else some al)=_
     rw [z6 zO])
    exact zFS
end
end Go.Proofs.YtoomffajodheaaaGreatDoor
