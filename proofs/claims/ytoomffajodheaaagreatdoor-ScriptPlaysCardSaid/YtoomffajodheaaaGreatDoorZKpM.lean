/- The proof of ScriptPlays, part KpM. Conditions: in each statement. -/
import Derived.Test.YtoomffajodheaaaGreatDoorZGtM
import Derived.Test.YtoomffajodheaaaGreatDoorZDlB
set_option linter.all false
namespace Go.Proofs.YtoomffajodheaaaGreatDoor
theorem zBk{p:Prop}(h:p:=by rw [xI,HE2.o,z6 (by simp)]):p:=h
theorem zB0{p:Prop}(h:p:=by rw [xD,z6 h0,z6 (by rw [hhe];omega)]):p:=h
theorem zB1{p:Prop}(h:p:=by rw [xD,z6 h0,zp (by rw [hhe];omega)]):p:=h
theorem zB2{p:Prop}(h:p:=by rw [hhe];omega):p:=h
theorem zCd{p:Prop}(h:p:=by rw [xI,HE2.o,zp rfl,hhv]):p:=h
theorem zDK{p:Prop}(h:p:=by
 have HE2:=zM (xA (qg K) per (some al)=(4,-1)) zB1
 have HV2:=zM (acK (qg K) per (some al)=0) zBk
 have HW:=zL hw
 clear hw hhe hhv
 go_wp2_with fail
 refine (HH.o).mono ?_
 rintro e wz ⟨v,rfl,hv,kz⟩
 obtain ⟨T,ad,rfl⟩:=hv.qW HW.o
 have kz':=hbw.trans (kz.mono hbw.size)
 have g4:=HG4.o wz (kz'.mono hBw)
 simp only [G,sv] at g4
 clear hv kz f1 f2 HH
 go_wp2_with fail
 go_region
 all_goals
  go_wp2_with fail
  go_ret2
  rw [HBE.o,HBV.o,HALL.o,HE2.o,HV2.o]
  exact ⟨_,rfl,.bare 4 zO zO,kz'.drew⟩):p:=h
theorem zDY{p:Prop}(h:p:=by
 have HW:=zL hw
 clear hw hhe hhv
 go_wp2_with fail
 refine (HH.o).mono ?_
 rintro e wz ⟨v,rfl,hv,kz⟩
 obtain rfl:=hv.qK HW.o
 have kz':=hbw.trans (kz.mono hbw.size)
 clear hv kz f1 f2 HH
 go_wp2_with fail
 go_ret2
 rw [HBE.o,HBV.o,HALL.o,HE2.o,HV2.o]
 exact ⟨_,rfl,.nil,kz'⟩):p:=h
theorem zD1{p:Prop}(h:p:=by
 go_wp2_with fail
 go_region
 all_goals
  go_wp2_with fail
  go_ret2
  rw [HBE.o,HBV.o,HALL.o,HE2.o,HV2.o]
  exact ⟨_,rfl,.bare 4 zO zO,hbw.drew⟩):p:=h
theorem zD9{p:Prop}(h:p:=by
 have f1:=HX.o.cell 1
 have f2:=HX.o.cell 2
 simp only [zc,zE,zj] at f1 f2
 by_cases h0:al.length=0
 ·have g4:=HG4.o wr (hbw.mono hBw)
  simp only [G,sv] at g4
  have HE2:=zM (xA (qg K) per (some al)=(4,-1)) (zp h0)
  have HV2:=zM (acK (qg K) per (some al)=0) zBk
  rw [h0]
  exact zD1
 ·have hne:((al.length:Int)==0)=false:=by rw [beq_eq_false_iff_ne];omega
  rcases bfifo_cases K with ⟨s0,hn⟩|⟨s0,hn⟩
  ·have HH:=zL (afB A1 c1 al per S wr wr.heap.size (zD _) HRD.o (((hS.s.below (hbw.mono hB)).more (zAB hB hbw.size)).sub zA1) hal)
   have hhe:vO (qg K) al per=yf al per:=zp hn
   have hhv:adY (qg K) al per=wS al per:=zp hn
   clear hS h h' hl hl' hn
   by_cases hw:(yf al per).1=0
   ·have HE2:=zM (xA (qg K) per (some al)=(0,-1)) zB0
    have HV2:=zM (acK (qg K) per (some al)=wS al per) zCd
    exact zDY
   ·exact zDK
  ·have HH:=zL (afH A1 c1 al per S wr wr.heap.size (zD _) HRD.o (((hS.s.below (hbw.mono hB)).more (zAB hB hbw.size)).sub zA1) hal)
   have hhe:vO (qg K) al per=yT al per:=z6 hn
   have hhv:adY (qg K) al per=uD al per:=z6 hn
   clear hS h h' hl hl' hn
   by_cases hw:(yT al per).1=0
   ·have HE2:=zM (xA (qg K) per (some al)=(0,-1)) zB0
    have HV2:=zM (acK (qg K) per (some al)=uD al per) zCd
    exact zDY
   ·exact zDK):p:=h
section
variable {p:List Pk} {per:Int} {V:Int->Int}
def KB {σ:Type} (M:Pol σ) (p:List Pk) (per B:Int) (t:St σ):Prop:=
 KJ M p per t/\(∀C y,kL per (p.take t.next)=C++[y]->∀j∈M.wait t.s,y.b<=aOf p j)/\∀x∈t.out,x.t - aOf p x.p.toNat<=B
end
def aa2:List Ln->List (List Ln)->Option (List Ln)
 |all,[]=>some all
 |all,l::r=>if l.length=0\/all.length=0 then some all else if (jE all l).1≠0 then none else aa2 (kE all l) r
def bndAll (cs:List (List Ln)):Option (List Ln):=aa2 (cs.getD 0 []) (cs.drop 1)
def vO (n:Nat) (l:List Ln) (per:Int):Nat × Int:=if n=0 then yf l per else yT l per
def adY (n:Nat) (l:List Ln) (per:Int):Int:=if n=0 then wS l per else uD l per
def xA (n:Nat) (per:Int):Option (List Ln)->Nat × Int
 |none=>(4,-1)
 |some all=>if all.length=0 then (4,-1) else if (vO n all per).1≠0 then (4,-1) else (0,-1)
def acK (n:Nat) (per:Int):Option (List Ln)->Int
 |none=>0
 |some all=>if (xA n per (some all)).1=0 then adY n all per else 0
def uj (cs:List (List Ln)) (n:Nat) (per:Int) (ns:List Int):Nat × Int:=if (qF cs n per ns).1≠0 then qF cs n per ns else xA n per (bndAll cs)
def ac7 (cs:List (List Ln)) (n:Nat) (per:Int) (ns:List Int):Int:=if (qF cs n per ns).1≠0 then 0 else acK n per (bndAll cs)
theorem a1Y {cs:List (List Ln)} {n:Nat} {per:Int} {ns:List Int} (h:(uj cs n per ns).1=0):(qF cs n per ns).1=0/\∃all,bndAll cs=some all/\0<all.length/\(vO n all per).1=0/\ac7 cs n per ns=adY n all per/\uj cs n per ns=(0,-1):=by
 unfold uj ac7 at*
 by_cases h1:(qF cs n per ns).1≠0
 ·rw [zp h1] at h;exact zAv h h1
 ·rw [z6 h1] at h ⊢
  rw [z6 h1]
  refine ⟨by omega,?_⟩
  cases ha:bndAll cs with
  |none=>rw [ha] at h;simp [xA] at h
  |some all=>
   rw [ha] at h
   have e9:xA n per (some all)=if all.length=0 then (4,-1) else if (vO n all per).1≠0 then (4,-1) else (0,-1):=rfl
   have h':=h
   rw [e9] at h'
   by_cases h2:all.length=0
   ·rw [zp h2] at h';simp at h'
   ·rw [z6 h2] at h'
    by_cases h3:(vO n all per).1≠0
    ·rw [zp h3] at h';simp at h'
    ·refine ⟨all,rfl,by omega,by omega,?_,?_⟩
     ·show (if (xA n per (some all)).1=0 then adY n all per else 0)=_
      rw [zp h]
     ·rw [e9,z6 h2,z6 h3]
theorem agV {a b:List Ln} (ha:(qh a).1=0) (hb:(qh b).1=0) (h:(jE a b).1=0):(qh (kE a b)).1=0/\∀t,0<=t->qP a t+qP b t<=qP (kE a b) t:=by
 have hv:kE a b=tidyRef (sumAll a b):=zp h
 have he:sumErr a b=0:=by
  unfold jE at h
  rw [z6 zO,z6 zO] at h
  exact h
 obtain ⟨s1,s2,-⟩:=a0Y he
 obtain ⟨a1,a2,a3,-⟩:=crvErr_ok ha
 obtain ⟨b1,b2,b3,-⟩:=crvErr_ok hb
 have hr:∀y∈sumAll a b,0<=y.r:=λy hy=>(s1 y hy).2.2.1
 have hl:0<(sumAll a b).length:=by rw [aa4];exact Nat.mul_pos a1 b1
 have hne:=ayI hr hl
 rw [hv]
 refine ⟨by rw [aj3 hne s2 λx hx=>s1 x (au6 _ x hx)],λt ht=>?_⟩
 rw [au5 hr hl ht]
 exact (ayO a1 b1 t).1
def sumTo (g:Nat->Int):Nat->Int
 |0=>0
 |n+1=>sumTo g n+g n
theorem auZ {cs:List (List Ln)} (hcs:adB cs):∀(r:List (List Ln)) (k:Nat) (all out:List Ln),k<=cs.length->cs.drop k=r->(qh all).1=0->aa2 all r=some out→
 (qh out).1=0/\∃m,k<=m/\m<=cs.length/\(m=cs.length\/cs.getD m []=[])/\(∀f,k<=f->f<m->cs.getD f []≠[])/\∀t,0<=t->qP all t+(sumTo (λf=>qP (cs.getD f []) t) m - sumTo (λf=>qP (cs.getD f []) t) k)<=qP out t:=by
 intro r
 induction r with
 |nil=>
  intro k all out hk hd ha h
  simp only [aa2,zAC] at h
  subst h
  have:=zAu List.length hd
  simp at this
  exact ⟨ha,k,zD _,hk,.inl zO,λf h1 h2=>by omega,λt _=>by omega⟩
 |cons l r ih=>
  intro k all out hk hd ha h
  have hkl:k<cs.length:=by
   have:=zAu List.length hd
   simp at this
   omega
  have hd2:=zAE hkl
  rw [hd] at hd2
  injection hd2 with hl hr
  have hg:cs.getD k []=l:=by rw [hl];simp [List.getD,hkl]
  unfold aa2 at h
  by_cases h1:l.length=0\/all.length=0
  ·rw [zp h1] at h
   injection h with h
   subst h
   have h0:=(crvErr_ok ha).1
   have hl0:l=[]:=List.length_eq_zero_iff.1 zO
   exact ⟨ha,k,zD _,hk,.inr (hg.trans hl0),λf h1 h2=>by omega,λt _=>by omega⟩
  ·rw [z6 h1] at h
   by_cases h2:(jE all l).1≠0
   ·rw [zp h2] at h;cases h
   ·rw [z6 h2] at h
    have hlne:l≠[]:=λe=>h1 (.inl (by rw [e];rfl))
    have hb:(qh l).1=0:=(hcs l (by rw [hl];exact zd hkl)).resolve_left hlne
    obtain ⟨s1,s2⟩:=agV ha hb zO
    obtain ⟨i1,m,i2,i3,i4,i5,i6⟩:=ih (k+1) (kE all l) out hkl hr.symm s1 h
    refine ⟨i1,m,by omega,i3,i4,λf hf1 hf2=>?_,λt ht=>?_⟩
    ·by_cases e:f=k
     ·subst e;rw [hg];exact hlne
     ·exact i5 f zO hf2
    ·have e1:=i6 t ht
     have e2:=s2 t ht
     have e3:sumTo (λf=>qP (cs.getD f []) t) (k+1)=sumTo (λf=>qP (cs.getD f []) t) k+qP l t:=by
      show _+qP (cs.getD k []) t=_
      rw [hg]
     omega
theorem a0I {cs:List (List Ln)} (hcs:adB cs) (h8:cs.length=8) {all:List Ln} (ha:bndAll cs=some all) (hne:0<all.length):(qh all).1=0/\∃m,1<=m/\m<=8/\(m=8\/cs.getD m []=[])/\(∀f,f<m->cs.getD f []≠[])/\∀t,0<=t->sumTo (λf=>qP (cs.getD f []) t) m<=qP all t:=by
 have h0:cs.getD 0 []≠[]:=λe=>by
  unfold bndAll at ha
  rw [e] at ha
  cases hd:cs.drop 1 with
  |nil=>have:=zAu List.length hd;simp at this;omega
  |cons l r=>
   rw [hd] at ha
   unfold aa2 at ha
   rw [zp (.inr rfl)] at ha
   injection ha with ha
   rw [<-ha] at hne
   simp at hne
 have hc0:(qh (cs.getD 0 [])).1=0:=by
  have hm:cs.getD 0 []∈cs:=by
   have h9:(0:Nat)<cs.length:=zO
   have e:cs.getD 0 []=cs[0]:=by simp [List.getD,h9]
   rw [e]
   exact zd _
  exact (hcs _ hm).resolve_left h0
 obtain ⟨i1,m,i2,i3,i4,i5,i6⟩:=auZ hcs (cs.drop 1) 1 _ _ zO rfl hc0 ha
 refine ⟨i1,m,i2,by omega,by rwa [h8] at i4,λf hf=>?_,λt ht=>?_⟩
 ·by_cases e:f=0
  ·subst e;exact h0
  ·exact i5 f zO hf
 ·have:=i6 t ht
  have e:sumTo (λf=>qP (cs.getD f []) t) 1=qP (cs.getD 0 []) t:=by
   show 0+qP (cs.getD 0 []) t=_
   omega
  omega
open Go.RowKit
set_option maxRecDepth 100000
theorem bfifo_cases (K:ByteArray):((K.toList==([102,105,102,111]:List UInt8))=true/\qg K=0)\/((K.toList==([102,105,102,111]:List UInt8))=false/\qg K≠0):=by
 rcases kind_cases K with ⟨s0,s1,s2,s3,s4,hn⟩|⟨s0,s1,s2,s3,s4,hn⟩|⟨s0,s1,s2,s3,s4,hn⟩|⟨s0,s1,s2,s3,s4,hn⟩|⟨s0,s1,s2,s3,s4,hn⟩|⟨s0,s1,s2,s3,s4,hn⟩
 ·exact .inl ⟨s0,hn⟩
 all_goals exact .inr ⟨s0,by rw [hn];decide⟩
theorem xD (n:Nat) (per:Int) (al:List Ln):xA n per (some al)=if al.length=0 then (4,-1) else if (vO n al per).1≠0 then (4,-1) else (0,-1):=rfl
theorem xI (n:Nat) (per:Int) (al:List Ln):acK n per (some al)=if (xA n per (some al)).1=0 then adY n al per else 0:=rfl
theorem ayP {a b:List Ln} (h:(jE a b).1=0):(qh a).1=0/\(qh b).1=0:=by
 unfold jE at h
 by_cases h1:(qh a).1≠0
 ·rw [zp h1] at h;exact zAv h h1
 ·rw [z6 h1] at h
  by_cases h2:(qh b).1≠0
  ·rw [zp h2] at h;exact zAv h h2
  ·exact ⟨by omega,by omega⟩
theorem aiD {cs:List (List Ln)} {k:Nat} (hk:k<cs.length) (al:List Ln):aa2 al (cs.drop k)=if cs[k].length=0\/al.length=0 then some al else if (jE al cs[k]).1≠0 then none else aa2 (kE al cs[k]) (cs.drop (k+1)):=by
 rw [zAE hk]
 rfl
section
variable (Ac An:Option Addr) (cc cn:Nat) (cs:List (List Ln)) (K:ByteArray) (per:Int) (ns:List Int) (S:Nat->Addr) (w:World) (B:Nat) (hB:B<=w.heap.size) (h:abF w B Ac cs) (h':RdI w B An ns) (hS:GS w B S) (hl:∀l∈cs,l.length<=9223372036854775807) (hl':ns.length<=9223372036854775807) (hcc:cs.length<=cc)
include hB h h' hS hl hl' hcc
set_option maxHeartbeats 8000000 in
theorem ap0 (h1:(qF cs (qg K) per ns).1=0):Calls Tryz.prog 73 #[.agg #[.slice Ac cs.length cc,.string K,.int .i64 per,.slice An ns.length cn]] w (adA (.int .i64 (ac7 cs (qg K) per ns)) S (uj cs (qg K) per ns).1 (uj cs (qg K) per ns).2 w):=by
 obtain ⟨h8,hcs,hlk,-⟩:=xL h1
 have HBE:=zM (uj cs (qg K) per ns=xA (qg K) per (bndAll cs)) (z6 zO)
 have HBV:=zM (ac7 cs (qg K) per ns=acK (qg K) per (bndAll cs)) (z6 zO)
 have H1:=zL h1
 have H8:=zL h8
 have hcc8:8<=cc:=zO
 have hBw:B<=w.heap.size:=hB
 obtain ⟨W,hW⟩:∃W:World,W=w.alloc (.cells #[.slice Ac 8 cc,.string K,.int .i64 per,.slice An ns.length cn] 66):=⟨_,rfl⟩
 have bW:Below w.heap.size w W:=zBx
 obtain ⟨gb,hgb⟩:∃gb,gb=w.heap.size:=⟨_,rfl⟩
 have xW:Blk W gb 66 #[.slice Ac 8 cc,.string K,.int .i64 per,.slice An ns.length cn]:=zCx
 have HW:=zL hW
 have BW:=zL bW
 have XW:=zL xW
 have HGB:=zL hgb
 have zW:w.heap.size<=W.heap.size:=bW.size
 rw [h8]
 have hcheck:=uZ Ac An cc cn cs K per ns S W B (zAB hB bW.size) (h.below (bW.mono hB)) (h'.below (bW.mono hB)) (hS.below (bW.mono hB)) hl hl'
 rw [h8] at hcheck
 have HCK:=zL hcheck
 have HG4:=zM (∀v:World,Below B w v->v.cell? ⟨G 4,0,none⟩=some (sv S 4)) (λv hv=>((hS.s.below hv) 4 zA1).2.2)
 clear h1 h8 hcs hlk hW bW xW hcheck hgb hcc
 go_enter Tryz.func73,Tryz.ntmps73
 go_wp2_with fail
 rw [<-HGB.o,<-HW.o]
 refine (HCK.o).mono ?_
 rintro e w1 ⟨v,rfl,hv,k1⟩
 obtain rfl:=hv.qK H1.o
 have k1':=BW.o.trans (k1.mono zW)
 have x1:=XW.o.below k1 XW.o.lt
 have z1:=k1'.size
 have e0:=x1.cell 0
 simp only [zc,zE,zj] at e0
 have h08:0<cs.length:=by rw [H8.o];omega
 obtain ⟨b,o,a0,c0,rfl,hb,d0,hrd0⟩:=(h.below (k1'.mono hB)) 0 h08
 have hl0:=hl _ (zd h08)
 have hg0:cs.getD 0 []=cs[0]:=by simp [List.getD,h08]
 obtain ⟨l0,hl0e⟩:∃l0,l0=cs[0]:=⟨_,rfl⟩
 rw [<-hl0e] at d0 hrd0 hl0 hg0
 have HG0:=zL hg0
 have HR0:=zL hrd0
 have X1:=zL x1
 have K1:=zL k1'
 simp only [Nat.add_zero] at d0
 clear hv k1 k1' x1 hg0 hl0e hrd0 HCK
 go_wp2_with fail
 go_loopw [5,26] (λav iv wr=>∃(k:Nat) (al:List Ln) (A1:Option Addr) (c1:Nat),k<=7/\iv=.int .i64 k/\av=.slice A1 al.length c1/\bndAll cs=aa2 al (cs.drop (k+1))/\RdL wr wr.heap.size A1 al/\al.length<=9223372036854775807/\Below w.heap.size w wr/\Blk wr gb 66 #[.slice (some ⟨b,o,none⟩) 8 cc,.string K,.int .i64 per,.slice An ns.length cn]) (λ_ iv _=>7 - (intOf iv).toNat)
 case atStart=>exact ⟨0,l0,a0,c0,zAK _,rfl,rfl,by unfold bndAll;rw [HG0.o],HR0.o.more (zAB hBw z1),hl0,K1.o,X1.o⟩
 case round=>
  obtain ⟨k,al,A1,c1,hk,rfl,rfl,hall,hrd,hal,hbw,hx⟩:=hrel
  have HALL0:=zL hall
  have HRD:=zL hrd
  have HX:=zL hx
  have zw:=hbw.size
  clear hall hrd hx
  by_cases hlt:k<7
  ·have hkl:k+1<cs.length:=by rw [H8.o];omega
   obtain ⟨b9,o9,a,c,hA9,hb9,d1,hrd⟩:=(h.below (hbw.mono hB)) (k+1) hkl
   simp only [zAC,zAS,and_true] at hA9
   obtain ⟨rfl,rfl⟩:=hA9
   have hst:=aiD hkl al
   have hll:=hl _ (zd hkl)
   obtain ⟨l,hle⟩:∃l,l=cs[k+1]:=⟨_,rfl⟩
   rw [<-hle] at d1 hrd hst hll
   rw [show o+(k+1)=o+1+k by omega] at d1
   have HST:=zL hst
   have HRL:=zL hrd
   have u1:(0:Int)<=(k:Int):=zO
   have u2:(k:Int)<7:=zO
   clear hst hle hrd hb9
   by_cases hl0':l.length=0
   ·have HALL:=zM (bndAll cs=some al) (by rw [HALL0.o,HST.o,zp (.inl hl0')])
    rw [hl0'] at d1
    clear hl0'
    exact zD9
   ·have hlne:((l.length:Int)==0)=false:=by rw [beq_eq_false_iff_ne];omega
    by_cases hal0:al.length=0
    ·have HALL:=zM (bndAll cs=some al) (by rw [HALL0.o,HST.o,zp (.inr hal0)])
     clear hl0'
     have g4:=HG4.o wr (hbw.mono hBw)
     simp only [G,sv] at g4
     have HE2:=zM (xA (qg K) per (some al)=(4,-1)) (zp hal0)
     have HV2:=zM (acK (qg K) per (some al)=0) zBk
     rw [hal0]
     exact zD1
    ·have halne:((al.length:Int)==0)=false:=by rw [beq_eq_false_iff_ne];omega
     have HS2:=zL (axM A1 a c1 c al l S wr wr.heap.size (zD _) HRD.o (HRL.o.more (zAB hB zw)) (((hS.s.below (hbw.mono hB)).more (zAB hB zw)).sub zA1) hal hll)
     by_cases he:(jE al l).1=0
     ·have HALL2:=zM (bndAll cs=aa2 (kE al l) (cs.drop (k+1+1))) (by rw [HALL0.o,HST.o,z6 zO,z6 zO])
      obtain ⟨q1,q2⟩:=ayP he
      have hlen:=(crvErr_ok (agV q1 q2 he).1).2.1
      have HE:=zL he
      obtain ⟨sv',hsv⟩:∃sv',sv'=kE al l:=⟨_,rfl⟩
      rw [<-hsv] at HS2 HALL2 hlen
      clear he q1 q2 hsv hl0' hal0
      go_wp2_with fail
      refine (HS2.o).mono ?_
      rintro e wz ⟨AO,cO,v,rfl,ro,hv,kz⟩
      obtain rfl:=hv.qK HE.o
      have RO:=zL (RdL.qA ro)
      have KZ:=zL (hbw.trans (kz.mono zw))
      have XZ:=zL (HX.o.below kz HX.o.lt)
      clear hv ro kz d1 HS2
      go_wp2_with fail
      go_roundw
      case rel=>exact ⟨k+1,sv',AO,cO,by omega,by go_num,rfl,HALL2.o,RO.o,by omega,KZ.o,XZ.o⟩
      case measure=>simp [intOf];omega
     ·have HALL:=zM (bndAll cs=none) (by rw [HALL0.o,HST.o,z6 zO,zp he])
      have HE:=zL he
      clear he hl0' hal0
      go_wp2_with fail
      refine (HS2.o).mono ?_
      rintro e wz ⟨AO,cO,v,rfl,-,hv,kz⟩
      obtain ⟨T,ad,rfl⟩:=hv.qW HE.o
      have kz':=hbw.trans (kz.mono zw)
      have g4:=HG4.o wz (kz'.mono hBw)
      simp only [G,sv] at g4
      clear hv kz d1 HS2
      go_wp2_with fail
      go_region
      all_goals
       go_wp2_with fail
       go_ret2
       rw [HBE.o,HBV.o,HALL.o]
       exact ⟨_,rfl,.bare 4 zO zO,kz'.drew⟩
  ·have HALL:=zM (bndAll cs=some al) (by rw [HALL0.o,zAO (by rw [H8.o];omega)];rfl)
   exact zD9
theorem auP:Calls Tryz.prog 73 #[.agg #[.slice Ac cs.length cc,.string K,.int .i64 per,.slice An ns.length cn]] w (adA (.int .i64 (ac7 cs (qg K) per ns)) S (uj cs (qg K) per ns).1 (uj cs (qg K) per ns).2 w):=by
 by_cases h1:(qF cs (qg K) per ns).1=0
 ·exact ap0 Ac An cc cn cs K per ns S w B hB h h' hS hl hl' hcc h1
 ·have HBE:=zM (uj cs (qg K) per ns=qF cs (qg K) per ns) (zp h1)
  have HBV:=zM (ac7 cs (qg K) per ns=0) (zp h1)
  have bW:Below w.heap.size w (w.alloc (.cells #[.slice Ac cs.length cc,.string K,.int .i64 per,.slice An ns.length cn] 66)):=(zAA _ _).alloc (zD _) _
  have H1:=zL h1
  have HCK:=zL (uZ Ac An cc cn cs K per ns S _ B (zAB hB bW.size) (h.below (bW.mono hB)) (h'.below (bW.mono hB)) (hS.below (bW.mono hB)) hl hl')
  have BW:=zL bW
  clear h1 bW hcc
  go_enter Tryz.func73,Tryz.ntmps73
  go_wp2_with fail
  refine (HCK.o).mono ?_
  rintro e w1 ⟨v,rfl,hv,k1⟩
  have HV:=zL hv
  obtain ⟨T,ad,rfl⟩:=hv.qW H1.o
  have k1':=BW.o.trans (k1.mono BW.o.size)
  clear hv
  go_wp2_with fail
  go_ret2
  rw [HBE.o,HBV.o]
  exact ⟨_,rfl,HV.o,k1'⟩
end
end Go.Proofs.YtoomffajodheaaaGreatDoor
