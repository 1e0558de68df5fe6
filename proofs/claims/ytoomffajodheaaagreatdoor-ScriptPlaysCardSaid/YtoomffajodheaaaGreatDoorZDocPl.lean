/- The proof of ScriptPlays, part DocPl. Conditions: in each statement. -/
import Derived.Test.YtoomffajodheaaaGreatDoorZGateP
import Derived.Test.YtoomffajodheaaaGreatDoorZRdM
set_option linter.all false
namespace Go.Proofs.YtoomffajodheaaaGreatDoor
theorem zD3{p:Prop}(h:p:=by
 go_wp2_with fail
 go_roundw
 case rel=>exact ⟨k+1,acc,A1,c1,hlt,by go_num,rfl,by rw [Hn.o];exact Hacc.o,by omega,Row.o,hbw⟩
 case measure=>simp [intOf];omega):p:=h
theorem zEE{p:Prop}(h:p:=by
 clear hd
 go_wp2_with fail
 go_quiet (fail)
 go_wp2_with fail
 go_roundw
 case rel=>exact ⟨i+1,_,i,first,hil,by go_num,rfl,rfl,HB'.out,HF'.out,rfl⟩
 case measure=>simp [intOf];omega):p:=h
theorem zEF{p:Prop}(h:p:=by
 clear hd
 go_wp2_with fail
 go_quiet (fail)
 go_wp2_with fail
 go_roundw
 case rel=>exact ⟨i+1,_,i,i,hil,by go_num,rfl,rfl,HB'.out,HF'.out,rfl⟩
 case measure=>simp [intOf];omega):p:=h
theorem zEQ{p:Prop}(h:p:=by
 rw [ek] at HC
 go_wp2_with fail
 refine HC.mono ?_
 rintro e w2 ⟨A2,c2,rfl,row2,k2⟩
 rw [He.o] at row2 ⊢
 go_wp2_with fail
 go_ret
 exact ⟨A2,c2,rfl,qO row2 zw,hbw.trans (k2.mono zw)⟩):p:=h
theorem zFJ{p:Prop}(h:p:=by
 by_cases hj:j=k
 ·subst hj;rw [zp rfl];simp
 ·rw [z6 hj];congr 1;exact decide_eq_decide.2 zO):p:=h
def pkO (p:List Pk) (at_:Nat->Int) (k:Nat):Pk:=⟨fOf p k,sOf p k,at_ k⟩
def outO (p:List Pk) (at_:Nat->Int) (n:Nat):List Pk:=(agA at_ n).map (pkO p at_)
theorem aaU (p:List Pk) (at_:Nat->Int) (n:Nat):(outO p at_ n).length=n:=by
 unfold outO
 rw [List.length_map,adQ]
theorem alU (p:List Pk) (at_:Nat->Int) (n:Nat):(outO p at_ n).Pairwise (λx y=>x.a<=y.a):=by
 unfold outO
 rw [List.pairwise_map]
 refine (ahB at_ n).imp fun {a b} h=>?_
 show at_ a<=at_ b
 unfold afN at h
 omega
theorem a1P {l:List Pk} {t:Int} {j:Nat} (hs:l.Pairwise (λx y=>x.a<=y.a)) (hj:j<=l.length) (hgt:∀m (h:m<l.length),j<=m->t<l[m].a) (hle:∀(h:j - 1<l.length),0<j->l[j - 1].a<=t):
 l.filter (λx=>decide (x.a<=t))=l.take j/\l.filter (λx=> !decide (x.a<=t))=l.drop j:=by
 have h1:∀x∈l.take j,x.a<=t:=λx hx=>by
  obtain ⟨i,hi,rfl⟩:=List.mem_iff_getElem.1 hx
  rw [zAh] at hi
  rw [List.getElem_take]
  have h2:=hle zO zO
  rcases Nat.lt_or_ge i (j - 1) with h3|h3
  ·have:=List.pairwise_iff_getElem.1 hs i (j - 1) zO zO h3
   omega
  ·obtain rfl:i=j - 1:=by omega
   exact h2
 have h2:∀x∈l.drop j,t<x.a:=λx hx=>by
  obtain ⟨i,hi,rfl⟩:=List.mem_iff_getElem.1 hx
  rw [List.length_drop] at hi
  rw [List.getElem_drop]
  exact hgt _ zO zO
 have e:=List.take_append_drop j l
 constructor
 ·conv=>lhs;rw [<-e]
  rw [List.filter_append,List.filter_eq_self.2 (λx hx=>zAI (h1 x hx)),List.filter_eq_nil_iff.2 (λx hx=>by have:=h2 x hx;simp;omega),zAo]
 ·conv=>lhs;rw [<-e]
  rw [List.filter_append,List.filter_eq_nil_iff.2 (λx hx=>by have:=h1 x hx;simp;omega),List.filter_eq_self.2 (λx hx=>by have:=h2 x hx;simp;omega),zAa]
theorem asW (p:List Pk) (at_:Nat->Int) (n:Nat) {j:Nat} (hj:j<=(outO p at_ n).length) (hgt:∀m (h:m<(outO p at_ n).length),j<=m->at_ n<(outO p at_ n)[m].a) (hle:∀(h:j - 1<(outO p at_ n).length),0<j->(outO p at_ n)[j - 1].a<=at_ n):
 outO p at_ (n+1)=(outO p at_ n).take j++pkO p at_ n::(outO p at_ n).drop j:=by
 obtain ⟨e1,e2⟩:=a1P (alU p at_ n) hj hgt hle
 rw [<-e1,<-e2]
 show ((awQ at_ n (agA at_ n)).map (pkO p at_))=_
 unfold awQ outO
 rw [List.map_append,List.map_cons,List.filter_map,List.filter_map]
 rfl
theorem ajF {p:List Pk} {at_:Nat->Int} {n:Nat} {out:List Pk} {j:Nat} (ho:out=outO p at_ n) (hj:j<=out.length) (hgt:∀m (h:m<out.length),j<=m->at_ n<out[m].a) (hle:∀(h:j - 1<out.length),0<j->out[j - 1].a<=at_ n):
 outO p at_ (n+1)=out.take j++pkO p at_ n::out.drop j:=by
 subst ho
 exact asW p at_ n hj hgt hle
structure a18 (p:List Pk) (per:Int) (t:St (List Nat)):Prop where
 idx:∀i (h:i<t.out.length),t.out[i].p=i
 rj:aiE p (λ_=>0) t
 eq:kR per 0 0 p=t.out++kR per t.now t.out.length (p.drop t.out.length)
theorem a1M {out:List Sn} (h:∀i (h:i<out.length),out[i].p=i) (j:Nat):dnB out j=decide (j<out.length):=by
 by_cases hj:j<out.length
 ·rw [zAI hj];exact acH.2 ⟨out[j],zd hj,h j hj⟩
 ·rw [zAH hj]
  refine aaJ.2 λy hy e=>?_
  obtain ⟨i,hi,rfl⟩:=List.getElem_of_mem hy
  have:=h i hi
  omega
theorem awG {p:List Pk} {per:Int} (hp:∀x∈p,zg x) (hs:p.Pairwise (λx y=>x.a<=y.a)) (h0:1<=per) (t:St (List Nat)) (h:Inv (leastM λ_=>0) p t) (hlt:t.out.length<p.length) (hj:a18 p per t):a18 p per (yG (leastM λ_=>0) p per t):=by
 have hr:=ajA hp hs h0 t h hlt hj.rj
 have hd:=a1M hj.idx
 have hdr:=zAE hlt
 have eq:=hj.eq
 rw [hdr] at eq
 have ea:=zy hlt
 have es:=yA hlt
 by_cases hc:aOf p t.out.length<=t.now
 ·have hb:xN p (λ_=>0) t.now t.out p.length (t.out.length:Int):=.inr ⟨t.out.length,hlt,rfl,by rw [hd];exact zAH (Nat.lt_irrefl _),hc,λj _ hdj _=>⟨zAV _,λ_=>by rw [hd] at hdj;have:=of_decide_eq_false hdj;omega⟩⟩
  obtain ⟨k,n,s,e1,hk,_,e2⟩:=alM (per:=per) hs h hj.rj hb zO
  obtain rfl:k=t.out.length:=zO
  rw [e2] at hr ⊢
  refine ⟨λi hi=>?_,hr,?_⟩
  ·simp only [zAP,zAL,zAg] at hi
   rcases Nat.lt_or_ge i t.out.length with h9|h9
   ·simp only;rw [List.getElem_append_left h9];exact hj.idx i h9
   ·obtain rfl:i=t.out.length:=by omega
    simp only;rw [List.getElem_concat_length rfl]
  ·simp only [zAP,zAL,zAg]
   rw [eq,zAi]
   congr 1
   simp only [kR]
   rw [ea] at hc
   rw [z6 zO,es]
   rfl
 ·have hb:xN p (λ_=>0) t.now t.out p.length (-1):=.inl ⟨rfl,λj hjl hdj=>by
   rw [hd] at hdj
   have:=of_decide_eq_false hdj
   have:=uL hs (show t.out.length<=j by omega) hjl
   omega⟩
  have hf:vC t.out p.length (t.out.length:Int):=.inr ⟨t.out.length,hlt,rfl,by rw [hd];exact zAH (Nat.lt_irrefl _),λj hjl=>by rw [hd];exact zAI hjl⟩
  obtain ⟨f,n,s,e1,hfl,e2⟩:=alN (per:=per) hs h hj.rj hlt hb hf zO
  obtain rfl:f=t.out.length:=zO
  rw [e2] at hr ⊢
  refine ⟨hj.idx,hr,?_⟩
  simp only
  rw [eq,hdr]
  rw [ea] at hc ⊢
  simp only [kR]
  rw [zp zO,z6 (Int.lt_irrefl _)]
theorem amB {p:List Pk} {per:Int} (hp:∀x∈p,zg x) (hs:p.Pairwise (λx y=>x.a<=y.a)) (h0:1<=per) (h1:per<=1000):xR p per (λ_=>0)=kR per 0 0 p:=by
 have hi:=abW p (λ_=>0)
 have hj:=acA (xu _ _) hp h0 h1 (a18 p per) (λt a b c=>awG hp hs h0 t a b c) (2*p.length+1) _ hi ⟨λi h=>zAv h zA1,⟨λj hj=>by simp at hj,λi hi=>by simp at hi⟩,rfl⟩
 have hl:=(adI (xu (λ_=>0) _) hp h0 h1 (2*p.length+1) _ hi (uI p []) (zAK _)).2
 have:=hj.eq
 rw [hl,zAO (zD _)] at this
 show (serveS (leastM λ_=>0) p per []).out=_
 rw [this]
 simp [serveS,kR]
theorem ak5 {key key':Nat->Int} (s r:List Nat) (h:∀k∈r,key k=key' k) (b i:Nat) (kb:Int):xy key b kb i r=xy key' b kb i r:=by
 induction r generalizing b i kb with
 |nil=>rfl
 |cons k r ih=>
  have ih':=λb i kb=>ih (λx hx=>h x (zAJ _ hx)) b i kb
  unfold xy
  rw [h k zAD]
  split
  ·exact ih' ..
  ·exact ih' ..
def chain (p:List Pk) (per:Int):Int->List Sn->Prop
 |_,[]=>True
 |now,x::r=>x.t=now+per*sOf p x.p.toNat/\chain p per x.t r
def a1K (now:Int):List Sn->Int
 |[]=>now
 |x::r=>a1K x.t r
section
variable {p:List Pk} {per:Int}
end
structure JackJ (p:List Pk) (per a0:Int) (t:St (List Nat)):Prop where
 e:t.out=[]->t.now<=a0
 c:t.out≠[]->chain p per a0 t.out/\t.now=a1K a0 t.out/\a0<=t.now
structure Oth (p:List Pk) (per a0:Int) (ol i:Nat) (acc:List Sn) (now:Int):Prop where
 ch:chain p per a0 acc
 nw:now=a1K a0 acc
 nd:(acc.map λx=>x.p.toNat).Nodup
 ok:∀x∈acc,0<=x.p/\x.p.toNat<p.length
 all:∀j,j<p.length->ol+j<i->dnB acc j=true
 len:acc.length<=i
 n0:0<=now
 n1:now<=1099511627776+1500000*i
 top:∀x∈acc,0<=x.t/\x.t<=1099511627776+1500000*i
section
variable {p:List Pk} {per a0:Int} {ol i:Nat} {acc:List Sn} {now:Int}
theorem Oth.skip (h:Oth p per a0 ol i acc now) (hs:∀j,i=ol+j->dnB acc j=true):Oth p per a0 ol (i+1) acc now:=
 ⟨h.ch,h.nw,h.nd,h.ok,λj hj hi=>by
  rcases zAn.1 hi with h9|h9
  ·exact h.all j hj h9
  ·exact hs j h9.symm,Nat.le_succ_of_le h.len,h.n0,by have:=h.n1;omega,λx hx=>by have:=h.top x hx;omega⟩
theorem Oth.perm (h:Oth p per a0 ol (ol+p.length) acc now):(acc.map λx=>x.p.toNat).Perm (List.range p.length):=by
 refine (List.perm_ext_iff_of_nodup h.nd List.nodup_range).2 λj=>?_
 rw [List.mem_range]
 refine ⟨λhj=>?_,λhj=>?_⟩
 ·obtain ⟨x,hx,rfl⟩:=zAT.1 hj
  exact (h.ok x hx).2
 ·obtain ⟨y,hy,e⟩:=acH.1 (h.all j hj zO)
  exact zAT.2 ⟨y,hy,by omega⟩
end
open Go.RowKit
set_option maxRecDepth 100000
theorem atP:(Tryz.prog.info? 4).map (λi=>(i.zero,i.size,i.bytes))=some (some (.bool false),1,1):=zK
def keyOf (keys:List Int) (k:Nat):Int:=keys.getD k 0
theorem jk {keys:List Int} {k:Nat} (h:k<keys.length):keyOf keys k=keys[k]:=by simp [keyOf,List.getD,h]
structure a4B (p:List Pk) (per:Int) (key:Nat->Int) (w w1:World) (f:Nat) (t:St (List Nat)) (A:Option Addr) (c:Nat) (wr:World):Prop where
 run:serveS (leastM key) p per []=runS (leastM key) p per f t
 fuel:mu p t<=f
 inv:Inv (leastM key) p t
 rj:aiE p key t
 row:wr.ownsRow w1.heap.size 64 3 (.slice A t.out.length c) t.out.length (t.out.flatMap Sn.cs)
 br:afP wr w.heap.size 4 w.heap.size p.length (dnB t.out)
 bel:Below w.heap.size w1 wr
theorem awD {w w':World} {o o2:Obj} {base base2:Nat} {e:TypeId} {size n:Nat} {v:Value} {xs:List Value} {g m c:Nat} (h:w.ownsRow base2 e size v n xs) (hg:((w.alloc o).alloc o2).grownBy w' v.ownBlock) (he:(Value.slice (some ⟨base,0,none⟩) m c).ownBlock=some g) (hl:base<w.heap.size) (hb:base<base2):w'.heap[g]?=w.heap[g]?:=by
 simp only [Value.ownBlock,zAC] at he
 subst he
 rw [hg.block base zA7 (λe=>by have:=zH h base e.symm;omega),zAr (w.alloc o) o2 base zA7,zAr w o base hl]
theorem azJ {w w':World} {x y z:Value} {T:TypeId} {o2:Obj} {base2:Nat} {e:TypeId} {size n:Nat} {v:Value} {xs:List Value} {base:Nat} (h:w.ownsRow base2 e size v n xs) (hg:((w.alloc (.cells #[x,y,z] T)).alloc o2).grownBy w' v.ownBlock) (hl:base<w.heap.size) (k:Nat):(w'.setCell ⟨base,k,none⟩ (.bool true)).cell? ⟨w.heap.size,2,none⟩=some z:=by
 have b:Blk w' w.heap.size T #[x,y,z]:=aaV hg (xQ h)
 exact (b.far (p:=⟨base,k,none⟩) zBc (.bool true)).cell 2
theorem auE {acc:List Sn} {k:Nat} {x:Sn} (hx:x.p=k):(λj=>dnB acc j||k==j)=dnB (acc++[x]):=by
 funext j
 rw [aeA,hx]
 congr 1
 rw [Bool.eq_iff_iff,beq_iff_eq,beq_iff_eq]
 omega
set_option maxHeartbeats 8000000 in
theorem abX (A A':Option Addr) (c c':Nat) (p:List Pk) (per:Int) (keys:List Int) (w:World) (B:Nat) (hB:B<=w.heap.size) (h:RdP w B A p) (h':RdI w B A' keys) (hp:∀x∈p,zg x) (hs:p.Pairwise (λx y=>x.a<=y.a)) (hl:p.length<=300) (h0:1<=per) (h1:per<=1000) (hk:keys.length=p.length):
 Calls Tryz.prog 84 #[.slice A p.length c,.int .i64 per,.slice A' keys.length c'] w (vI Sn.cs 3 64 (xR p per (keyOf keys)) w):=by
 obtain ⟨i1,hi1,hy0,hy1,hy2⟩:=info_parts atP
 obtain ⟨i2,hi2,hx0,hx1,hx2⟩:=info_parts akX
 have Hk:=zL hk
 clear hk
 go_enter Tryz.func84,Tryz.ntmps84
 go_wp2_with (at_make;refine wpList_make_full _ rfl (.tmp 15) (.tmp 15) 150 rfl w.heap.size 4 i1 (.bool false) 1 Tryz.underlying150 hi1 hy0 hy1 .i64 .i64 p.length p.length p.length rfl rfl rfl rfl (by rw [hy2];omega) zA2 (zD _) ?_;intro w1 row1 g1;rw [boolRow_new] at row1;have k1:Below w.heap.size w w1:=(zAA _ _).grown g1 (zD _) zA1;have s1:w.heap.size<w1.heap.size:=xQ row1 _ rfl)
 go_loopw [7,9] (λv nw wr=>∃(f:Nat) (t:St (List Nat)) (A5:Option Addr) (c5:Nat),v=.slice A5 t.out.length c5/\nw=.int .i64 t.now/\a4B p per (keyOf keys) w w1 f t A5 c5 wr) (λv nw _=>muV p (lenOf v) (intOf nw))
 case atStart=>exact ⟨_,⟨[],0,0,[]⟩,none,0,rfl,rfl,⟨rfl,uI p [],abW p _,⟨λj hj=>by simp at hj,λi hi=>by simp at hi⟩,⟨by simp,.inl ⟨rfl,rfl⟩⟩,row1,zAA _ _⟩⟩
 case round=>
  obtain ⟨f,t,A5,c5,rfl,rfl,hR⟩:=hrel
  obtain ⟨wo,rfl⟩:∃wo:World,wo=wr:=⟨_,rfl⟩
  have kw:=k1.trans hR.bel
  have n0:=hR.inv.now0
  have n1:=hR.inv.now1
  have zo:=hR.bel.size
  by_cases hlt:t.out.length<p.length
  ·go_wp2_with fail
   go_loopw [10,11,12] (λbv fv iv wr=>∃(i m:Nat) (best first:Int),i<=p.length/\iv=.int .i64 i/\bv=.int .i64 best/\fv=.int .i64 first/\xN p (keyOf keys) t.now t.out i best/\vC t.out i first/\wr=wo.drewN m) (λ_ _ iv _=>p.length - (intOf iv).toNat)
   case atStart=>exact ⟨0,0,-1,-1,zAK _,rfl,rfl,rfl,a0U,aw4,rfl⟩
   case round=>
    obtain ⟨i,m,best,first,hi,rfl,rfl,rfl,hb,hf,rfl⟩:=hrel
    have HB:=zL hb
    have HF:=zL hf
    clear hb hf
    by_cases hil:i<p.length
    ·obtain ⟨b,o,rfl,hbb,d0,d1,d2⟩:=RdP.get (h.below (kw.mono hB)) hil
     have b0:=hR.br.cell hil
     have q1:(0:Int)<=(i:Int):=zO
     have q2:(i:Int)<(p.length:Int):=zO
     cases hd:dnB t.out i with
     |true=>
      rw [hd] at b0
      have HB':=zL (HB.o.skip (.inl hd))
      have HF':=zL (HF.o.skip (.inl hd))
      clear hd
      go_wp2_with fail
      go_roundw
      case rel=>exact ⟨i+1,m,best,first,hil,by go_num,rfl,rfl,HB'.out,HF'.out,rfl⟩
      case measure=>simp [intOf];omega
     |false=>
      rw [hd] at b0
      by_cases hf0:first<0
      ·have HF':=zL (HF.o.zU hd hf0)
       by_cases ha:p[i].a<=t.now
       ·by_cases hb0:best<0
        ·have HB':=zL (HB.o.zU hd (by rw [zy hil];exact ha) (.inl hb0))
         exact zEF
        ·have hb1:=HB.o.lt
         obtain ⟨bb,rfl⟩:∃bb:Nat,best=bb:=⟨best.toNat,by omega⟩
         have hbl:bb<keys.length:=by rw [Hk.o];omega
         have hikl:i<keys.length:=by rw [Hk.o];exact hil
         obtain ⟨kb,ko,hA',hkb,e0⟩:=RdI.get (h'.below (kw.mono hB)) hikl
         obtain ⟨kb2,ko2,he,hkb2,e1⟩:=RdI.get (h'.below (kw.mono hB)) hbl
         rw [hA'] at he
         simp only [zAC,zAS,and_true] at he
         obtain ⟨rfl,rfl⟩:=he
         subst hA'
         have r1:(0:Int)<=(bb:Int):=zO
         have r2:(bb:Int)<(keys.length:Int):=zO
         have r3:(i:Int)<(keys.length:Int):=zO
         clear hb0 hb1
         by_cases hkk:keys[i]<keys[bb]
         ·have HB':=zL (HB.o.zU hd (by rw [zy hil];exact ha) (.inr ⟨zAf _,by rw [zAX,jk hikl,jk hbl];exact hkk⟩))
          exact zEF
         ·have hkk2:keys[bb]<=keys[i]:=by omega
          have HB':=zL (HB.o.keep (zAf _) (by rw [zAX,jk hikl,jk hbl];exact hkk2))
          clear hd hkk
          go_wp2_with fail
          go_quiet (fail)
          go_wp2_with fail
          go_roundw
          case rel=>exact ⟨i+1,_,bb,i,hil,by go_num,rfl,rfl,HB'.out,HF'.out,rfl⟩
          case measure=>simp [intOf];omega
       ·have ha2:t.now<p[i].a:=by omega
        have ha3:decide (p[i].a<=t.now)=false:=zAH ha
        have HB':=zL (HB.o.skip (.inr (by rw [zy hil];exact ha2)))
        clear hd ha
        go_wp2_with fail
        go_quiet (fail)
        go_wp2_with fail
        go_roundw
        case rel=>exact ⟨i+1,_,best,i,hil,by go_num,rfl,rfl,HB'.out,HF'.out,rfl⟩
        case measure=>simp [intOf];omega
      ·have hf1:0<=first:=by omega
       have HF':=zL (HF.o.skip (.inr hf1))
       clear hf0
       by_cases ha:p[i].a<=t.now
       ·by_cases hb0:best<0
        ·have HB':=zL (HB.o.zU hd (by rw [zy hil];exact ha) (.inl hb0))
         exact zEE
        ·have hb1:=HB.o.lt
         obtain ⟨bb,rfl⟩:∃bb:Nat,best=bb:=⟨best.toNat,by omega⟩
         have hbl:bb<keys.length:=by rw [Hk.o];omega
         have hikl:i<keys.length:=by rw [Hk.o];exact hil
         obtain ⟨kb,ko,hA',hkb,e0⟩:=RdI.get (h'.below (kw.mono hB)) hikl
         obtain ⟨kb2,ko2,he,hkb2,e1⟩:=RdI.get (h'.below (kw.mono hB)) hbl
         rw [hA'] at he
         simp only [zAC,zAS,and_true] at he
         obtain ⟨rfl,rfl⟩:=he
         subst hA'
         have r1:(0:Int)<=(bb:Int):=zO
         have r2:(bb:Int)<(keys.length:Int):=zO
         have r3:(i:Int)<(keys.length:Int):=zO
         clear hb0 hb1
         by_cases hkk:keys[i]<keys[bb]
         ·have HB':=zL (HB.o.zU hd (by rw [zy hil];exact ha) (.inr ⟨zAf _,by rw [zAX,jk hikl,jk hbl];exact hkk⟩))
          exact zEE
         ·have hkk2:keys[bb]<=keys[i]:=by omega
          have HB':=zL (HB.o.keep (zAf _) (by rw [zAX,jk hikl,jk hbl];exact hkk2))
          clear hd hkk
          go_wp2_with fail
          go_quiet (fail)
          go_wp2_with fail
          go_roundw
          case rel=>exact ⟨i+1,_,bb,first,hil,by go_num,rfl,rfl,HB'.out,HF'.out,rfl⟩
          case measure=>simp [intOf];omega
       ·have ha2:t.now<p[i].a:=by omega
        have ha3:decide (p[i].a<=t.now)=false:=zAH ha
        have HB':=zL (HB.o.skip (.inr (by rw [zy hil];exact ha2)))
        clear hd ha
        go_wp2_with fail
        go_quiet (fail)
        go_wp2_with fail
        go_roundw
        case rel=>exact ⟨i+1,_,best,first,hil,by go_num,rfl,rfl,HB'.out,HF'.out,rfl⟩
        case measure=>simp [intOf];omega
    ·have hie:i=p.length:=by omega
     subst hie
     have hrun:=jU (leastM (keyOf keys)) p per f t hlt hR.fuel
     have hstep:=kF (xu (keyOf keys) p.length) hp h0 h1 hR.inv hlt
     have hrj:=ajA hp hs h0 t hR.inv hlt hR.rj
     obtain ⟨wv,hwv⟩:∃wv:World,wv=wo.drewN m:=⟨_,rfl⟩
     have rowv:wv.ownsRow w1.heap.size 64 3 (.slice A5 t.out.length c5) t.out.length (t.out.flatMap Sn.cs):=by rw [hwv];exact hR.row
     have brv:afP wv w.heap.size 4 w.heap.size p.length (dnB t.out):=by rw [hwv];exact hR.br
     have belv:Below w.heap.size w1 wv:=by rw [hwv];exact below_drewN hR.bel m
     rw [<-hwv]
     clear hwv
     have kv:=k1.trans belv
     have zv:=belv.size
     by_cases hbn:best<0
     ·obtain ⟨f2,n2,s2,hfe,hf2,e2⟩:=alN hs hR.inv hR.rj hlt HB.o HF.o hbn
      subst hfe
      rw [e2] at hrun hstep hrj
      obtain ⟨b,o,rfl,hbb,d0,d1,d2⟩:=RdP.get (h.below (kv.mono hB)) hf2
      have q1:(0:Int)<=(f2:Int):=zO
      have q2:(f2:Int)<(p.length:Int):=zO
      have Hrun:=zL hrun
      have Hstep:=zL hstep
      have Hrj:=zL hrj
      clear hrun hstep hrj e2 hil
      go_wp2_with fail
      go_roundw
      case rel=>exact ⟨f - 1,⟨t.out,aOf p f2,n2,s2⟩,A5,c5,rfl,by rw [zy hf2],⟨hR.run.trans Hrun.o,by have:=Hstep.o.2;have:=hR.fuel;omega,Hstep.o.1,Hrj.o,rowv,brv,belv⟩⟩
      case measure=>
       have h9:=Hstep.o.2
       unfold mu at h9
       simp only [zy hf2] at h9
       exact h9
     ·obtain ⟨k,n2,s2,hbe,hkl,hdk,e2⟩:=alM (per:=per) hs hR.inv hR.rj HB.o zO
      subst hbe
      rw [e2,yA hkl] at hrun hstep hrj
      obtain ⟨b,o,rfl,hbb,d0,d1,d2⟩:=RdP.get (h.below (kv.mono hB)) hkl
      have hokk:=hp _ (zd hkl)
      have m1:0<=per*p[k].s:=zAY zO (by have:=hokk.2.2.1;omega)
      have m2:per*p[k].s<=1500000:=by
       have:=Int.mul_le_mul h1 hokk.2.2.2.1 (by have:=hokk.2.2.1;omega) (by omega:(0:Int)<=1000)
       omega
      obtain ⟨x,hx⟩:∃x:Sn,x=⟨k,t.now,t.now+per*p[k].s⟩:=⟨_,rfl⟩
      rw [<-hx] at hrun hstep hrj
      obtain ⟨out',ho⟩:∃out',out'=t.out++[x]:=⟨_,rfl⟩
      rw [<-ho] at hrun hstep hrj
      have Hx:=zL hx
      have Ho:=zL ho
      have Hrun:=zL hrun
      have Hstep:=zL hstep
      have Hrj:=zL hrj
      have hq3:t.out.length+[x].length<=maxLen:=zA8
      have hq4:(t.out.length+[x].length)*24<=140737488355328:=zBF
      have hq5:w1.heap.size<=((wv.alloc (.cells #[.int .i64 k,.int .i64 t.now,.int .i64 (t.now+per*p[k].s)] 64)).alloc (.cells #[.int .i64 k,.int .i64 t.now,.int .i64 (t.now+per*p[k].s)] 64)).heap.size:=zA7
      have hgl:w.heap.size<wv.heap.size:=xQ brv _ rfl
      have q1:(0:Int)<=(k:Int):=zO
      have q2:(k:Int)<(p.length:Int):=zO
      have Row:=zL rowv
      have Br:=zL brv
      clear hrun hstep hrj e2 hil hbn hx ho hdk hokk rowv brv
      go_wp2_with (at_builtin;refine qd _ Sn.cs rfl (.tmp 77) (.tmp 79) 60 rfl w1.heap.size 64 i2 (.agg #[.int .i64 0,.int .i64 0,.int .i64 0]) 3 24 Tryz.underlying60 hi2 hx0 hx1 hx2 rfl zO Sn.qw Sn.qV (.slice A5 t.out.length c5) t.out.length (t.out.flatMap Sn.cs) rfl ((Row.o.alloc _).alloc _) (wv.heap.size+2) (some ⟨wv.heap.size+1,0,none⟩) 1 [x] rfl (Rd.of_block (qN _ _ _) ((zAu (λy=>[y].flatMap Sn.cs) Hx.o).symm) (Nat.lt_succ_self _) zO Sn.qw) hq3 hq4 hq5 ?_;intro v3 w3 row3 g3 at3;obtain ⟨A6,c6,hv6,row3⟩:=qI row3 zO;rw [<-Ho.o] at hv6 row3;have br3:afP w3 w.heap.size 4 w.heap.size p.length (dnB t.out):=ym Br.o (λg hg=>awD Row.o g3 hg hgl s1);have c3:=br3.cell hkl;have f3:=br3.frozenAt k;have x3:=azJ Row.o g3 hgl k;rw [hv6];clear hv6)
      have Br3:=zL br3
      clear br3
      have k3:Below w.heap.size wv w3:=ql (((zAA _ _).alloc zO _).alloc zA7 _) ((Row.o.alloc _).alloc _) g3 (Nat.le_of_lt s1) zA7
      go_roundw
      case rel=>exact ⟨f - 1,⟨out',t.now+per*p[k].s,n2,s2⟩,A6,c6,rfl,rfl,⟨hR.run.trans Hrun.o,by have:=Hstep.o.2;have:=hR.fuel;omega,Hstep.o.1,Hrj.o,ownsRow_setCell_other row3 (λe=>by have:=zH row3 _ e;simp at this;omega) _,by have h9:=Br3.o.qi k;rw [auE (x:=x) (by rw [Hx.o]),<-Ho.o] at h9;exact h9,(belv.trans k3).setCell (p:=⟨w.heap.size,k,none⟩) (zD _) _⟩⟩
      case measure=>exact Hstep.o.2
  ·have e:=zL (hR.run.trans (acB _ p per f t hlt))
   go_wp2_with fail
   go_ret
   refine ⟨A5,c5,?_,?_,kw⟩
   ·rw [show xR p per (keyOf keys)=t.out by unfold xR;rw [e.o]];rfl
   ·rw [show xR p per (keyOf keys)=t.out by unfold xR;rw [e.o]];exact qO hR.row k1.size
theorem atH (n:Nat):keyOf (List.replicate n 0)=λ_=>0:=by
 funext k
 unfold keyOf
 by_cases h:k<n
 ·simp [List.getD,h]
 ·simp [List.getD,h]
set_option maxHeartbeats 1000000 in
theorem apK (A:Option Addr) (c:Nat) (p:List Pk) (per:Int) (w:World) (B:Nat) (hB:B<=w.heap.size) (h:RdP w B A p) (hp:∀x∈p,zg x) (hs:p.Pairwise (λx y=>x.a<=y.a)) (hl:p.length<=300) (h0:1<=per) (h1:per<=1000):
 Calls Tryz.prog 61 #[.slice A p.length c,.int .i64 per] w (vI Sn.cs 3 64 (af5 p per) w):=by
 obtain ⟨i0,hi0,hz0,hz1,hz2⟩:=info_parts wO
 have He:=zM (af5 p per=xR p per (keyOf (List.replicate p.length 0))) (by rw [atH,aw6 hp h0 h1,amB hp hs h0 h1])
 go_enter Tryz.func61,Tryz.ntmps61
 go_wp2_with (at_make;refine wpList_make_full _ rfl (.tmp 8) (.tmp 8) 27 rfl w.heap.size 3 i0 (.int .i64 0) 1 Tryz.underlying27 hi0 hz0 hz1 .i64 .i64 p.length p.length p.length rfl rfl rfl rfl (by rw [hz2];omega) zA2 (zD _) ?_;intro w1 row1 g1;have k1:Below w.heap.size w w1:=(zAA _ _).grown g1 (zD _) zA1)
 have e0:(madeCells (Value.cells (.int .i64 0)) (p.length*1)).toList=(List.replicate p.length (0:Int)).flatMap iCs:=by
  rw [show Value.cells (.int .i64 0)=#[.int .i64 0] from rfl,toList_madeCells_one,Nat.mul_one]
  generalize p.length=n
  induction n with
  |zero=>rfl
  |succ n ih=>rw [List.replicate_succ,List.replicate_succ,ih];rfl
 rw [e0] at row1
 have elen:(List.replicate p.length (0:Int)).length=p.length:=List.length_replicate
 have r1:RdI w1 w1.heap.size (some ⟨w.heap.size,0,none⟩) (List.replicate p.length (0:Int)):=Rd.qA (base:=w.heap.size) (e:=3) (c:=p.length) (by rw [elen];exact row1) zO yJ
 have HC:=abX A (some ⟨w.heap.size,0,none⟩) c p.length p per (List.replicate p.length 0) w1 _ (zD _) ((h.below (k1.mono hB)).more (zAB hB k1.size)) r1 hp hs hl h0 h1 elen
 rw [elen] at HC
 refine HC.mono ?_
 rintro e w2 ⟨A2,c2,rfl,row2,k2⟩
 go_wp2_with fail
 go_ret
 rw [He.o]
 exact ⟨A2,c2,rfl,qO row2 k1.size,k1.trans (k2.mono k1.size)⟩
theorem ajP (f:Nat->Int) (n k:Nat) (h:k<n):keyOf ((List.range n).map f) k=f k:=by simp [keyOf,List.getD,h]
theorem am7 {key key':Nat->Int} (s:List Nat) (h:∀k∈s,key k=key' k):bestI key s=bestI key' s:=by
 unfold bestI
 cases s with
 |nil=>rfl
 |cons x r=>
  show xy key 0 (key x) 0 (x::r)=xy key' 0 (key' x) 0 (x::r)
  rw [ak5 (x::r) (x::r) h,h x zAD]
theorem amW (key key':Nat->Int) (now:Int) (r:List Pk) (k:Nat) (s:List Nat):comeL (leastM key) now r k s=comeL (leastM key') now r k s:=zFD
theorem anS {p:List Pk} {per:Int} {key key':Nat->Int} (h:∀k,k<p.length->key k=key' k) (t:St (List Nat)) (hi:Inv (leastM key) p t):yG (leastM key) p per t=yG (leastM key') p per t:=by
 obtain ⟨hc,_⟩:=yF (xu key _) t.now (p.drop t.next) t.next t.s rfl hi.toC
 have e:=amW key key' t.now (p.drop t.next) t.next t.s
 unfold yG
 rw [<-e]
 generalize comeL (leastM key) t.now (p.drop t.next) t.next t.s=q at hc
 have hb:bestI key q.2=bestI key' q.2:=am7 q.2 λk hk=>h k (zAG (hc.ab8 hk) hc.k_le)
 have hp:(leastM key).pick q.2=(leastM key').pick q.2:=by
  show (if q.2.length=0 then none else some (q.2.getD (bestI key q.2) 0,q.2.eraseIdx (bestI key q.2)))=(if q.2.length=0 then none else some (q.2.getD (bestI key' q.2) 0,q.2.eraseIdx (bestI key' q.2)))
  rw [hb]
 rw [hp]
 rfl
theorem adW {p:List Pk} {per:Int} {key key':Nat->Int} (hp:∀x∈p,zg x) (h0:1<=per) (h1:per<=1000) (h:∀k,k<p.length->key k=key' k):xR p per key=xR p per key':=by
 have main:∀(f:Nat) (t:St (List Nat)),Inv (leastM key) p t->runS (leastM key) p per f t=runS (leastM key') p per f t:=λf=>by
  induction f with
  |zero=>exact λ_ _=>rfl
  |succ f ih=>
   intro t hi
   unfold runS
   by_cases hlt:t.out.length<p.length
   ·rw [zp hlt,zp hlt,<-anS h t hi]
    exact ih _ (kF (xu key _) hp h0 h1 hi hlt).1
   ·rw [z6 hlt,z6 hlt]
 unfold xR serveS
 rw [main _ _ (abW p key)]
def abT (p:List Pk) (ranks:List Int):List Int:=(List.range p.length).map (xO p ranks)
def ad9 (p:List Pk) (dues:List Int):List Int:=(List.range p.length).map (vH p dues)
theorem ag5 (f:Nat->Int) (k:Nat):((List.range k).map f).flatMap iCs++[f k].flatMap iCs=((List.range (k+1)).map f).flatMap iCs:=by
 rw [List.range_succ,List.map_append,List.flatMap_append]
 rfl
set_option maxHeartbeats 2000000 in
theorem aoD (A A':Option Addr) (c c':Nat) (p:List Pk) (per:Int) (ranks:List Int) (w:World) (B:Nat) (hB:B<=w.heap.size) (h:RdP w B A p) (h':RdI w B A' ranks) (hp:∀x∈p,zg x) (hs:p.Pairwise (λx y=>x.a<=y.a)) (hl:p.length<=300) (h0:1<=per) (h1:per<=1000) (h8:ranks.length=8):
 Calls Tryz.prog 57 #[.slice A p.length c,.int .i64 per,.slice A' ranks.length c'] w (vI Sn.cs 3 64 (xR p per (xO p ranks)) w):=by
 obtain ⟨i0,hi0,hz0,hz1,hz2⟩:=info_parts wO
 have H8:=zL h8
 have He:=zL (adW (key:=keyOf (abT p ranks)) (key':=xO p ranks) hp h0 h1 λk hk=>ajP _ _ _ hk)
 clear h8
 go_enter Tryz.func57,Tryz.ntmps57
 go_wp2_with fail
 go_loopw [7,8] (λv iv wr=>∃(k:Nat) (A5:Option Addr) (c5:Nat),k<=p.length/\v=.slice A5 k c5/\iv=.int .i64 k/\wr.ownsRow w.heap.size 3 1 (.slice A5 k c5) k (((List.range k).map (xO p ranks)).flatMap iCs)/\Below w.heap.size w wr) (λ_ iv _=>p.length - (intOf iv).toNat)
 case atStart=>exact ⟨0,none,0,zAK _,rfl,rfl,⟨by simp,.inl ⟨rfl,by simp⟩⟩,zAA _ _⟩
 case round=>
  obtain ⟨k,A5,c5,hk,rfl,rfl,row,hbw⟩:=hrel
  have zw:=hbw.size
  have Row:=zL row
  clear row
  by_cases hlt:k<p.length
  ·obtain ⟨b,o,rfl,hb,d0,d1,d2⟩:=RdP.get (h.below (hbw.mono hB)) hlt
   have hok:=hp _ (zd hlt)
   obtain ⟨f,hf⟩:∃f:Nat,p[k].f=f:=⟨p[k].f.toNat,by have:=hok.1;omega⟩
   have hfl:f<ranks.length:=by rw [H8.o];have:=hok.2.1;omega
   obtain ⟨b',o',rfl,hb',e0⟩:=RdI.get (h'.below (hbw.mono hB)) hfl
   rw [hf] at d0
   obtain ⟨x,hx⟩:∃x,x=ranks[f]:=⟨_,rfl⟩
   have Hx:=zM (xO p ranks k=x) (by rw [hx];unfold xO;rw [vR hlt,hf,zAX];simp [List.getD,hfl])
   rw [<-hx] at e0
   have q1:(0:Int)<=(f:Int):=zO
   have q2:(f:Int)<(ranks.length:Int):=zO
   have q3:(0:Int)<=(k:Int):=zO
   have q4:(k:Int)<(p.length:Int):=zO
   have hq5:k+[x].length<=maxLen:=zA8
   have hq6:(k+[x].length)*8<=140737488355328:=zBF
   have hq7:w.heap.size<=(wr.alloc (.cells #[.int .i64 x] 3)).heap.size:=zA7
   clear hok hf hx
   go_wp2_with (at_builtin;refine qd _ iCs rfl (.tmp 15) (.tmp 24) 27 rfl w.heap.size 3 i0 (.int .i64 0) 1 8 Tryz.underlying27 hi0 hz0 hz1 hz2 rfl zO yJ acF (.slice A5 k c5) k (((List.range k).map (xO p ranks)).flatMap iCs) rfl (Row.o.alloc _) (wr.heap.size+1) (some ⟨wr.heap.size,0,none⟩) 1 [x] rfl (Rd.zU rfl zO yJ) hq5 hq6 hq7 ?_;intro v3 w3 row3 g3 at3;obtain ⟨A6,c6,hv6,row6⟩:=acZ (m:=k+1) (ys:=((List.range (k+1)).map (xO p ranks)).flatMap iCs) row3 rfl (by rw [<-Hx.o];exact ag5 _ k);rw [hv6];clear hv6)
   have k3:Below w.heap.size w w3:=ql (hbw.alloc zw _) (Row.o.alloc _) g3 (zD _) hq7
   go_roundw
   case rel=>exact ⟨k+1,A6,c6,hlt,rfl,by go_num,row6,k3⟩
   case measure=>simp [intOf];omega
  ·have hk2:k=p.length:=by omega
   subst hk2
   have ek:(abT p ranks).length=p.length:=by simp [abT]
   have hr:RdI wr wr.heap.size A5 (abT p ranks):=Rd.qA (base:=w.heap.size) (e:=3) (c:=c5) (by rw [ek];exact Row.o) zO yJ
   have HC:=abX A A5 c c5 p per (abT p ranks) wr _ (zD _) ((h.below (hbw.mono hB)).more (zAB hB zw)) hr hp hs hl h0 h1 ek
   exact zEQ
set_option maxHeartbeats 2000000 in
theorem apP (A A':Option Addr) (c c':Nat) (p:List Pk) (per:Int) (dues:List Int) (w:World) (B:Nat) (hB:B<=w.heap.size) (h:RdP w B A p) (h':RdI w B A' dues) (hp:∀x∈p,zg x) (hs:p.Pairwise (λx y=>x.a<=y.a)) (hl:p.length<=300) (h0:1<=per) (h1:per<=1000) (h8:dues.length=8) (hdu:∀n∈dues,0<=n/\n<=1099511627776):
 Calls Tryz.prog 58 #[.slice A p.length c,.int .i64 per,.slice A' dues.length c'] w (vI Sn.cs 3 64 (xR p per (vH p dues)) w):=by
 obtain ⟨i0,hi0,hz0,hz1,hz2⟩:=info_parts wO
 have H8:=zL h8
 have He:=zL (adW (key:=keyOf (ad9 p dues)) (key':=vH p dues) hp h0 h1 λk hk=>ajP _ _ _ hk)
 clear h8
 go_enter Tryz.func58,Tryz.ntmps58
 go_wp2_with fail
 go_loopw [7,8] (λv iv wr=>∃(k:Nat) (A5:Option Addr) (c5:Nat),k<=p.length/\v=.slice A5 k c5/\iv=.int .i64 k/\wr.ownsRow w.heap.size 3 1 (.slice A5 k c5) k (((List.range k).map (vH p dues)).flatMap iCs)/\Below w.heap.size w wr) (λ_ iv _=>p.length - (intOf iv).toNat)
 case atStart=>exact ⟨0,none,0,zAK _,rfl,rfl,⟨by simp,.inl ⟨rfl,by simp⟩⟩,zAA _ _⟩
 case round=>
  obtain ⟨k,A5,c5,hk,rfl,rfl,row,hbw⟩:=hrel
  have zw:=hbw.size
  have Row:=zL row
  clear row
  by_cases hlt:k<p.length
  ·obtain ⟨b,o,rfl,hb,d0,d1,d2⟩:=RdP.get (h.below (hbw.mono hB)) hlt
   have hok:=hp _ (zd hlt)
   obtain ⟨f,hf⟩:∃f:Nat,p[k].f=f:=⟨p[k].f.toNat,by have:=hok.1;omega⟩
   have hfl:f<dues.length:=by rw [H8.o];have:=hok.2.1;omega
   obtain ⟨b',o',rfl,hb',e0⟩:=RdI.get (h'.below (hbw.mono hB)) hfl
   rw [hf] at d0
   obtain ⟨t31,t32⟩:=hdu _ (zd hfl)
   obtain ⟨_,_,_,_,t1,t2⟩:=hok
   have hwr:IntKind.i64.wrap (p[k].a+dues[f])=p[k].a+dues[f]:=zBD
   have Hx:=zM (vH p dues k=IntKind.i64.wrap (p[k].a+dues[f])) (by rw [hwr];unfold vH;rw [zy hlt,vR hlt,hf,zAX];simp [List.getD,hfl])
   have q1:(0:Int)<=(f:Int):=zO
   have q2:(f:Int)<(dues.length:Int):=zO
   have q3:(0:Int)<=(k:Int):=zO
   have q4:(k:Int)<(p.length:Int):=zO
   have hq5:k+1<=maxLen:=zA2
   have hq6:(k+1)*8<=140737488355328:=zO
   have hq7:w.heap.size<=(wr.alloc (.cells #[.int .i64 (IntKind.i64.wrap (p[k].a+dues[f]))] 3)).heap.size:=zA7
   have hnew:Rd (wr.alloc (.cells #[.int .i64 (IntKind.i64.wrap (p[k].a+dues[f]))] 3)) (wr.heap.size+1) 1 iCs (some ⟨wr.heap.size,0,none⟩) [IntKind.i64.wrap (p[k].a+dues[f])]:=Rd.zU rfl Nat.one_pos yJ
   have Hrow2:=Row.o.alloc (.cells #[.int .i64 (IntKind.i64.wrap (p[k].a+dues[f]))] 3)
   clear hf hwr
   go_wp2_with fail
   go_region_law (refine yx _ iCs rfl (.tmp 15) (.tmp 30) 27 rfl w.heap.size 3 i0 (.int .i64 0) 1 8 Tryz.underlying27 hi0 hz0 hz1 hz2 rfl Nat.one_pos yJ acF (.slice A5 k c5) k (((List.range k).map (vH p dues)).flatMap iCs) rfl Hrow2 (wr.heap.size+1) (some ⟨wr.heap.size,0,none⟩) 1 [IntKind.i64.wrap (p[k].a+dues[f])] rfl hnew hq5 hq6 hq7 ?_;intro v3 w3 row3 g3 at3)
   all_goals
    obtain ⟨A6,c6,hv6,row6⟩:=acZ (m:=k+1) (ys:=((List.range (k+1)).map (vH p dues)).flatMap iCs) row3 rfl (by rw [<-Hx.o];exact ag5 _ k)
    rw [hv6]
    clear hv6 row3
    have k3:=ql (((hbw.alloc zw (.cells #[.int .i64 (IntKind.i64.wrap (p[k].a+dues[f]))] 3))).drew) Hrow2.drew g3 (zD _) hq7
    go_wp2_with fail
    go_roundw
    case rel=>exact ⟨k+1,A6,c6,hlt,by go_num,by go_num,row6,k3⟩
    case measure=>simp [intOf];omega
  ·have hk2:k=p.length:=by omega
   subst hk2
   have ek:(ad9 p dues).length=p.length:=by simp [ad9]
   have hr:RdI wr wr.heap.size A5 (ad9 p dues):=Rd.qA (base:=w.heap.size) (e:=3) (c:=c5) (by rw [ek];exact Row.o) zO yJ
   have HC:=abX A A5 c c5 p per (ad9 p dues) wr _ (zD _) ((h.below (hbw.mono hB)).more (zAB hB zw)) hr hp hs hl h0 h1 ek
   exact zEQ
theorem arG {l l':List Nat} (h:l.Pairwise (·< ·)) (h':l'.Pairwise (·< ·)) (hm:∀j,j∈l ↔ j∈l'):l=l':=by
 induction l generalizing l' with
 |nil=>
  cases l' with
  |nil=>rfl
  |cons y r=>exact zAv ((hm y).2 zAD) zA1
 |cons x r ih=>
  cases l' with
  |nil=>exact zAv ((hm x).1 zAD) zA1
  |cons y r'=>
   obtain ⟨h1,h2⟩:=zAd.1 h
   obtain ⟨h3,h4⟩:=zAd.1 h'
   have hxy:x=y:=by
    rcases zAM.1 ((hm x).1 zAD) with e|e
    ·exact e
    ·rcases zAM.1 ((hm y).2 zAD) with e'|e'
     ·exact e'.symm
     ·have:=h1 y e';have:=h3 x e;omega
   subst hxy
   congr 1
   refine ih h2 h4 λj=>⟨λhj=>?_,λhj=>?_⟩
   ·rcases zAM.1 ((hm j).1 (zAJ _ hj)) with e|e
    ·have:=h1 j hj;omega
    ·exact e
   ·rcases zAM.1 ((hm j).2 (zAJ _ hj)) with e|e
    ·have:=h3 j hj;omega
    ·exact e
def ku (p:List Pk) (d:Nat->Bool) (g:Nat) (now:Int) (j:Nat):Bool:=decide (flN p j=g)&&(!d j&&decide (aOf p j<=now))
def afS (p:List Pk) (d:Nat->Bool) (g:Nat) (now:Int):List Nat:=(List.range p.length).filter (ku p d g now)
theorem aiX {p:List Pk} {d:Nat->Bool} {g:Nat} {now:Int} {j:Nat}:j∈afS p d g now ↔ j<p.length/\flN p j=g/\d j=false/\aOf p j<=now:=by
 unfold afS ku
 rw [List.mem_filter,List.mem_range]
 simp
theorem aiY (p:List Pk) (d:Nat->Bool) (g:Nat) (now:Int):(afS p d g now).Pairwise (·< ·):=List.Pairwise.filter _ List.pairwise_lt_range
theorem ajI {s:RS} {j:Nat}:j∈wX s ↔ ∃g,g<8/\j∈s.q g:=by
 unfold wX
 rw [List.mem_flatMap]
 exact ⟨λ⟨g,h1,h2⟩=>⟨g,List.mem_range.1 h1,h2⟩,λ⟨g,h1,h2⟩=>⟨g,List.mem_range.2 h1,h2⟩⟩
section
variable {p:List Pk} {qs:List Int} {m:Nat} {s:RS} {d:Nat->Bool} {now:Int}
theorem au2 (h:RI p qs m s) (hw:∀j,j<p.length->(j∈wX s ↔ (d j=false/\aOf p j<=now))) {g:Nat} (hg:g<8):afS p d g now=s.q g:=by
 refine arG (aiY _ _ _ _) (h.so g) λj=>?_
 rw [aiX]
 refine ⟨λ⟨h1,h2,h3,h4⟩=>?_,λhj=>?_⟩
 ·obtain ⟨g',_,h5⟩:=ajI.1 ((hw j h1).2 ⟨h3,h4⟩)
  have:=(h.fl g' j h5).2
  rw [<-h2,this]
  exact h5
 ·obtain ⟨h1,h2⟩:=h.fl g j hj
  have hl:j<p.length:=zCt
  exact ⟨hl,h2,(hw j hl).1 (ajI.2 ⟨g,hg,hj⟩)⟩
theorem arQ (h:RI p qs m s) (hw:∀j,j<p.length->(j∈wX s ↔ (d j=false/\aOf p j<=now))) {g k:Nat} {r:List Nat} (hg:g<8) (hk:s.q g=k::r) {d':Nat->Bool} (hd:∀j,d' j=(d j||(k==j))):afS p d' g now=r:=by
 have hso:=h.so g
 rw [hk] at hso
 obtain ⟨h1,h2⟩:=zAd.1 hso
 refine arG (aiY _ _ _ _) h2 λj=>?_
 have hq:=au2 h hw hg
 have hm:j∈k::r ↔ j∈afS p d g now:=by rw [hq,hk]
 rw [aiX] at hm ⊢
 rw [hd,Bool.or_eq_false_iff,beq_eq_false_iff_ne]
 refine ⟨λ⟨a1,a2,⟨a3,a5⟩,a4⟩=>?_,λhj=>?_⟩
 ·rcases zAM.1 (hm.2 ⟨a1,a2,a3,a4⟩) with e|e
  ·exact zAv e.symm a5
  ·exact e
 ·obtain ⟨a1,a2,a3,a4⟩:=hm.1 (zAJ _ hj)
  have:=h1 j hj
  exact ⟨a1,a2,⟨a3,by omega⟩,a4⟩
end
section
variable {p:List Pk} {qs:List Int} {m g:Nat} {s s1:RS}
theorem agJ (hp:∀x∈p,zg x) (hq:∀g,0<=qu qs g) (hq1:∀g,g<8->1<=qu qs g) (h:RI p qs m s) (ht:vM qs s=some (g,s1)) (hc:¬sOf p (yH s1 g)<=s1.c g):RI p qs m (rEnd s1 g)/\rMu (rEnd s1 g)<rMu s:=by
 obtain ⟨h1,h2,h3,h4,h5,h6⟩:=h.turn hq ht
 have h5':s1.q g≠[]:=by rw [h3];exact h5
 have hg:=h1.g8 hp h5'
 have hh:=(h1.head h5').1
 have hk':yH s1 g<p.length:=by have:=h1.le;omega
 have hz:=(hp _ (zd hk')).2.2.2.1
 have hc2:=hc
 rw [yA hk'] at hc2
 exact ⟨(h1.agB h2 hc).1,akN (hq1 g hg) hg ht h2 zO h6⟩
theorem aoH (hp:∀x∈p,zg x) (hq:∀g,0<=qu qs g) (hq1:∀g,g<8->1<=qu qs g) (f:Nat) (s:RS) (h:RI p qs m s) (hf:rMu s<=f):wF p qs (f+1) s=wF p qs f s:=by
 induction f generalizing s with
 |zero=>unfold rMu at hf;omega
 |succ f ih=>
  rw [wF,wF]
  cases ht:vM qs s with
  |none=>rfl
  |some x=>
   obtain ⟨g,s1⟩:=x
   simp only
   by_cases hc:sOf p (yH s1 g)<=s1.c g
   ·rw [zp hc,zp hc]
   ·rw [z6 hc,z6 hc]
    obtain ⟨a1,a2⟩:=agJ hp hq hq1 h ht hc
    exact ih _ a1 zO
theorem aoJ (hp:∀x∈p,zg x) (hq:∀g,0<=qu qs g) (hq1:∀g,g<8->1<=qu qs g) (h:RI p qs m s) (f:Nat) (hf:rMu s<=f):wF p qs f s=wF p qs (rMu s) s:=by
 obtain ⟨n,rfl⟩:∃n,f=rMu s+n:=⟨f - rMu s,by omega⟩
 clear hf
 induction n with
 |zero=>rfl
 |succ n ih=>rw [<-Nat.add_assoc,aoH hp hq hq1 _ s h zO];exact ih
theorem ag7 (s:RS):∃n,rMu s=n+1:=⟨_,rfl⟩
theorem aoI (ht:vM qs s=none):wF p qs (rMu s) s=none:=by
 obtain ⟨n,e⟩:=ag7 s
 rw [e,wF,ht]
theorem asI (ht:vM qs s=some (g,s1)) (hc:sOf p (yH s1 g)<=s1.c g):wF p qs (rMu s) s=some (yH s1 g,wY p s1 g):=by
 obtain ⟨n,e⟩:=ag7 s
 rw [e,wF,ht]
 exact zp hc
theorem asJ (hp:∀x∈p,zg x) (hq:∀g,0<=qu qs g) (hq1:∀g,g<8->1<=qu qs g) (h:RI p qs m s) (ht:vM qs s=some (g,s1)) (hc:¬sOf p (yH s1 g)<=s1.c g):wF p qs (rMu s) s=wF p qs (rMu (rEnd s1 g)) (rEnd s1 g):=by
 obtain ⟨n,e⟩:=ag7 s
 obtain ⟨a1,a2⟩:=agJ hp hq hq1 h ht hc
 have e2:wF p qs (n+1) s=wF p qs n (rEnd s1 g):=by rw [wF,ht];exact z6 hc
 rw [e,e2]
 exact aoJ hp hq hq1 a1 n zO
end
structure aiF (p:List Pk) (per:Int) (qs:List Int) (f:Nat) (t:St RS):Prop where
 run:serveS (yn p qs) p per rs0=runS (yn p qs) p per f t
 fuel:mu p t<=f
 inv:Inv (yn p qs) p t
 cm:∀j,j<t.next->aOf p j<=t.now
section
variable {p:List Pk} {per:Int} {qs:List Int} {f k g:Nat} {t:St RS} {s s1:RS}
theorem aiF.step (hp:∀x∈p,zg x) (hs:p.Pairwise (λx y=>x.a<=y.a)) (h0:1<=per) (h1:per<=1000) (hq:∀g,0<=qu qs g) (hq1:∀g,g<8->1<=qu qs g) (h:aiF p per qs f t) (hlt:t.out.length<p.length):aiF p per qs (f - 1) (yG (yn p qs) p per t)/\mu p (yG (yn p qs) p per t)<mu p t:=by
 have hM:=aa5 hp hq hq1
 obtain ⟨a1,a2⟩:=kF hM hp h0 h1 h.inv hlt
 have hf:=h.fuel
 exact ⟨⟨h.run.trans (jU _ _ _ _ _ hlt h.fuel),by omega,a1,ac2 hM hp hs h0 h.inv hlt h.cm⟩,a2⟩
theorem aiF.fail (hp:∀x∈p,zg x) (hs:p.Pairwise (λx y=>x.a<=y.a)) (hq:∀g,0<=qu qs g) (hq1:∀g,g<8->1<=qu qs g) (h:aiF p per qs f t) (hlt:t.out.length<p.length) (hc:comeL (yn p qs) t.now (p.drop t.next) t.next t.s=(k,s)) (ht:vM qs s=some (g,s1)) (hn:¬sOf p (yH s1 g)<=s1.c g):aiF p per qs f ⟨t.out,t.now,k,rEnd s1 g⟩:=by
 have hM:=aa5 hp hq hq1
 obtain ⟨hci,hlt2⟩:=yF hM t.now (p.drop t.next) t.next t.s rfl h.inv.toC
 have hall:=jZ hM hs h.inv h.cm
 rw [hc] at hci hlt2 hall
 simp only at hci hlt2 hall
 have hri:RI p qs k s:=hci.ok
 obtain ⟨b1,b2⟩:=agJ hp hq hq1 hri ht hn
 obtain ⟨_,_,hqq,_,hne,_⟩:=hri.turn hq ht
 have hrw:wX (rEnd s1 g)=wX s:=by unfold wX rEnd;rw [<-hqq]
 have hpe:(yn p qs).pick s=(yn p qs).pick (rEnd s1 g):=asJ hp hq hq1 hri ht hn
 have hinv:Inv (yn p qs) p ⟨t.out,t.now,k,rEnd s1 g⟩:=⟨hci.k_le,by show ((t.out.map λx=>x.p.toNat)++wX (rEnd s1 g)).Perm (List.range k);rw [hrw];exact hci.perm,h.inv.pos,h.inv.now0,h.inv.now1,b1⟩
 have hc':comeL (yn p qs) t.now (p.drop k) k (rEnd s1 g)=(k,rEnd s1 g):=afE _ p t.now k _ hlt2
 have hst:yG (yn p qs) p per t=yG (yn p qs) p per ⟨t.out,t.now,k,rEnd s1 g⟩:=by
  cases hpk:(yn p qs).pick s with
  |none=>
   have:=acV hp hq hq1 (rMu s) s k hri (zD _) hpk
   have hl:lst s≠[]:=λe=>by
    have:=(hri.mem g).2 hne
    rw [e] at this
    cases this
   exact zAv this hl
  |some x=>
   obtain ⟨j,s'⟩:=x
   have e1:=vS (M:=yn p qs) (p:=p) (per:=per) (t:=t) hc hpk
   have e2:=vS (M:=yn p qs) (p:=p) (per:=per) (t:=⟨t.out,t.now,k,rEnd s1 g⟩) hc' (by rw [<-hpe];exact hpk)
   rw [e1,e2]
 have hfu:=h.fuel
 have hmu:mu p (⟨t.out,t.now,k,rEnd s1 g⟩:St RS)=mu p t:=rfl
 refine ⟨?_,hfu,hinv,λj hj=>?_⟩
 ·rw [h.run,jU _ _ _ _ t hlt hfu,hst]
  exact (jU _ _ _ _ (⟨t.out,t.now,k,rEnd s1 g⟩:St RS) hlt hfu).symm
 ·exact (hall j (zAG hj hci.k_le)).1 hj
theorem aiF.wait (hp:∀x∈p,zg x) (hs:p.Pairwise (λx y=>x.a<=y.a)) (hq:∀g,0<=qu qs g) (hq1:∀g,g<8->1<=qu qs g) (h:aiF p per qs f t) (hc:comeL (yn p qs) t.now (p.drop t.next) t.next t.s=(k,s)):∀j,j<p.length->(j∈wX s ↔ (dnB t.out j=false/\aOf p j<=t.now)):=λj hj=>by
 have:=acG (aa5 hp hq hq1) hs h.inv h.cm j hj
 rw [hc] at this
 exact this
theorem aiF.idle (hp:∀x∈p,zg x) (hq:∀g,0<=qu qs g) (hq1:∀g,g<8->1<=qu qs g) (h:aiF p per qs f t) (hlt:t.out.length<p.length) (hc:comeL (yn p qs) t.now (p.drop t.next) t.next t.s=(k,s)) (ht:vM qs s=none):k<p.length/\dnB t.out k=false/\(∀j,j<k->dnB t.out j=true)/\yG (yn p qs) p per t=⟨t.out,aOf p k,k,s⟩:=by
 have hM:=aa5 hp hq hq1
 have hpk:(yn p qs).pick s=none:=aoI ht
 obtain ⟨hci,_⟩:=yF hM t.now (p.drop t.next) t.next t.s rfl h.inv.toC
 rw [hc] at hci
 simp only at hci
 have hid:=hci.idle hM hpk
 have hw:=hM.w_none _ _ hci.ok hpk
 have hm:∀j,j∈(t.out.map λx=>x.p.toNat) ↔ j<k:=λj=>by
  have:=(hci.perm.mem_iff (a:=j)).trans List.mem_range
  rw [hw,zAo] at this
  exact this
 refine ⟨by omega,aaJ.2 λy hy e=>?_,λj hj=>?_,uQ hc hpk⟩
 ·have:=(hm k).1 (zAT.2 ⟨y,hy,by omega⟩)
  omega
 ·obtain ⟨y,hy,e⟩:=zAT.1 ((hm j).2 hj)
  have:=h.inv.pos y hy
  exact acH.2 ⟨y,hy,by omega⟩
end
theorem aoK {p:List Pk} {qs:List Int} {m:Nat} {s:RS} (h:RI p qs m s):rMu s<=24002:=by
 have h1:∀g,lack s g<=1500:=λg=>by unfold lack;have:=h.pos g;omega
 have h2:anR (lack s)<=12000:=by
  have e:∀f:Nat->Nat,anR f=f 0+(f 1+(f 2+(f 3+(f 4+(f 5+(f 6+(f 7+0))))))):=λf=>rfl
  rw [e]
  have:=h1 0;have:=h1 1;have:=h1 2;have:=h1 3;have:=h1 4;have:=h1 5;have:=h1 6;have:=h1 7
  omega
 unfold rMu
 split<;>omega
theorem aaR {w w':World} {base:Nat} {e:TypeId} {size:Nat} {v:Value} {n:Nat} {xs:List Value} (h:w.ownsRow base e size v n xs) (hs:∀g,v.ownBlock=some g->w'.heap[g]?=w.heap[g]?):w'.ownsRow base e size v n xs:=zDt
theorem bool_newR (n:Nat):(madeCells (Value.cells (.bool false)) (n*1)).toList=List.replicate n (.bool false):=by
 rw [show Value.cells (.bool false)=#[.bool false] from rfl,toList_madeCells_one,Nat.mul_one]
theorem int_newR (n:Nat):(madeCells (Value.cells (.int .i64 0)) (n*1)).toList=List.replicate n (.int .i64 0):=by
 rw [show Value.cells (.int .i64 0)=#[.int .i64 0] from rfl,toList_madeCells_one,Nat.mul_one]
theorem arU {p:List Pk} {d:Nat->Bool} {g:Nat} {now:Int} {j:Nat} (h:flN p j≠g):ku p d g now j=false:=by unfold ku;rw [zAH h];rfl
theorem arT {p:List Pk} {d:Nat->Bool} {g:Nat} {now:Int} {j:Nat} (h:d j=true):ku p d g now j=false:=by unfold ku;rw [h];simp
theorem arS {p:List Pk} {d:Nat->Bool} {g:Nat} {now:Int} {j:Nat} (h:¬aOf p j<=now):ku p d g now j=false:=by unfold ku;rw [zAH h];simp
theorem arR {p:List Pk} {d:Nat->Bool} {g:Nat} {now:Int} {j:Nat} (h1:flN p j=g) (h2:d j=false) (h3:aOf p j<=now):ku p d g now j=true:=by unfold ku;rw [zAI h1,h2,zAI h3];rfl
theorem ak0 {P:Nat->Bool} {k:Nat} (h:P k=false):(List.range (k+1)).filter P=(List.range k).filter P:=by
 rw [List.range_succ,List.filter_append]
 simp [List.filter,h]
theorem aw5 {P:Nat->Bool} {k:Nat} (h:P k=true):(List.range (k+1)).filter P=(List.range k).filter P++[k]:=by
 rw [List.range_succ,List.filter_append]
 simp [List.filter,h]
set_option maxHeartbeats 2000000 in
theorem afR (A:Option Addr) (c:Nat) (p:List Pk) (gD:Nat) (d:Nat->Bool) (g:Nat) (now:Int) (w:World) (B:Nat) (hB:B<=w.heap.size) (h:RdP w B A p) (hp:∀x∈p,zg x) (hl:p.length<=300) (hd:Arw w gD 4 p.length (λj=>.bool (d j))):
 Calls Tryz.prog 85 #[.slice A p.length c,.slice (some ⟨gD,0,none⟩) p.length p.length,.int .i64 (g:Int),.int .i64 now] w (vI nCs 1 3 (afS p d g now) w):=by
 obtain ⟨i0,hi0,hz0,hz1,hz2⟩:=info_parts wO
 go_enter Tryz.func85,Tryz.ntmps85
 go_wp2_with fail
 go_loopw [9,10] (λov iv wr=>∃(k:Nat) (acc:List Nat) (A1:Option Addr) (c1:Nat),k<=p.length/\iv=.int .i64 k/\ov=.slice A1 acc.length c1/\acc=(List.range k).filter (ku p d g now)/\acc.length<=k/\wr.ownsRow w.heap.size 3 1 (.slice A1 acc.length c1) acc.length (acc.flatMap nCs)/\Below w.heap.size w wr) (λ_ iv _=>p.length - (intOf iv).toNat)
 case atStart=>exact ⟨0,[],none,0,zAK _,rfl,rfl,rfl,zD _,⟨by simp,.inl ⟨rfl,rfl⟩⟩,zAA _ _⟩
 case round=>
  obtain ⟨k,acc,A1,c1,hk,rfl,rfl,hacc,hal,row,hbw⟩:=hrel
  have Row:=zL row
  have zw:=hbw.size
  have Hacc:=zL hacc
  clear row hacc
  by_cases hlt:k<p.length
  ·obtain ⟨b,o,rfl,hb,d0,d1,d2⟩:=RdP.get (h.below (hbw.mono hB)) hlt
   have hok:=hp _ (zd hlt)
   obtain ⟨f,hf⟩:∃f:Nat,p[k].f=f:=⟨p[k].f.toNat,by have:=hok.1;omega⟩
   obtain ⟨pa,hpa⟩:∃pa,pa=p[k].a:=⟨_,rfl⟩
   have hfl:flN p k=f:=by unfold flN;rw [vR hlt,hf];simp
   have haa:aOf p k=pa:=by rw [zy hlt,hpa]
   rw [hf] at d0
   rw [<-hpa] at d2
   have e0:wr.cell? ⟨gD,k,none⟩=some (.bool (d k)):=(hbw.cell (p:=⟨gD,k,none⟩) hd.lt).trans (hd.cell hlt)
   have q1:(0:Int)<=(k:Int):=zO
   have q2:(k:Int)<(p.length:Int):=zO
   have q3:¬(k:Int)<0:=zO
   clear hok hf hpa
   by_cases hgf:f=g
   ·subst hgf
    have b1':((f:Int)==(f:Int))=true:=zA1
    cases hdk:d k with
    |true=>
     rw [hdk] at e0
     have Hn:=zL (ak0 (P:=ku p d f now) (arT hdk))
     clear hdk
     exact zD3
    |false=>
     rw [hdk] at e0
     by_cases hle:pa<=now
     ·have Hn:=zL (aw5 (P:=ku p d f now) (arR hfl hdk (by rw [haa];exact hle)))
      have Hnew:=zM (Rd (wr.alloc (.cells #[.int .i64 (k:Int)] 3)) (wr.heap.size+1) 1 nCs (some ⟨wr.heap.size,0,none⟩) [k]) (Rd.of_block (heap_alloc_new _ _) rfl (Nat.lt_succ_self _) zO xP)
      clear hdk
      go_wp2_with (at_builtin;refine qd _ nCs rfl (.tmp 40) (.tmp 42) 27 rfl w.heap.size 3 i0 (.int .i64 0) 1 8 Tryz.underlying27 hi0 hz0 hz1 hz2 rfl zO xP adU (.slice A1 acc.length c1) acc.length (acc.flatMap nCs) rfl (Row.o.alloc _) (wr.heap.size+1) (some ⟨wr.heap.size,0,none⟩) 1 [k] rfl Hnew.o zA8 zBF zA7 ?_;intro v3 w3 row3 g3 at3;obtain ⟨A3,c3,hv3,row3⟩:=qI (l:=acc) (l':=[k]) row3 zO;rw [hv3] at at3 ⊢;clear hv3)
      have k3:Below w.heap.size w w3:=ql (hbw.alloc zw _) (Row.o.alloc _) g3 (zD _) (qG zw _)
      refine ⟨⟨k+1,acc++[k],A3,c3,hlt,by go_num,by rw [zAP];rfl,by rw [Hn.o,<-Hacc.o],by simp;omega,row3,k3⟩,?_⟩
      simp [intOf];omega
     ·have Hn:=zL (ak0 (P:=ku p d f now) (arS (by rw [haa];exact hle)))
      clear hdk
      exact zD3
   ·have b1':((f:Int)==(g:Int))=false:=by simp;omega
    have Hn:=zL (ak0 (P:=ku p d g now) (arU (by rw [hfl];exact hgf)))
    exact zD3
  ·have hke:k=p.length:=by omega
   have Hw:=zM (afS p d g now=acc) (by rw [Hacc.o,hke];rfl)
   clear hke
   go_wp2_with fail
   go_ret
   rw [Hw.o]
   exact ⟨A1,c1,rfl,Row.o,hbw⟩
structure xZ (p:List Pk) (out:List Sn) (B base:Nat) (w1:World) (gC gD gR:Nat) (A5:Option Addr) (c5 k:Nat) (s:RS) (A6:Option Addr) (c6:Nat) (wr:World):Prop where
 cm:Arw wr gC 4 p.length λj=>.bool (decide (j<k))
 dn:Arw wr gD 4 p.length λj=>.bool (dnB out j)
 cr:Arw wr gR 3 8 λj=>.int .i64 (s.c j)
 row:wr.ownsRow base 64 3 (.slice A5 out.length c5) out.length (out.flatMap Sn.cs)
 rl:zZ wr base 3 (.slice A6 s.row.length c6) s.row
 bel:Below B w1 wr
 ge:B<=gC/\B<=gD/\B<=gR
 lo:gC<base/\gD<base/\gR<base
 n1:gC≠gD/\gC≠gR/\gD≠gR
 bs:base<=wr.heap.size
 rn:∀b,(Value.slice A6 s.row.length c6).ownBlock=some b->(Value.slice A5 out.length c5).ownBlock≠some b
section
variable {p:List Pk} {out:List Sn} {B base:Nat} {w1:World} {gC gD gR:Nat} {A5:Option Addr} {c5 k:Nat} {s:RS} {A6:Option Addr} {c6:Nat} {wr:World}
theorem xZ.drewN (h:xZ p out B base w1 gC gD gR A5 c5 k s A6 c6 wr) (m:Nat):xZ p out B base w1 gC gD gR A5 c5 k s A6 c6 (wr.drewN m):={h with cm:=h.cm,dn:=h.dn,cr:=h.cr,row:=h.row,rl:=h.rl,bel:=below_drewN h.bel m,bs:=h.bs}
theorem xZ.zP (h:xZ p out B base w1 gC gD gR A5 c5 k s A6 c6 wr):B<=wr.heap.size:=zAB h.ge.1 (Nat.le_of_lt h.cm.lt)
theorem xZ.aaB (h:xZ p out B base w1 gC gD gR A5 c5 k s A6 c6 wr) {w':World} (hb:Below wr.heap.size wr w'):xZ p out B base w1 gC gD gR A5 c5 k s A6 c6 w':=
 {h with cm:=h.cm.same (hb.block _ h.cm.lt),dn:=h.dn.same (hb.block _ h.dn.lt),cr:=h.cr.same (hb.block _ h.cr.lt),row:=aaR h.row λb hh=>hb.block b (xQ h.row b hh),rl:=h.rl.same λb hh=>hb.block b (h.rl.lt b hh).2,bel:=h.bel.trans (hb.mono h.zP),bs:=zAB h.bs hb.size}
theorem xZ.a3A (h:xZ p out B base w1 gC gD gR A5 c5 k s A6 c6 wr) (hm:flN p k∈lst s):xZ p out B base w1 gC gD gR A5 c5 (k+1) (uf p s k) A6 c6 (wr.setCell ⟨gC,k,none⟩ (.bool true)):=by
 obtain ⟨a1,a2,a3⟩:=h.n1
 have hr:(uf p s k).row=s.row:=zp hm
 have hs:∀b,b≠gC->(wr.setCell ⟨gC,k,none⟩ (.bool true)).heap[b]?=wr.heap[b]?:=λb hb=>zAF wr ⟨gC,k,none⟩ _ b hb
 refine {h with cm:=?_,dn:=h.dn.same (hs _ a1.symm),cr:=h.cr.same (hs _ a2.symm),row:=aaR h.row λb hb=>hs b ?_,rl:=?_,bel:=h.bel.setCell (p:=⟨gC,k,none⟩) h.ge.1 _,bs:=by rw [zf];exact h.bs,rn:=by rw [hr];exact h.rn}
 ·exact h.cm.qi (k:=k) (.bool true) λj _=>by
   exact zFJ
 ·have:=zH h.row b hb;have:=h.lo;omega
 ·rw [hr]
  exact h.rl.same λb hb=>hs b (by have:=(h.rl.lt b hb).1;have:=h.lo;omega)
theorem xZ.a2Z (h:xZ p out B base w1 gC gD gR A5 c5 k s A6 c6 wr) (hm:¬flN p k∈lst s) {o:Obj} {w3:World} {v3:Value} (hr3:zZ w3 base 3 v3 (s.row++[flN p k])) (hg:((wr.setCell ⟨gC,k,none⟩ (.bool true)).alloc o).grownBy w3 (Value.slice A6 s.row.length c6).ownBlock) (ha:v3.ownBlock=(Value.slice A6 s.row.length c6).ownBlock\/∃g,v3.ownBlock=some g/\((wr.setCell ⟨gC,k,none⟩ (.bool true)).alloc o).heap.size<=g):
 ∃A7 c7,v3=.slice A7 (uf p s k).row.length c7/\xZ p out B base w1 gC gD gR A5 c5 (k+1) (uf p s k) A7 c7 w3:=by
 obtain ⟨a1,a2,a3⟩:=h.n1
 have hr:(uf p s k).row=s.row++[flN p k]:=z6 hm
 obtain ⟨A7,c7,hv⟩:=hr3.slice
 refine ⟨A7,c7,by rw [hr];exact hv,?_⟩
 have hsz:((wr.setCell ⟨gC,k,none⟩ (.bool true)).alloc o).heap.size=wr.heap.size+1:=zA1
 have hs:∀b,b≠gC->b<wr.heap.size->(Value.slice A6 s.row.length c6).ownBlock≠some b->w3.heap[b]?=wr.heap[b]?:=λb hb hl hne=>
  (hg.block b zO (λe=>hne e.symm)).trans ((zAr _ o b (by rw [zf];exact hl)).trans (zAF wr ⟨gC,k,none⟩ _ b hb))
 have hne:∀b,b<base->(Value.slice A6 s.row.length c6).ownBlock≠some b:=λb hb e=>by have:=(h.rl.lt b e).1;omega
 have hlo:=h.lo
 have hbs:=h.bs
 refine {h with cm:=?_,dn:=h.dn.same (hs _ a1.symm zO (hne _ hlo.2.1)),cr:=h.cr.same (hs _ a2.symm zO (hne _ hlo.2.2)),row:=aaR h.row λb hb=>hs b ?_ (xQ h.row b hb) (λe=>h.rn b e hb),rl:=?_,bel:=?_,bs:=by have:=hg.size;omega,rn:=?_}
 ·have h1:Arw (wr.setCell ⟨gC,k,none⟩ (.bool true)) gC 4 p.length λj=>.bool (decide (j<k+1)):=h.cm.qi (k:=k) (.bool true) λj _=>by
   exact zFJ
  exact (h1.alloc o).grown hg (λe=>hne _ hlo.1 e.symm)
 ·have:=zH h.row b hb;omega
 ·rw [hr,<-hv];exact hr3
 ·have hB:=h.zP
  exact ((h.bel.setCell (p:=⟨gC,k,none⟩) h.ge.1 (.bool true)).alloc (by rw [zf];exact hB) o).grown hg zO λb hb=>by have:=(h.rl.lt b hb).1;have:=h.ge;omega
 ·intro b hb e
  rw [hr,<-hv] at hb
  rcases ha with h9|⟨g',h9,h8⟩
  ·exact h.rn b (by rw [<-h9];exact hb) e
  ·have:=xQ h.row b e
   rw [hb] at h9
   injection h9 with h9
   omega
theorem xZ.axP (h:xZ p out B base w1 gC gD gR A5 c5 k s A6 c6 wr) {s':RS} (hc:s'.c=s.c) (hr:s'.row=s.row):xZ p out B base w1 gC gD gR A5 c5 k s' A6 c6 wr:=
 {h with cr:=by rw [hc];exact h.cr,rl:=by rw [hr];exact h.rl,rn:=by rw [hr];exact h.rn}
theorem xZ.af9 (h:xZ p out B base w1 gC gD gR A5 c5 k s A6 c6 wr) (g:Nat) (x:Int):xZ p out B base w1 gC gD gR A5 c5 k {s with c:=upd s.c g x} A6 c6 (wr.setCell ⟨gR,g,none⟩ (.int .i64 x)):=by
 obtain ⟨a1,a2,a3⟩:=h.n1
 have hs:∀b,b≠gR->(wr.setCell ⟨gR,g,none⟩ (.int .i64 x)).heap[b]?=wr.heap[b]?:=λb hb=>zAF wr ⟨gR,g,none⟩ _ b hb
 refine {h with cm:=h.cm.same (hs _ a2),dn:=h.dn.same (hs _ a3),cr:=?_,row:=aaR h.row λb hb=>hs b ?_,rl:=h.rl.same λb hb=>hs b ?_,bel:=h.bel.setCell (p:=⟨gR,g,none⟩) h.ge.2.2 _,bs:=by rw [zf];exact h.bs}
 ·exact h.cr.qi (k:=g) (.int .i64 x) λj _=>by
   show Value.int .i64 (upd s.c g x j)=_
   by_cases hj:j=g
   ·subst hj;rw [upd_same,zp rfl]
   ·rw [qx _ _ hj,z6 hj]
 ·have:=zH h.row b hb;have:=h.lo;omega
 ·have:=(h.rl.lt b hb).1;have:=h.lo;omega
theorem xZ.setRow (h:xZ p out B base w1 gC gD gR A5 c5 k s A6 c6 wr) {r:List Nat} {A7:Option Addr} {c7:Nat} (hr:zZ wr base 3 (.slice A7 r.length c7) r) (hb:(Value.slice A7 r.length c7).ownBlock=(Value.slice A6 s.row.length c6).ownBlock) (o:Option Nat):xZ p out B base w1 gC gD gR A5 c5 k {s with row:=r,sv:=o} A7 c7 wr:=
 {h with rl:=hr,rn:=λb e=>h.rn b (by rw [<-hb];exact e)}
theorem xZ.newRow (h:xZ p out B base w1 gC gD gR A5 c5 k s A6 c6 wr) {w':World} (hw:Below wr.heap.size wr w') {r:List Nat} {A7:Option Addr} {c7:Nat} (hr:zZ w' base 3 (.slice A7 r.length c7) r) (hb:∀b,(Value.slice A7 r.length c7).ownBlock=some b->wr.heap.size<=b) (o:Option Nat):xZ p out B base w1 gC gD gR A5 c5 k {s with row:=r,sv:=o} A7 c7 w':=by
 have h1:=h.aaB hw
 exact {h1 with rl:=hr,rn:=λb e e2=>by have:=hb b e;have:=xQ h.row b e2;omega}
theorem xZ.sent (h:xZ p out B base w1 gC gD gR A5 c5 k s A6 c6 wr) {b:Nat} {o o2:Obj} {w3:World} {A8:Option Addr} {c8:Nat} {x:Sn} (hx:x.p=b)
 (hr:w3.ownsRow base 64 3 (.slice A8 (out++[x]).length c8) (out++[x]).length ((out++[x]).flatMap Sn.cs)) (hg:(((wr.setCell ⟨gD,b,none⟩ (.bool true)).alloc o).alloc o2).grownBy w3 (Value.slice A5 out.length c5).ownBlock)
 (ha:(Value.slice A8 (out++[x]).length c8).ownBlock=(Value.slice A5 out.length c5).ownBlock\/(Value.slice A8 (out++[x]).length c8).ownBlock=some (((wr.setCell ⟨gD,b,none⟩ (.bool true)).alloc o).alloc o2).heap.size):
 xZ p (out++[x]) B base w1 gC gD gR A8 c8 k s A6 c6 w3:=by
 obtain ⟨a1,a2,a3⟩:=h.n1
 have hsz:(((wr.setCell ⟨gD,b,none⟩ (.bool true)).alloc o).alloc o2).heap.size=wr.heap.size+2:=zA1
 have hlo:=h.lo
 have hbs:=h.bs
 have hs:∀g,g≠gD->g<wr.heap.size->(Value.slice A5 out.length c5).ownBlock≠some g->w3.heap[g]?=wr.heap[g]?:=λg hgd hl hne=>
  (hg.block g zO (λe=>hne e.symm)).trans ((zAr _ o2 g zA7).trans ((zAr _ o g (by rw [zf];exact hl)).trans (zAF wr ⟨gD,b,none⟩ _ g hgd)))
 have hne:∀g,g<base->(Value.slice A5 out.length c5).ownBlock≠some g:=λg hgb e=>by have:=zH h.row g e;omega
 refine {h with cm:=h.cm.same (hs _ a1 zO (hne _ hlo.1)),dn:=?_,cr:=h.cr.same (hs _ a3.symm zO (hne _ hlo.2.2)),row:=hr,rl:=h.rl.same λg e=>hs g (by have:=(h.rl.lt g e).1;omega) (h.rl.lt g e).2 (h.rn g e),bel:=?_,bs:=by have:=hg.size;omega,rn:=?_}
 ·have h1:Arw (wr.setCell ⟨gD,b,none⟩ (.bool true)) gD 4 p.length λj=>.bool (dnB (out++[x]) j):=h.dn.qi (k:=b) (.bool true) λj _=>by
   rw [aeA,hx]
   by_cases hj:j=b
   ·subst hj;rw [zp rfl];simp
   ·rw [z6 hj]
    have:((b:Int)==(j:Int))=false:=beq_eq_false_iff_ne.2 zO
    rw [this,Bool.or_false]
  exact ((h1.alloc o).alloc o2).grown hg (λe=>hne _ hlo.2.1 e.symm)
 ·have hB:=h.zP
  have hB1:B<=(wr.setCell ⟨gD,b,none⟩ (.bool true)).heap.size:=by rw [zf];exact hB
  exact ((((h.bel.setCell (p:=⟨gD,b,none⟩) h.ge.2.1 (.bool true)).alloc hB1 o).alloc (qG hB1 o) o2)).grown hg (qG (qG hB1 o) o2) λg e=>by have:=zH h.row g e;have:=h.ge;omega
 ·intro g e e2
  rcases ha with h9|h9
  ·exact h.rn g e (by rw [<-h9];exact e2)
  ·have:=(h.rl.lt g e).2
   rw [e2] at h9
   injection h9 with h9
   omega
end
end Go.Proofs.YtoomffajodheaaaGreatDoor
