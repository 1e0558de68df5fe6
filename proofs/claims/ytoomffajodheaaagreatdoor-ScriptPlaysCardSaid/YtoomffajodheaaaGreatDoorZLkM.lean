/- The proof of ScriptPlays, part LkM. Conditions: in each statement. -/
import Derived.Test.YtoomffajodheaaaGreatDoorZRdM
import Derived.Test.YtoomffajodheaaaGreatDoorZFrB
import Derived.Test.YtoomffajodheaaaGreatDoorZBsM
set_option linter.all false
namespace Go.Proofs.YtoomffajodheaaaGreatDoor
open Go.RowKit
set_option maxRecDepth 100000
theorem zFQ{p:Prop}(h:p:=by
 go_ret
 exact ⟨yh (by rw [Hw.o];rfl),rfl⟩):p:=h
theorem zFc{p:Prop}(h:p:=by
 go_wp2_with fail
 go_ret
 exact ⟨yh (by rw [Hw.o,<-Hen.o]),rfl⟩):p:=h
theorem ag1 {σ:Type} {M:Pol σ} {p:List Pk} {per:Int} {s0:σ} (hM:wL M p.length) (hp:∀x∈p,zg x) (h0:1<=per) (h1:per<=1000) (h300:p.length<=300) (hw0:M.wait s0=[]) (ho:M.ok 0 s0):∀x∈(serveS M p per s0).out,wQ x.f:=by
 have hJ:=acA hM hp h0 h1 (λt=>∀x∈t.out,wQ x.f) (λt hi hl hj=>by
  cases hq:comeL M t.now (p.drop t.next) t.next t.s with
  |mk k s=>
   cases hpk:M.pick s with
   |none=>rw [uQ hq hpk];exact hj
   |some ks=>
    obtain ⟨j,s'⟩:=ks
    rw [vS hq hpk]
    intro x hx
    rcases zAQ.1 hx with hx|hx
    ·exact hj x hx
    ·rw [zAW.1 hx]
     have a1:=hi.now0
     have a2:=hi.now1
     unfold wQ
     simp only
     omega) (2*p.length+1) _ (wh p hw0 ho) zA1
 exact hJ
structure arH (p:List Pk) (per:Int) (k:Nat) (l:List Sn):Prop where
 bad:k≠0->l=[]
 len:l.length<=300
 tame:∀x∈l,wQ x.f
 good:k=0->afI p per l=(0,-1)
section
variable {p:List Pk} {per:Int}
theorem arH.nil {k:Nat} (h:k≠0):arH p per k []:=⟨λ_=>rfl,by simp,by simp,λh'=>zAv h' h⟩
theorem arH.serve {σ:Type} {M:Pol σ} {s0:σ} {k:Nat} (hk:k=0) (hlk:(qm p per).1=0) (hM:wL M p.length) (hT:ab7 M p) (hw0:M.wait s0=[]) (ho:M.ok 0 s0):arH p per k (serveS M p per s0).out:=by
 obtain ⟨hf,h300,hpk,h0,h1⟩:=zI hlk
 refine ⟨λh=>zAv hk h,?_,ag1 hM hpk h0 h1 h300 hw0 ho,λ_=>?_⟩
 ·rw [(alF hM hpk h0 h1 hw0 ho).1];exact h300
 ·unfold afI
  rw [z6 zO]
  exact afV hM hT hpk (xe hlk) h0 h1 hw0 ho
end
def avS (p:List Pk) (per:Int) (ns:List Int):List Sn:=if (qM p per ns 100).1=0 then xR p per (xO p ns) else []
def a1L (p:List Pk) (per:Int) (ns:List Int):List Sn:=if (qM p per ns 1099511627776).1=0 then xR p per (vH p ns) else []
def an6 (p:List Pk) (per:Int) (ns:List Int):List Sn:=if (zt p per ns).1=0 then acU p per ns else []
section
variable (A A':Option Addr) (c c':Nat) (p:List Pk) (per:Int) (ns:List Int) (S:Nat->Addr) (w:World) (B:Nat) (hB:B<=w.heap.size) (h:RdP w B A p) (h':RdI w B A' ns) (hS:Snt w B S [2,3,5]) (hl:p.length<=9223372036854775807) (hl':ns.length<=9223372036854775807)
include hB h h' hS hl hl'
theorem asG:Calls Tryz.prog 146 #[.slice A p.length c,.int .i64 per,.slice A' ns.length c'] w (yE Sn.cs 3 64 (avS p per ns) S (qM p per ns 100).1 (qM p per ns 100).2 w):=by
 unfold avS
 by_cases hk:(qM p per ns 100).1=0
 ·rw [zp hk];exact aoC A A' c c' p per ns S w B hB h h' hS hl hl' hk
 ·rw [z6 hk];exact alP A A' c c' p per ns S w B hB h h' hS hl hl' hk
theorem axC:Calls Tryz.prog 147 #[.slice A p.length c,.int .i64 per,.slice A' ns.length c'] w (yE Sn.cs 3 64 (a1L p per ns) S (qM p per ns 1099511627776).1 (qM p per ns 1099511627776).2 w):=by
 unfold a1L
 by_cases hk:(qM p per ns 1099511627776).1=0
 ·rw [zp hk];exact aoE A A' c c' p per ns S w B hB h h' hS hl hl' hk
 ·rw [z6 hk];exact alQ A A' c c' p per ns S w B hB h h' hS hl hl' hk
theorem an5:Calls Tryz.prog 148 #[.slice A p.length c,.int .i64 per,.slice A' ns.length c'] w (yE Sn.cs 3 64 (an6 p per ns) S (zt p per ns).1 (zt p per ns).2 w):=by
 unfold an6
 by_cases hk:(zt p per ns).1=0
 ·rw [zp hk];exact alJ A A' c c' p per ns S w B hB h h' hS hl hl' hk
 ·rw [z6 hk];exact akF A A' c c' p per ns S w B hB h h' hS hl hl' hk
end
theorem Er.neq {w:World} {B:Nat} {S:Nat->Addr} {v:Value} {k:Nat} {a:Int} (h:Er w B S v k a) (w':World):(binOp .neq 34 v .nilIface).run Tryz.prog w'=.ok (.bool (decide (k≠0))) w':=by
 by_cases hk:k=0
 ·subst hk
  obtain rfl:=h.qK rfl
  kernel_rfl
 ·obtain ⟨T,a,rfl⟩:=h.qW hk
  rw [zAI hk]
  rfl
theorem Er.guard {w:World} {B:Nat} {S:Nat->Addr} {v:Value} {k:Nat} {a:Int} (h:Er w B S v k a) (x:Operand) (w':World):(eqGuard .neq 34 x (.const .nilIface) v .nilIface).run Tryz.prog w'=.ok () w':=by
 by_cases hk:k=0
 ·subst hk
  obtain rfl:=h.qK rfl
  cases x<;>rfl
 ·obtain ⟨T,a,rfl⟩:=h.qW hk
  rfl
theorem aiV {w w1:World} (h:Below w.drew.heap.size w.drew w1):Below w.heap.size w w1:=((zAA _ _).drew).trans h
def qE (n:Nat) (p:List Pk) (per:Int) (ns:List Int):Nat × Int:=
 match n with
 |0=>if (qm p per).1≠0 then qm p per else if 0<ns.length then (3,-1) else (0,-1)
 |1=>qM p per ns 100
 |2=>qM p per ns 1099511627776
 |3=>zt p per ns
 |4=>zQ p per ns
 |_=>(9,-1)
def vD (n:Nat) (p:List Pk) (per:Int) (ns:List Int):List Sn:=
 match n with
 |0=>if (qE 0 p per ns).1=0 then af5 p per else []
 |1=>avS p per ns
 |2=>a1L p per ns
 |3=>an6 p per ns
 |4=>aq5 p per ns
 |_=>[]
theorem ajL {n:Nat} {p:List Pk} {per:Int} {ns:List Int} (h:(qE n p per ns).1≠0):vD n p per ns=[]:=by
 match n,h with
 |0,h=>exact z6 h
 |1,h=>exact z6 h
 |2,h=>exact z6 h
 |3,h=>exact z6 h
 |4,h=>exact z6 h
 |n+5,h=>rfl
structure abH (p:List Pk) (per:Int) (l:List Sn):Prop where
 look:(qm p per).1=0
 len:l.length=p.length
 nd:(l.map λx=>x.p.toNat).Nodup
 each:∀x∈l,0<=x.p/\x.p.toNat<p.length/\aOf p x.p.toNat<=x.f/\x.t=x.f+per*sOf p x.p.toNat
 tame:∀x∈l,wQ x.f
 tame':∀x∈l,wQ x.t
 aud:afI p per l=(0,-1)
 busy:aaK l=kL per p
theorem auV {p:List Pk} {per:Int} (l:List Sn) (d:Nat->Bool) (tq:Int) (i:Nat) (h:aeG p per d tq l i=(0,-1)):∀x∈l,aOf p x.p.toNat<=x.f/\x.t=x.f+per*sOf p x.p.toNat:=by
 induction l generalizing d tq i with
 |nil=>simp
 |cons x r ih=>
  unfold aeG at h
  by_cases h1:aiC p per d tq x≠0
  ·rw [zp h1] at h
   simp only [Prod.mk.injEq] at h
   exact zAv h.1 h1
  ·rw [z6 h1] at h
   intro y hy
   rcases zAM.1 hy with rfl|hy
   ·have h2:aiC p per d tq y=0:=by omega
    unfold aiC at h2
    split at h2
    ·simp at h2
    ·split at h2
     ·simp at h2
     ·split at h2
      ·simp at h2
      ·rename_i a b c
       exact ⟨by omega,by omega⟩
   ·exact ih _ _ _ h y hy
theorem alI {σ:Type} {M:Pol σ} {p:List Pk} {per:Int} {s0:σ} (hM:wL M p.length) (hp:∀x∈p,zg x) (h0:1<=per) (h1:per<=1000) (h300:p.length<=300) (hw0:M.wait s0=[]) (ho:M.ok 0 s0):∀x∈(serveS M p per s0).out,wQ x.t:=by
 have hJ:=acA hM hp h0 h1 (λt=>∀x∈t.out,wQ x.t) (λt hi hl hj=>by
  obtain ⟨hc,-⟩:=yF hM t.now (p.drop t.next) t.next t.s rfl hi.toC
  cases hq:comeL M t.now (p.drop t.next) t.next t.s with
  |mk k s=>
   rw [hq] at hc
   cases hpk:M.pick s with
   |none=>rw [uQ hq hpk];exact hj
   |some ks=>
    obtain ⟨j,s'⟩:=ks
    have hjk:j<k:=hc.aa6 hM hpk
    have hjl:j<p.length:=zAG hjk hc.k_le
    rw [vS hq hpk]
    intro x hx
    rcases zAQ.1 hx with hx|hx
    ·exact hj x hx
    ·rw [zAW.1 hx]
     have a1:=hi.now0
     have a2:=hi.now1
     have hok:=hp _ (zd hjl)
     have e1:=yA hjl
     have m1:0<=per*sOf p j:=zAY zO zCE
     have m2:per*sOf p j<=1500000:=by
      have:=Int.mul_le_mul h1 (by rw [e1];exact hok.2.2.2.1:sOf p j<=1500) zCE (by omega:(0:Int)<=1000)
      omega
     unfold wQ
     simp only
     omega) (2*p.length+1) _ (wh p hw0 ho) zA1
 exact hJ
theorem abH.serve {σ:Type} {M:Pol σ} {p:List Pk} {per:Int} {s0:σ} (hlk:(qm p per).1=0) (hM:wL M p.length) (hT:ab7 M p) (hw0:M.wait s0=[]) (ho:M.ok 0 s0):abH p per (serveS M p per s0).out:=by
 obtain ⟨hf,h300,hpk,h0,h1⟩:=zI hlk
 have hso:=xe hlk
 obtain ⟨q1,q2,q3,q4⟩:=alF hM hpk h0 h1 hw0 ho
 have ha:afI p per (serveS M p per s0).out=(0,-1):=by
  unfold afI
  rw [z6 zO]
  exact afV hM hT hpk hso h0 h1 hw0 ho
 have ha2:=ha
 unfold afI at ha2
 rw [z6 zO] at ha2
 refine ⟨hlk,q1,q4,λx hx=>?_,ag1 hM hpk h0 h1 h300 hw0 ho,alI hM hpk h0 h1 h300 hw0 ho,ha,atE hM hpk (λi j hij hj=>?_) h0 h1 hw0 ho⟩
 ·obtain ⟨a1,a2⟩:=auV _ _ _ _ ha2 x hx
  exact ⟨q2 x hx,q3 x hx,a1,a2⟩
 ·exact uL hso hij hj
theorem azK {n:Nat} {p:List Pk} {per:Int} {ns:List Int} (h:(qE n p per ns).1=0):abH p per (vD n p per ns):=by
 match n,h with
 |0,h=>
  have hlk:(qm p per).1=0:=by
   unfold qE at h
   by_cases h1:(qm p per).1≠0
   ·rw [zp h1] at h;exact h
   ·omega
  rw [show vD 0 p per ns=af5 p per from zp h]
  exact abH.serve hlk (ah0 _) (at0 p) rfl ⟨rfl,zD _⟩
 |1,h=>
  rw [show vD 1 p per ns=xR p per (xO p ns) from zp h]
  exact abH.serve (uT h).1 (xu _ _) (ahK λi j _ _ hf=>by unfold xO;rw [hf];exact zAV _) rfl ⟨by simp,List.Pairwise.nil⟩
 |2,h=>
  rw [show vD 2 p per ns=xR p per (vH p ns) from zp h]
  have hlk:=(uT h).1
  exact abH.serve hlk (xu _ _) (ahK λi j hij hj hf=>by
   unfold vH
   rw [hf]
   have:=uL (xe hlk) (Nat.le_of_lt hij) hj
   omega) rfl ⟨by simp,List.Pairwise.nil⟩
 |3,h=>
  have h':(zt p per ns).1=0:=h
  rw [show vD 3 p per ns=acU p per ns from zp h]
  obtain ⟨hlk,_,h8,hn,_⟩:=aaF h'
  obtain ⟨hf,h300,hpk,h0,h1⟩:=zI hlk
  have hq1:∀g,g<8->1<=qu ns g:=λg hg=>by
   unfold qu
   have hgl:g<ns.length:=zO
   simp only [List.getD,zAR hgl,Option.getD_some]
   exact (hn _ (zd hgl)).1
  have hq:∀g,0<=qu ns g:=λg=>by
   by_cases hg:g<8
   ·have:=hq1 g hg;omega
   ·unfold qu
    simp only [List.getD,List.getElem?_eq_none (show ns.length<=g by omega),Option.getD_none]
    omega
  exact abH.serve hlk (aa5 hpk hq hq1) (an3 hpk hq) ag4 (akE p ns)
 |4,h=>
  have h':(zQ p per ns).1=0:=h
  rw [show vD 4 p per ns=ah1 p per ns from zp h]
  obtain ⟨hlk,_,h8,hn,_⟩:=kU h'
  obtain ⟨hf,h300,hpk,h0,h1⟩:=zI hlk
  have hw:=anL h8 (acR hn)
  exact abH.serve hlk (ab3 hpk hw) (auB hpk hw) rfl (apE p ns)
 |n+5,h=>simp [qE] at h
theorem as8 {n:Nat} {p:List Pk} {per:Int} {ns:List Int} (hp:(qj p).1=0):qE n p per ns=qE n [] per ns:=by
 have e1:=uU hp
 have e2:qm p per=qm [] per:=by
  unfold qm
  rw [e1,show qj []=(0,-1) from rfl]
 match n with
 |0=>
  show (if (qm p per).1≠0 then qm p per else if 0<ns.length then (3,-1) else (0,-1))=(if (qm [] per).1≠0 then qm [] per else if 0<ns.length then (3,-1) else (0,-1):Nat × Int)
  rw [e2]
 |1=>show qM _ _ _ _=qM _ _ _ _;unfold qM;rw [e2]
 |2=>show qM _ _ _ _=qM _ _ _ _;unfold qM;rw [e2]
 |3=>show zt _ _ _=zt _ _ _;unfold zt;rw [e2]
 |4=>show zQ _ _ _=zQ _ _ _;unfold zQ;rw [e2]
 |n+5=>rfl
theorem al5 {n:Nat} {per:Int} {ns:List Int}:(qE n [] per ns).2=-1:=by
 have e1:(qm [] per).2=-1:=by
  unfold qm
  rw [show qj []=(0,-1) from rfl]
  split
  ·rfl
  ·split<;>rfl
 match n with
 |0=>
  show (if (qm [] per).1≠0 then qm [] per else if 0<ns.length then (3,-1) else (0,-1):Nat × Int).2=-1
  split
  ·exact e1
  ·split<;>rfl
 |1=>show (qM _ _ _ _).2=_;unfold qM;split;rfl;exact e1
 |2=>show (qM _ _ _ _).2=_;unfold qM;split;rfl;exact e1
 |3=>show (zt _ _ _).2=_;unfold zt;split;rfl;exact e1
 |4=>show (zQ _ _ _).2=_;unfold zQ;split;rfl;exact e1
 |n+5=>rfl
theorem arP {l:List Int} (h:∀n∈l,aiP n=false) (k:Nat):uw l k=-1:=by
 induction l generalizing k with
 |nil=>rfl
 |cons x r ih=>
  unfold uw
  rw [h x zAD]
  exact ih (λn hn=>h n (zAJ _ hn)) (k+1)
theorem alB {l:List Int} (h:∃n∈l,aiP n=true) (k:Nat):0<=uw l k:=by
 induction l generalizing k with
 |nil=>obtain ⟨n,hn,_⟩:=h;cases hn
 |cons x r ih=>
  unfold uw
  by_cases hx:aiP x=true
  ·rw [zp hx];exact zAf k
  ·rw [z6 hx]
   obtain ⟨n,hn,ho⟩:=h
   rcases zAM.1 hn with rfl|hn
   ·exact zAv ho hx
   ·exact ih ⟨n,hn,ho⟩ (k+1)
theorem azE {l:List Int} (h:kK l 1 12=0):l.length=8/\∀n∈l,1<=n/\n<=12:=by
 unfold kK at h
 by_cases h8:l.length=8
 ·rw [zp h8] at h
  by_cases ha:l.all (λn=>decide (1<=n/\n<=12))=true
  ·exact ⟨h8,λn hn=>of_decide_eq_true (List.all_eq_true.1 ha n hn)⟩
  ·rw [z6 ha] at h;omega
 ·rw [z6 h8] at h;omega
theorem azC {l:List Int} (h:kK l 1 12≠0):um l=kK l 1 12:=by
 unfold kK at h ⊢
 unfold um
 by_cases h8:l.length=8
 ·rw [zp h8] at h ⊢
  rw [zp h8]
  by_cases ha:l.all (λn=>decide (1<=n/\n<=12))=true
  ·rw [zp ha] at h;exact zAv rfl h
  ·rw [z6 ha]
   rw [Bool.not_eq_true,List.all_eq_false] at ha
   obtain ⟨n,hn,hd⟩:=ha
   rw [zAe] at hd
   rw [zp (alB ⟨n,hn,zAI zO⟩ 0)]
 ·rw [z6 h8,z6 h8]
set_option maxHeartbeats 1000000 in
theorem uO (A:Option Addr) (c:Nat) (l:List Int) (w:World) (B:Nat) (h:RdI w B A l) (hl:l.length<=9223372036854775807):
 Calls Tryz.prog 47 #[.slice A l.length c] w λe w'=>e=.returned (.int .i64 (um l))/\w=w':=by
 by_cases hn:kK l 1 12=0
 ·obtain ⟨h8,hb⟩:=azE hn
  have Hn:=zL hn
  have H8:=zL h8
  clear hn h8
  go_enter Tryz.func47,Tryz.ntmps47
  go_wp2_with fail
  refine (zu A c l 1 12 w B h hl).mono ?_
  rintro e wx ⟨rfl,rfl⟩
  rw [Hn.o]
  go_wp2_with fail
  go_loopw [3,4] (λev iv wr=>∃(k:Nat) (e:Int),k<=l.length/\iv=.int .i64 k/\ev=.int .i64 e/\wr=w/\((e=0/\∀(j:Nat) (hj:j<l.length),j<k->12 % l[j]=0)\/(e=2/\∃(j:Nat) (hj:j<l.length),¬12 % l[j]=0))) (λ_ iv _=>l.length - (intOf iv).toNat)
  case atStart=>exact ⟨0,0,zAK _,rfl,rfl,rfl,.inl ⟨rfl,λj hj h0=>zAv h0 (Nat.not_lt_zero _)⟩⟩
  case round=>
   obtain ⟨k,e,hk,rfl,rfl,rfl,he⟩:=hrel
   rcases he with ⟨rfl,hz⟩|⟨rfl,hz⟩
   ·have HZ:=zL hz
    clear hz
    by_cases hlt:k<l.length
    ·obtain ⟨q,o,rfl,hq,d0⟩:=RdI.get h hlt
     obtain ⟨b1,b2⟩:=hb _ (zd hlt)
     obtain ⟨x,hx⟩:∃x,x=l[k]:=⟨_,rfl⟩
     rw [<-hx] at d0 b1 b2
     have y0:x≠0:=zO
     have j1:(0:Int)<=(k:Int):=zO
     have j2:(k:Int)<(l.length:Int):=zO
     by_cases hr:12 % x=0
     ·have HR:=zM (12 % l[k]=0) (by rw [<-hx];exact hr)
      have hrb:(12 % x !=0)=false:=by rw [hr];rfl
      have Hx:=zL hx
      clear hr hx
      go_wp2_with fail
      go_roundw
      case rel=>exact ⟨k+1,0,hlt,by go_num,rfl,by trivial,.inl ⟨rfl,λj hj hjk=>by
       rcases zAn.1 hjk with h9|rfl
       ·exact HZ.o j hj h9
       ·exact HR.o⟩⟩
      case measure=>simp [intOf];omega
     ·have HR:=zM (¬12 % l[k]=0) (by rw [<-hx];exact hr)
      have hrb:(12 % x !=0)=true:=by simp [hr]
      have Hx:=zL hx
      clear hr hx
      go_wp2_with fail
      go_roundw
      case rel=>exact ⟨k+1,2,hlt,by go_num,rfl,by trivial,.inr ⟨rfl,k,hlt,HR.o⟩⟩
      case measure=>simp [intOf];omega
    ·have Hw:=zL (show um l=0 by
          unfold um
          rw [zp H8.o,arP (λn hn=>by
           obtain ⟨j,hj,rfl⟩:=List.mem_iff_getElem.1 hn
           have h1:=hb _ (zd hj)
           have h2:=HZ.o j hj zO
           exact zAH zO) 0]
          rfl)
     go_wp2_with fail
     exact zFQ
   ·have Hw:=zL (show um l=2 by
     obtain ⟨j,hj,h2⟩:=hz
     unfold um
     rw [zp H8.o,zp (alB ⟨l[j],zd hj,zAI (.inr (.inr h2))⟩ 0)])
    clear hz
    by_cases hlt:k<l.length
    ·go_wp2_with fail
     exact zFQ
    ·go_wp2_with fail
     exact zFQ
 ·have Hw:=zL (azC hn)
  obtain ⟨en,hen⟩:∃en,en=kK l 1 12:=⟨_,rfl⟩
  rw [<-hen] at hn
  have Hen:=zL hen
  have hne:((en:Int)==0)=false:=beq_eq_false_iff_ne.2 zO
  clear hen hn
  go_enter Tryz.func47,Tryz.ntmps47
  go_wp2_with fail
  refine (zu A c l 1 12 w B h hl).mono ?_
  rintro e wx ⟨rfl,rfl⟩
  rw [<-Hen.o]
  go_wp2_with fail
  go_loopw [3,4] (λev iv wr=>iv=.int .i64 0/\ev=.int .i64 en/\wr=w) (λ_ _ _=>0)
  case atStart=>exact ⟨rfl,rfl,rfl⟩
  case round=>
   obtain ⟨rfl,rfl,rfl⟩:=hrel
   by_cases hlt:0<l.length
   ·have hlt2:(0:Int)<(l.length:Int):=by omega
    exact zFc
   ·have hlt2:¬(0:Int)<(l.length:Int):=by omega
    exact zFc
end Go.Proofs.YtoomffajodheaaaGreatDoor
