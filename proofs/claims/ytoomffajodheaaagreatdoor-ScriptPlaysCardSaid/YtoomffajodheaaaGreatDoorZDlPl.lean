/- The proof of ScriptPlays, part DlPl. Conditions: in each statement. -/
import Derived.Test.YtoomffajodheaaaGreatDoorZCvM
set_option linter.all false
namespace Go.Proofs.YtoomffajodheaaaGreatDoor
theorem zBT{p:Prop}(h:p:=by rw [<-Int.neg_mul];congr 1;omega):p:=h
theorem zBq{p:Prop}(h:p:=by rw [<-Int.mul_add];congr 1;omega):p:=h
theorem zFF{p:Prop}(h:p:=by rw [show p.b - a.b=-(a.b - p.b) by omega,show a.r - p.r=-(p.r - a.r) by omega,Int.neg_mul,Int.neg_mul,zAl]):p:=h
def uC (y:Int) (x:Ln):Int:=(1000*(y - x.b)+x.r - 1) / x.r
def yM (y:Int):Int->List Ln->Int
 |t,[]=>t
 |t,x::r=>yM y (if x.b<y then max t (uC y x) else t) r
def xB (l:List Ln) (per y:Int):Int:=per*y - yM y 0 l
theorem uJ (y:Int) (l:List Ln) (t T:Int):yM y t l<=T ↔ t<=T/\∀x∈l,x.b<y->uC y x<=T:=by
 induction l generalizing t with
 |nil=>simp [yM]
 |cons x r ih=>
  rw [yM,ih]
  by_cases hx:x.b<y
  ·rw [zp hx]
   constructor
   ·rintro ⟨h1,h2⟩
    refine ⟨by omega,λz hz hb=>?_⟩
    rcases zAM.1 hz with rfl|hz
    ·omega
    ·exact h2 z hz hb
   ·rintro ⟨h1,h2⟩
    have:=h2 x zAD hx
    exact ⟨by omega,λz hz hb=>h2 z (zAJ _ hz) hb⟩
  ·rw [z6 hx]
   constructor
   ·rintro ⟨h1,h2⟩
    refine ⟨h1,λz hz hb=>?_⟩
    rcases zAM.1 hz with rfl|hz
    ·exact zAv hb hx
    ·exact h2 z hz hb
   ·rintro ⟨h1,h2⟩
    exact ⟨h1,λz hz hb=>h2 z (zAJ _ hz) hb⟩
theorem uV (y:Int) (l:List Ln):0<=yM y 0 l:=((uJ y l 0 _).1 (zAV _)).1
theorem kM {y:Int} {l:List Ln} {x:Ln} (hx:x∈l) (hb:x.b<y):uC y x<=yM y 0 l:=((uJ y l 0 _).1 (zAV _)).2 x hx hb
theorem as1 (y:Int) (a b:List Ln):yM y 0 (a++b)=max (yM y 0 a) (yM y 0 b):=by
 have h1:yM y 0 (a++b)<=max (yM y 0 a) (yM y 0 b):=(uJ _ _ _ _).2 ⟨by have:=uV y a;omega,λx hx hb=>by
  rcases zAQ.1 hx with h|h
  ·have:=kM h hb;omega
  ·have:=kM h hb;omega⟩
 have h2:yM y 0 a<=yM y 0 (a++b):=(uJ _ _ _ _).2 ⟨uV _ _,λx hx hb=>kM (List.mem_append_left _ hx) hb⟩
 have h3:yM y 0 b<=yM y 0 (a++b):=(uJ _ _ _ _).2 ⟨uV _ _,λx hx hb=>kM (List.mem_append_right _ hx) hb⟩
 omega
theorem jw {x:Ln} (hr:0<x.r) (y T:Int):uC y x<=T ↔ 1000*(y - x.b)<=x.r*T:=by
 unfold uC
 rw [<-Int.lt_add_one_iff,Int.ediv_lt_iff_lt_mul hr,Int.add_mul,zAl T]
 omega
theorem as9 (x:Ln) (y T:Int):y<=lineAt x T ↔ 1000*(y - x.b)<=x.r*T:=by
 unfold lineAt
 have:=Int.le_ediv_iff_mul_le (a:=y - x.b) (b:=x.r*T) (show (0:Int)<1000 by omega)
 omega
def xJ (per:Int) (l:List Ln):List Ln:=l.filter λx=>decide (1000<x.r*per)
def flatL (per:Int) (l:List Ln):List Ln:=l.filter λx=>decide (0<x.r/\x.r*per<=1000)
def wI:Int->List Ln->Int
 |t,[]=>t
 |t,x::r=>wI (if x.r=0/\(t=0\/x.b<t) then x.b else t) r
def ut:Int->List Ln->Int
 |t,[]=>t
 |t,x::r=>ut (if t=0\/x.b<t then x.b else t) r
theorem ai2 (l:List Ln) (hb:∀x∈l,1<=x.b) (t:Int) (ht:0<=t):0<=ut t l/\(ut t l=0 ↔ t=0/\l=[])/\(0<t->ut t l<=t)/\(∀x∈l,ut t l<=x.b)/\(ut t l=t\/∃x∈l,ut t l=x.b):=by
 induction l generalizing t with
 |nil=>simp [ut,ht]
 |cons x r ih=>
  rw [ut]
  have hx:=hb x zAD
  obtain ⟨i1,i2,i3,i4,i5⟩:=ih (λz hz=>hb z (zAJ _ hz)) (if t=0\/x.b<t then x.b else t) zCB
  refine ⟨i1,⟨λh=>?_,λh=>by cases h.2⟩,λh=>?_,λz hz=>?_,?_⟩
  ·have:=i2.1 h
   by_cases hc:t=0\/x.b<t
   ·rw [zp hc] at this;omega
   ·rw [z6 hc] at this;omega
  ·by_cases hc:t=0\/x.b<t
   ·rw [zp hc] at i3 ⊢
    have:=i3 zO
    omega
   ·rw [z6 hc] at i3 ⊢
    exact i3 h
  ·rcases zAM.1 hz with rfl|hz
   ·by_cases hc:t=0\/z.b<t
    ·rw [zp hc] at i3 ⊢
     exact i3 zO
    ·rw [z6 hc] at i3 ⊢
     have:=i3 zO
     omega
   ·exact i4 z hz
  ·rcases i5 with h|⟨z,hz,h⟩
   ·by_cases hc:t=0\/x.b<t
    ·rw [zp hc] at h ⊢
     exact .inr ⟨x,zAD,h⟩
    ·rw [z6 hc] at h ⊢
     exact .inl h
   ·exact .inr ⟨z,zAJ _ hz,h⟩
theorem aoB (l:List Ln) (t:Int):wI t l=ut t (l.filter λx=>decide (x.r=0)):=by
 induction l generalizing t with
 |nil=>rfl
 |cons x r ih=>
  by_cases hx:x.r=0
  ·have e:(x::r).filter (λx=>decide (x.r=0))=x::r.filter λx=>decide (x.r=0):=List.filter_cons_of_pos (by simpa using hx)
   rw [e,wI,ut,ih]
   simp only [hx,true_and]
  ·have e:(x::r).filter (λx=>decide (x.r=0))=r.filter λx=>decide (x.r=0):=List.filter_cons_of_neg (by simpa using hx)
   rw [e,wI,ih,z6 (λh=>hx h.1)]
def xU (per:Int) (l:List Ln):Int:=if 0<wI 0 l/\(ut 0 (flatL per l)=0\/wI 0 l<ut 0 (flatL per l)) then wI 0 l else ut 0 (flatL per l)
def xM (l:List Ln):Int:=if wI 0 l=0 then 35184372088832 else wI 0 l
def dP (per:Int) (l:List Ln) (i:Nat):Bool:=decide (xB (flatL per l) per (xU per l+i)<=xB (xJ per l) per (xU per l+i))
def dN (per:Int) (l:List Ln):Nat:=(List.range (xM l - xU per l).toNat).countP λi=> !dP per l i
def afD (per:Int) (l:List Ln) (y:Int):Int:=xB (xJ per l++flatL per l) per y
def abK (per:Int) (l:List Ln):Int:=if 0<dN per l then max (afD per l (xU per l+dN per l)) (afD per l (xU per l+dN per l - 1)) else afD per l (xU per l+dN per l)
theorem ah6 (p:Nat->Bool) (N:Nat) (hm:∀i,i+1<N->p i=true->p (i+1)=true) (n:Nat) (hn:n=(List.range N).countP λi=> !p i):n<=N/\(∀i,i<n->p i=false)/\∀i,n<=i->i<N->p i=true:=by
 subst hn
 induction N with
 |zero=>exact ⟨by simp,λi h=>by simp at h,λi _ h=>by omega⟩
 |succ N ih=>
  obtain ⟨h1,h2,h3⟩:=ih (λi hi=>hm i zO)
  rw [List.range_succ,List.countP_append]
  generalize (List.range N).countP (λi=> !p i)=n at*
  cases hp:p N with
  |true=>
   have e:List.countP (λi=> !p i) [N]=0:=by simp [hp]
   rw [e]
   refine ⟨by omega,λi hi=>h2 i zO,λi hi hl=>?_⟩
   by_cases hiN:i=N
   ·subst hiN;exact hp
   ·exact h3 i zO zO
  |false=>
   have e:List.countP (λi=> !p i) [N]=1:=by simp [hp]
   rw [e]
   have hnN:n=N:=by
    by_cases h:n<N
    ·have:=hm (N - 1) zO (h3 (N - 1) zO zO)
     rw [show N - 1+1=N by omega,hp] at this
     cases this
    ·omega
   subst hnN
   refine ⟨by omega,λi hi=>?_,λi hi hl=>by omega⟩
   by_cases hiN:i=n
   ·subst hiN;exact hp
   ·exact h2 i zO
theorem a3R {S F:Int->Int} {top reach:Int} (hr:top<=reach) (hS:∀y,S y<=S (y+1)) (hF:∀y,top<=y->y<reach->F (y+1)<=F y) (hF0:∀y,y<=top->F y<=F top) (n:Nat) (hn:n=(List.range (reach - top).toNat).countP λi=> !decide (F (top+(i:Nat))<=S (top+(i:Nat)))):
 (top+n<=reach/\∀y,y<=reach->min (S y) (F y)<=if 0<n then max (min (S (top+n)) (F (top+n))) (min (S (top+n - 1)) (F (top+n - 1))) else min (S (top+n)) (F (top+n)))/\(0<n->S (top+n - 1)<F (top+n - 1)):=by
 have hSm:∀(d:Nat) (y:Int),S y<=S (y+d):=λd=>by
  induction d with
  |zero=>intro y;simp
  |succ d ih=>intro y;have:=ih y;have:=hS (y+d);rw [show y+((d+1:Nat):Int)=y+d+1 by omega];omega
 have hSm':∀y z:Int,y<=z->S y<=S z:=λy z h=>by have:=hSm (z - y).toNat y;rwa [show y+((z - y).toNat:Int)=z by omega] at this
 have hFm:∀(d:Nat) (y:Int),top<=y->y+d<=reach->F (y+d)<=F y:=λd=>by
  induction d with
  |zero=>intro y _ _;simp
  |succ d ih=>intro y hy hd;have:=ih y hy zO;have:=hF (y+d) zO zO;rw [show y+((d+1:Nat):Int)=y+d+1 by omega];omega
 have hFm':∀y z:Int,top<=y->y<=z->z<=reach->F z<=F y:=λy z h1 h h2=>by have:=hFm (z - y).toNat y h1 zO;rwa [show y+((z - y).toNat:Int)=z by omega] at this
 obtain ⟨h1,h2,h3⟩:=ah6 (λi=>decide (F (top+(i:Nat))<=S (top+(i:Nat)))) (reach - top).toNat (λi _ hi=>by
  have hi:=of_decide_eq_true hi
  apply zAI
  have a:=hF (top+i) zO zO
  have b:=hS (top+i)
  rw [show top+((i+1:Nat):Int)=top+i+1 by omega]
  omega) n hn
 have hlast:0<n->S (top+n - 1)<F (top+n - 1):=λh0=>by
  have:=of_decide_eq_false (h2 (n - 1) zO)
  rw [show top+((n - 1:Nat):Int)=top+n - 1 by omega] at this
  omega
 refine ⟨⟨by omega,λy hy=>?_⟩,hlast⟩
 have key:min (S y) (F y)<=min (S (top+n)) (F (top+n))\/(0<n/\min (S y) (F y)<=min (S (top+n - 1)) (F (top+n - 1))):=by
  by_cases hyt:y<top+n
  ·by_cases h0:0<n
   ·refine .inr ⟨h0,?_⟩
    have:=hlast h0
    have:=hSm' y (top+n - 1) zO
    omega
   ·have:=hSm' y (top+n) zO
    have:=hF0 y zO
    rw [show top+(n:Int)=top by omega] at*
    exact .inl zO
  ·left
   by_cases hyr:top+n<reach
   ·have h4:=of_decide_eq_true (h3 n (zD _) zO)
    have:=hFm' (top+n) y zO zO hy
    omega
   ·rw [show y=top+n by omega]
    omega
 by_cases h0:0<n
 ·rw [zp h0]
  rcases key with h|⟨_,h⟩<;>omega
 ·rw [z6 h0]
  rcases key with h|⟨h,_⟩<;>omega
section
variable {l:List Ln} {per:Int}
theorem acD {x:Ln}:x∈xJ per l ↔ x∈l/\1000<x.r*per:=by unfold xJ;rw [List.mem_filter,zAe]
theorem yZ {x:Ln}:x∈flatL per l ↔ x∈l/\0<x.r/\x.r*per<=1000:=by unfold flatL;rw [List.mem_filter,zAe]
theorem aeU (hp:1<=per) {x:Ln} (h:x∈xJ per l) (hok:∀x∈l,yL x):0<x.r:=by
 have h1:=acD.1 h
 have:=(hok x h1.1).2.2.1
 rcases Int.lt_or_eq_of_le this with h2|h2
 ·exact h2
 ·rw [<-h2] at h1;omega
theorem afG {x:Ln} (hr:0<x.r) (h:1000<x.r*per) (y:Int):uC (y+1) x<=uC y x+per:=by
 have h1:=(jw hr y _).1 (zAV (uC y x))
 refine (jw hr _ _).2 ?_
 rw [Int.mul_add]
 omega
theorem agD {x:Ln} (hr:0<x.r) (h:x.r*per<=1000) (y:Int):uC y x+per<=uC (y+1) x:=by
 have h1:=(jw hr (y+1) _).1 (zAV (uC (y+1) x))
 have:uC y x<=uC (y+1) x - per:=by
  refine (jw hr _ _).2 ?_
  have e:=Int.mul_sub x.r (uC (y+1) x) per
  omega
 omega
theorem axX {x:Ln} (hr:0<x.r):uC x.b x<=0:=(jw hr _ _).2 zA1
theorem afU (hp:1<=per) (hok:∀x∈l,yL x) (y:Int):xB (xJ per l) per y<=xB (xJ per l) per (y+1):=by
 have h:yM (y+1) 0 (xJ per l)<=yM y 0 (xJ per l)+per:=(uJ _ _ _ _).2 ⟨by have:=uV y (xJ per l);omega,λx hx hb=>by
  have hr:=aeU hp hx hok
  have h1:=afG hr (acD.1 hx).2 y
  by_cases hb2:x.b<y
  ·have:=kM hx hb2;omega
  ·have e:x.b=y:=by omega
   have:=axX hr
   rw [e] at this
   have:=uV y (xJ per l)
   omega⟩
 unfold xB
 rw [Int.mul_add]
 omega
theorem ahW {top:Int} (hp:1<=per) (hok:∀x∈l,yL x) (hx:∃x∈flatL per l,x.b=top) (y:Int) (hy:top<=y):xB (flatL per l) per (y+1)<=xB (flatL per l) per y:=by
 have h:yM y 0 (flatL per l)<=yM (y+1) 0 (flatL per l) - per:=(uJ _ _ _ _).2 ⟨by
  obtain ⟨x,hx,e⟩:=hx
  obtain ⟨h1,h2,h3⟩:=yZ.1 hx
  have h4:=kM hx (show x.b<y+1 by omega)
  have h5:=(jw h2 (y+1) _).1 h4
  have h6:¬yM (y+1) 0 (flatL per l)<per:=λh7=>by
   have:=Int.mul_le_mul_of_nonneg_left (show yM (y+1) 0 (flatL per l)<=per - 1 by omega) (Int.le_of_lt h2)
   rw [Int.mul_sub] at this
   omega
  omega,λx hx hb=>by
  obtain ⟨h1,h2,h3⟩:=yZ.1 hx
  have:=kM hx (show x.b<y+1 by omega)
  have:=agD h2 h3 y
  omega⟩
 unfold xB
 rw [Int.mul_add]
 omega
theorem aw2 {top:Int} (hp:1<=per) (ht:∀x∈flatL per l,top<=x.b) (y:Int) (hy:y<=top):xB (flatL per l) per y<=xB (flatL per l) per top:=by
 have h:∀z,z<=top->yM z 0 (flatL per l)=0:=λz hz=>by
  have h1:yM z 0 (flatL per l)<=0:=(uJ _ _ _ _).2 ⟨zAV _,λx hx hb=>by have:=ht x hx;omega⟩
  have:=uV z (flatL per l)
  omega
 unfold xB
 rw [h y hy,h top (zAV _)]
 have:=Int.mul_le_mul_of_nonneg_left hy (show 0<=per by omega)
 omega
theorem uB (hok:∀x∈l,yL x):0<=xU per l/\(xU per l=0 ↔ ∀x∈l,x.r≠0/\¬(0<x.r/\x.r*per<=1000))/\(∀x∈flatL per l,xU per l<=x.b)/\xU per l<=xM l/\(0<xU per l->xU per l<xM l->∃x∈flatL per l,x.b=xU per l)/\(∀x∈l,x.r=0->xM l<=x.b)/\(0<xU per l->∃x∈l,x.b=xU per l/\x.r*per<=1000)/\(xM l=35184372088832\/∃x∈l,x.r=0/\x.b=xM l)/\(0<xU per l->xM l=35184372088832->∃x∈flatL per l,True):=by
 have hz:∀x∈l.filter (λx=>decide (x.r=0)),x∈l/\x.r=0:=λx hx=>by rwa [List.mem_filter,zAe] at hx
 obtain ⟨r1,r2,r3,r4,r5⟩:=ai2 (l.filter λx=>decide (x.r=0)) (λx hx=>(hok x (hz x hx).1).1) 0 (zAV _)
 obtain ⟨t1,t2,t3,t4,t5⟩:=ai2 (flatL per l) (λx hx=>(hok x (yZ.1 hx).1).1) 0 (zAV _)
 rw [<-aoB] at*
 have hb:∀x∈l,x.b<=20000:=λx hx=>(hok x hx).2.1
 have hr0:wI 0 l=0->∀x∈l,x.r≠0:=λh x hx e=>by
  have h9:=(r2.1 h).2
  have:x∈l.filter (λx=>decide (x.r=0)):=List.mem_filter.2 ⟨hx,zAI e⟩
  rw [h9] at this
  cases this
 have ht0:ut 0 (flatL per l)=0->∀x∈l,¬(0<x.r/\x.r*per<=1000):=λh x hx e=>by
  have h9:=(t2.1 h).2
  have:x∈flatL per l:=yZ.2 ⟨hx,e⟩
  rw [h9] at this
  cases this
 have r6:0<wI 0 l->∃x∈l,x.r=0/\x.b=wI 0 l:=λh=>by
  rcases r5 with e|⟨x,hx,e⟩
  ·omega
  ·exact ⟨x,(hz x hx).1,(hz x hx).2,e.symm⟩
 have t6:0<ut 0 (flatL per l)->∃x∈flatL per l,x.b=ut 0 (flatL per l):=λh=>by
  rcases t5 with e|⟨x,hx,e⟩
  ·omega
  ·exact ⟨x,hx,e.symm⟩
 have r7:∀x∈l,x.r=0->wI 0 l<=x.b:=λx hx e=>r4 x (List.mem_filter.2 ⟨hx,zAI e⟩)
 have r8:wI 0 l<=20000:=by
  rcases Int.lt_or_eq_of_le r1 with h|h
  ·obtain ⟨x,hx,_,e⟩:=r6 h
   have:=hb x hx
   omega
  ·omega
 have t8:ut 0 (flatL per l)<=20000:=by
  rcases Int.lt_or_eq_of_le t1 with h|h
  ·obtain ⟨x,hx,e⟩:=t6 h
   have:=hb x (yZ.1 hx).1
   omega
  ·omega
 generalize hR:wI 0 l=R at*
 generalize hT:ut 0 (flatL per l)=T at*
 have eR:xM l=if R=0 then 35184372088832 else R:=by unfold xM;rw [hR]
 have eT:xU per l=if 0<R/\(T=0\/R<T) then R else T:=by unfold xU;rw [hR,hT]
 rw [eR,eT]
 refine ⟨by split<;>omega,⟨λh x hx=>?_,λh=>?_⟩,λx hx=>?_,?_,λh1 h2=>?_,λx hx e=>?_,λh=>?_,?_,λh h2=>?_⟩
 ·have:R=0/\T=0:=by split at h<;>omega
  exact ⟨hr0 this.1 x hx,ht0 this.2 x hx⟩
 ·have e1:R=0:=by
   rcases Int.lt_or_eq_of_le r1 with h9|h9
   ·obtain ⟨x,hx,e,_⟩:=r6 h9;exact zAv e (h x hx).1
   ·omega
  have e2:T=0:=by
   rcases Int.lt_or_eq_of_le t1 with h9|h9
   ·obtain ⟨x,hx,e⟩:=t6 h9;exact zAv (yZ.1 hx).2 (h x (yZ.1 hx).1).2
   ·omega
  rw [z6 zO]
  exact e2
 ·have:=t4 x hx
  have:T≠0:=λe=>ht0 e x (yZ.1 hx).1 (yZ.1 hx).2
  split<;>omega
 ·by_cases hR0:R=0
  ·rw [zp hR0,z6 zO];omega
  ·rw [z6 hR0]
   by_cases hc:0<R/\(T=0\/R<T)
   ·rw [zp hc];exact zAV _
   ·rw [z6 hc];omega
 ·by_cases hc:0<R/\(T=0\/R<T)
  ·rw [zp hc,z6 zO] at h2;omega
  ·rw [z6 hc] at h1 ⊢
   exact t6 h1
 ·have:=r7 x hx e
  have:R≠0:=λe2=>hr0 e2 x hx e
  rw [z6 this];omega
 ·by_cases hc:0<R/\(T=0\/R<T)
  ·rw [zp hc]
   obtain ⟨x,hx,e,e2⟩:=r6 hc.1
   exact ⟨x,hx,e2,by rw [e];omega⟩
  ·rw [z6 hc] at h ⊢
   obtain ⟨x,hx,e⟩:=t6 h
   exact ⟨x,(yZ.1 hx).1,e,(yZ.1 hx).2.2⟩
 ·by_cases hR0:R=0
  ·rw [zp hR0];exact .inl rfl
  ·rw [z6 hR0]
   exact .inr (r6 zO)
 ·by_cases hR0:R=0
  ·rw [z6 zO] at h
   obtain ⟨x,hx,_⟩:=t6 h
   exact ⟨x,hx,trivial⟩
  ·rw [z6 hR0] at h2
   omega
theorem ah4 (y:Int):afD per l y=min (xB (xJ per l) per y) (xB (flatL per l) per y):=by
 unfold afD xB
 rw [as1]
 omega
theorem ac3 (hp:1<=per) (hok:∀x∈l,yL x) (h0:0<xU per l):(xU per l+dN per l<=xM l/\∀y,y<=xM l->afD per l y<=abK per l)/\(0<dN per l->yM (xU per l+dN per l - 1) 0 (flatL per l)<yM (xU per l+dN per l - 1) 0 (xJ per l)):=by
 obtain ⟨s1,s2,s3,s4,s5,s6,s7⟩:=uB (per:=per) hok
 obtain ⟨⟨p1,p2⟩,p3⟩:=a3R (S:=xB (xJ per l) per) (F:=xB (flatL per l) per) s4 (afU hp hok) (λy hy hy2=>ahW hp hok (s5 h0 zO) y hy) (aw2 hp s3) (dN per l) rfl
 refine ⟨⟨p1,λy hy=>?_⟩,λh=>?_⟩
 ·have:=p2 y hy
  unfold abK
  rw [ah4,ah4,ah4]
  exact this
 ·have:=p3 h
  unfold xB at this
  omega
theorem auF (hp:1<=per) (hok:∀x∈l,yL x) (hl:0<l.length) (h0:0<xU per l) {T:Int} (hT0:0<=T) (hT1:T<=1099511627776):per*qP l T - T<=abK per l:=by
 obtain ⟨s1,s2,s3,s4,s5,s6,s7,s8,s9⟩:=uB (per:=per) hok
 obtain ⟨⟨p1,p2⟩,p3⟩:=ac3 hp hok h0
 have hy:qP l T<=xM l:=by
  rcases s8 with e|⟨x,hx,e,e2⟩
  ·obtain ⟨x,hx,_⟩:=s9 h0 e
   obtain ⟨m1,m2,m3⟩:=yZ.1 hx
   have h9:=vG m1 T
   have h8:=(hok x m1).2.1
   have h7:x.r<=1000:=by
    have:=Int.mul_le_mul_of_nonneg_left hp (Int.le_of_lt m2)
    omega
   have h6:=zAc h7 hT0
   unfold lineAt at h9
   omega
  ·have h9:=vG hx T
   unfold lineAt at h9
   rw [e,Int.zero_mul] at h9
   omega
 have hm:yM (qP l T) 0 (xJ per l++flatL per l)<=T:=(uJ _ _ _ _).2 ⟨hT0,λx hx hb=>by
  have hxl:x∈l/\0<x.r:=by
   rcases zAQ.1 hx with h|h
   ·exact ⟨(acD.1 h).1,aeU hp h hok⟩
   ·exact ⟨(yZ.1 h).1,(yZ.1 h).2.1⟩
  exact (jw hxl.2 _ _).2 ((as9 x _ _).1 (vG hxl.1 T))⟩
 have h9:=p2 _ hy
 unfold afD xB at h9
 omega
theorem auI:∃y,(y=xU per l+dN per l\/(0<dN per l/\y=xU per l+dN per l - 1))/\abK per l=afD per l y:=by
 unfold abK
 by_cases h:0<dN per l
 ·rw [zp h]
  by_cases h2:afD per l (xU per l+dN per l)<=afD per l (xU per l+dN per l - 1)
  ·exact ⟨_,.inr ⟨h,rfl⟩,by omega⟩
  ·exact ⟨_,.inl rfl,by omega⟩
 ·rw [z6 h]
  exact ⟨_,.inl rfl,rfl⟩
theorem az7 (hp:1<=per) (hok:∀x∈l,yL x) (h0:0<xU per l) (a b:Nat) (hab:a<=b) (hb:b<(xM l - xU per l).toNat) (h:dP per l a=true):dP per l b=true:=by
 obtain ⟨s1,s2,s3,s4,s5,s6,s7⟩:=uB (per:=per) hok
 obtain ⟨d,rfl⟩:∃d,b=a+d:=⟨b - a,by omega⟩
 clear hab
 induction d with
 |zero=>exact h
 |succ d ih=>
  have h1:=of_decide_eq_true (ih zO)
  apply zAI
  have e:xU per l+((a+(d+1):Nat):Int)=xU per l+((a+d:Nat):Int)+1:=zO
  rw [e]
  have h2:=afU hp hok (xU per l+((a+d:Nat):Int))
  have h3:=ahW hp hok (s5 h0 zO) (xU per l+((a+d:Nat):Int)) zO
  omega
theorem apT (hok:∀x∈l,yL x):xM l<=35184372088832:=by
 obtain ⟨s1,s2,s3,s4,s5,s6,s7,s8,s9⟩:=uB (per:=1) hok
 rcases s8 with e|⟨x,hx,_,e⟩
 ·omega
 ·have:=(hok x hx).2.1
  omega
end
def bzP (per:Int) (x:Ln) (k:Nat):Bool:=decide (x.r*(per*(x.b+k)) / 1000<=k)
def bzK (per:Int) (x:Ln):Nat:=(List.range 68719476736).countP λk=> !bzP per x k
def bzT (per:Int) (x:Ln):Int:=per*(x.b+bzK per x)
def bzF (per:Int):Int->List Ln->Int
 |t,[]=>t
 |t,x::r=>bzF per (if 1000<=x.r*per then t else if t=0\/bzT per x<t then bzT per x else t) r
section
variable {per:Int} {x:Ln} {l:List Ln}
theorem arF (k:Nat):bzP per x k=true ↔ x.r*per*x.b+x.r*per*k<1000*(k+1):=by
 unfold bzP
 rw [zAe,<-Int.lt_add_one_iff,Int.ediv_lt_iff_lt_mul zO,<-Int.mul_assoc,Int.mul_add,zAl 1000]
theorem am3 (h:x.r*per<1000) (k:Nat) (hk:bzP per x k=true):bzP per x (k+1)=true:=by
 rw [arF] at hk ⊢
 have e:x.r*per*((k+1:Nat):Int)=x.r*per*k+x.r*per:=by rw [show ((k+1:Nat):Int)=(k:Int)+1 by omega,Int.mul_add,Int.mul_one]
 rw [e]
 omega
theorem a0C (hp:1<=per) (hok:yL x) (h:x.r*per<1000):bzP per x (999*x.b).toNat=true:=by
 rw [arF]
 have h1:=hok.1
 have h0:0<=x.r*per:=zAY hok.2.2.1 zO
 have e:(((999*x.b).toNat:Nat):Int)=999*x.b:=zO
 rw [e]
 have e2:x.r*per*(999*x.b)=999*(x.r*per*x.b):=by rw [Int.mul_left_comm]
 rw [e2]
 have h2:=zAc (show x.r*per<=999 by omega) (show 0<=x.b by omega)
 omega
theorem am4 (hp:1<=per) (hok:yL x) (h:x.r*per<1000):bzP per x (bzK per x)=true/\(∀k,k<bzK per x->bzP per x k=false)/\(bzK per x:Int)<=999*x.b:=by
 obtain ⟨h1,h2,h3⟩:=ah6 (bzP per x) 68719476736 (λk _=>am3 h k) (bzK per x) rfl
 have hs:=a0C hp hok h
 have hb:=hok.2.1
 have hb1:=hok.1
 have h4:(bzK per x:Int)<=999*x.b:=by
  by_cases hc:(bzK per x:Int)<=999*x.b
  ·exact hc
  ·have:=h2 (999*x.b).toNat zO
   rw [this] at hs
   cases hs
 exact ⟨h3 _ (zD _) zO,h2,h4⟩
theorem arE (hp:1<=per) (hok:yL x):per<=bzT per x/\1<=bzT per x:=by
 unfold bzT
 have h1:=hok.1
 have:=Int.mul_le_mul_of_nonneg_left (show 1<=x.b+bzK per x by omega) (show 0<=per by omega)
 omega
theorem a0D (hp:1<=per) (hp2:per<=1000) (hok:yL x) (h:x.r*per<1000):bzT per x<=1000*(1000*x.b):=by
 unfold bzT
 have h1:=hok.1
 have h2:=(am4 hp hok h).2.2
 exact Int.mul_le_mul hp2 zO zO zO
theorem ax0 (hp:1<=per) (l:List Ln) (hok:∀x∈l,yL x) (t:Int) (ht:0<=t):0<=bzF per t l/\(bzF per t l=0 ↔ t=0/\∀x∈l,1000<=x.r*per)/\(0<t->bzF per t l<=t)/\(∀x∈l,x.r*per<1000->bzF per t l<=bzT per x)/\(bzF per t l=t\/∃x∈l,x.r*per<1000/\bzF per t l=bzT per x):=by
 induction l generalizing t with
 |nil=>simp [bzF,ht]
 |cons x r ih=>
  rw [bzF]
  have hx:=(arE hp (hok x zAD)).2
  obtain ⟨i1,i2,i3,i4,i5⟩:=ih (λz hz=>hok z (zAJ _ hz)) (if 1000<=x.r*per then t else if t=0\/bzT per x<t then bzT per x else t) (by split;exact ht;split<;>omega)
  by_cases hf:1000<=x.r*per
  ·rw [zp hf] at*
   refine ⟨i1,⟨λh=>⟨(i2.1 h).1,λz hz=>?_⟩,λh=>i2.2 ⟨h.1,λz hz=>h.2 z (zAJ _ hz)⟩⟩,i3,λz hz hr=>?_,?_⟩
   ·rcases zAM.1 hz with rfl|hz
    ·exact hf
    ·exact (i2.1 h).2 z hz
   ·rcases zAM.1 hz with rfl|hz
    ·omega
    ·exact i4 z hz hr
   ·rcases i5 with h|⟨z,hz,h⟩
    ·exact .inl h
    ·exact .inr ⟨z,zAJ _ hz,h⟩
  ·rw [z6 hf] at*
   refine ⟨i1,⟨λh=>?_,λh=>zAv (h.2 x zAD) hf⟩,λh=>?_,λz hz hr=>?_,?_⟩
   ·have:=(i2.1 h).1
    by_cases hc:t=0\/bzT per x<t
    ·rw [zp hc] at this;omega
    ·rw [z6 hc] at this;omega
   ·by_cases hc:t=0\/bzT per x<t
    ·rw [zp hc] at i3 ⊢
     have:=i3 zO
     omega
    ·rw [z6 hc] at i3 ⊢
     exact i3 h
   ·rcases zAM.1 hz with rfl|hz
    ·by_cases hc:t=0\/bzT per z<t
     ·rw [zp hc] at i3 ⊢
      exact i3 zO
     ·rw [z6 hc] at i3 ⊢
      have:=i3 zO
      omega
    ·exact i4 z hz hr
   ·rcases i5 with h|⟨z,hz,h⟩
    ·by_cases hc:t=0\/bzT per x<t
     ·rw [zp hc] at h ⊢
      exact .inr ⟨x,zAD,by omega,h⟩
     ·rw [z6 hc] at h ⊢
      exact .inl h
    ·exact .inr ⟨z,zAJ _ hz,h⟩
def bzV (per:Int) (l:List Ln):Int:=bzF per 0 l
theorem axZ (hp:1<=per) (hok:∀x∈l,yL x):0<=bzV per l/\(bzV per l=0 ↔ ∀x∈l,1000<=x.r*per)/\(∀x∈l,x.r*per<1000->bzV per l<=bzT per x)/\(0<bzV per l->∃x∈l,x.r*per<1000/\bzV per l=bzT per x):=by
 obtain ⟨h1,h2,h3,h4,h5⟩:=ax0 hp l hok 0 (zAV _)
 refine ⟨h1,⟨λh=>(h2.1 h).2,λh=>h2.2 ⟨rfl,h⟩⟩,h4,λh=>?_⟩
 rcases h5 with e|e
 ·unfold bzV at h;omega
 ·exact e
end
def TT (p a c:Ln):Prop:=(a.b - p.b)*(a.r - c.r)<(c.b - a.b)*(p.r - a.r)
instance (p a c:Ln):Decidable (TT p a c):=by unfold TT;exact inferInstance
def ajG (a b c:Ln):Bool:=decide ((c.b - a.b)*(a.r - b.r)<=(b.b - a.b)*(a.r - c.r))
theorem needB_iff (p a c:Ln):ajG p a c=true ↔ ¬TT p a c:=by
 unfold ajG TT
 rw [zAe]
 have e1:(c.b - p.b)*(p.r - a.r)=(c.b - a.b)*(p.r - a.r)+(a.b - p.b)*(p.r - a.r):=by rw [<-Int.add_mul];congr 1;omega
 have e2:(a.b - p.b)*(p.r - c.r)=(a.b - p.b)*(p.r - a.r)+(a.b - p.b)*(a.r - c.r):=zBq
 rw [e1,e2]
 omega
def hullPop (x:Ln):List Ln->List Ln
 |b::a::r=>if ajG a b x then hullPop x (a::r) else b::a::r
 |l=>l
def zT (st:List Ln) (x:Ln):List Ln:=match st with
 |[]=>[x]
 |t::r=>if t.r<=x.r then t::r else x::hullPop x (t::r)
def ajS (l:List Ln):List Ln:=l.foldl zT []
def vv (n d:Int) (x:Ln):Int:=x.b*d+x.r*n
def wV:List Ln->Prop
 |c::a::p::r=>a.b<c.b/\c.r<a.r/\TT p a c/\wV (a::p::r)
 |[c,a]=>a.b<c.b/\c.r<a.r
 |_=>True
theorem wV.tail {c:Ln} {r:List Ln} (h:wV (c::r)):wV r:=by
 match r,h with
 |[],_=>trivial
 |[a],_=>trivial
 |a::p::r,h=>exact h.2.2.2
theorem wV.head {c a:Ln} {r:List Ln} (h:wV (c::a::r)):a.b<c.b/\c.r<a.r:=by
 match r,h with
 |[],h=>exact h
 |p::r,h=>exact ⟨h.1,h.2.1⟩
theorem wV.app {u v:List Ln} (h:wV (u++v)):wV v:=by
 induction u with
 |nil=>exact h
 |cons c u ih=>exact ih h.tail
theorem wV.below {c:Ln} {r:List Ln} (h:wV (c::r)):∀x∈r,x.b<c.b/\c.r<x.r:=by
 induction r generalizing c with
 |nil=>simp
 |cons a r ih=>
  intro x hx
  have h1:=h.head
  rcases zAM.1 hx with rfl|hx
  ·exact h1
  ·have:=ih h.tail x hx
   omega
theorem a3S {A B C D d n:Int} (hB:0<B) (hd:0<d) (hD:0<D) (h1:A*B<C*D) (h2:C*d<=B*n):A*d<D*n:=by
 have e1:=Int.mul_lt_mul_of_pos_right h1 hd
 have e2:=zAc h2 (Int.le_of_lt hD)
 have e3:A*B*d=B*(A*d):=by rw [zAl A B,Int.mul_assoc]
 have e4:C*D*d=C*d*D:=by rw [Int.mul_assoc,zAl D d,Int.mul_assoc]
 have e5:B*n*D=B*(D*n):=by rw [Int.mul_assoc,zAl n D]
 have e6:B*(A*d)<B*(D*n):=zO
 exact Int.lt_of_mul_lt_mul_left e6 (Int.le_of_lt hB)
theorem aaQ {n d:Int} {x y:Ln}:vv n d x<=vv n d y ↔ (x.b - y.b)*d<=(y.r - x.r)*n:=by
 unfold vv
 rw [Int.sub_mul,Int.sub_mul]
 omega
theorem ap6 {n d:Int} {x y:Ln}:vv n d x<vv n d y ↔ (x.b - y.b)*d<(y.r - x.r)*n:=by
 unfold vv
 rw [Int.sub_mul,Int.sub_mul]
 omega
theorem a2X {n d:Int} {e p a:Ln} (hd:0<d) (h1:p.r<e.r) (h2:a.r<p.r) (ht:TT e p a) (hv:vv n d a<=vv n d p):vv n d p<vv n d e:=by
 rw [ap6]
 exact a3S (B:=p.r - a.r) (C:=a.b - p.b) zO hd zO ht (aaQ.1 hv)
theorem up1 {n d:Int} {p a c:Ln} (hd:0<d) (h1:a.r<p.r) (h2:c.r<a.r) (ht:TT p a c) (hv:vv n d p<=vv n d a):vv n d a<vv n d c:=by
 have h3:=aaQ.1 hv
 unfold TT at ht
 have e1:(a.b - c.b)*d<(c.r - a.r)*n:=by
  have g1:0<p.r - a.r:=zO
  have k1:=Int.mul_lt_mul_of_pos_right ht hd
  have k2:(p.r - a.r)*n<=(a.b - p.b)*d:=by
   have x1:(p.b - a.b)*d=-((a.b - p.b)*d):=zBT
   have x2:(a.r - p.r)*n=-((p.r - a.r)*n):=zBT
   omega
  have k3:=Int.mul_le_mul_of_nonneg_left k2 (show 0<=a.r - c.r by omega)
  have e3:(a.b - p.b)*(a.r - c.r)*d=(a.r - c.r)*((a.b - p.b)*d):=by rw [zAl (a.b - p.b),Int.mul_assoc]
  have e4:(c.b - a.b)*(p.r - a.r)*d=(p.r - a.r)*((c.b - a.b)*d):=by rw [zAl (c.b - a.b),Int.mul_assoc]
  have e5:(a.r - c.r)*((p.r - a.r)*n)=(p.r - a.r)*((a.r - c.r)*n):=Int.mul_left_comm _ _ _
  have k4:(p.r - a.r)*((a.r - c.r)*n)<(p.r - a.r)*((c.b - a.b)*d):=zO
  have k5:=Int.lt_of_mul_lt_mul_left k4 (Int.le_of_lt g1)
  have x1:(a.b - c.b)*d=-((c.b - a.b)*d):=zBT
  have x2:(c.r - a.r)*n=-((a.r - c.r)*n):=zBT
  omega
 exact ap6.2 e1
theorem apY {n d:Int} (hd:0<d) {a p:Ln} {r:List Ln} (h:wV (a::p::r)) (hv:vv n d a<=vv n d p):∀x∈r,vv n d p<=vv n d x:=by
 induction r generalizing a p with
 |nil=>simp
 |cons e r ih=>
  intro x hx
  have h1:=h.head
  have h2:=h.tail.head
  have h3:TT e p a:=h.2.2.1
  have h4:=a2X hd h2.2 h1.2 h3 hv
  rcases zAM.1 hx with rfl|hx
  ·omega
  ·have:=ih h.tail (Int.le_of_lt h4) x hx
   omega
theorem axT {n d:Int} (hd:0<d) (u:List Ln) {a p:Ln} {r:List Ln} (h:wV (u.reverse++a::p::r)) (hv:vv n d p<=vv n d a):∀x∈u,vv n d a<=vv n d x:=by
 induction u generalizing a p r with
 |nil=>simp
 |cons c u ih=>
  intro x hx
  rw [List.reverse_cons,zAi] at h
  have hc:wV (c::a::p::r):=h.app
  have h1:=hc.head
  have h2:=hc.tail.head
  have h4:=up1 hd h2.2 h1.2 hc.2.2.1 hv
  rcases zAM.1 hx with rfl|hx
  ·omega
  ·have:=ih h (Int.le_of_lt h4) x hx
   omega
theorem ac6 {u r:List Ln} {a p:Ln} (h:wV (u++a::p::r)):∀x∈u++a::p::r,vv (a.b - p.b) (p.r - a.r) a<=vv (a.b - p.b) (p.r - a.r) x:=by
 have hc:wV (a::p::r):=h.app
 have h1:=hc.head
 have heq:vv (a.b - p.b) (p.r - a.r) a=vv (a.b - p.b) (p.r - a.r) p:=by
  have e1:=aaQ (n:=a.b - p.b) (d:=p.r - a.r) (x:=a) (y:=p)
  have e2:=aaQ (n:=a.b - p.b) (d:=p.r - a.r) (x:=p) (y:=a)
  have e3:(a.b - p.b)*(p.r - a.r)=(p.r - a.r)*(a.b - p.b):=zAl _ _
  have e4:(p.b - a.b)*(p.r - a.r)=(a.r - p.r)*(a.b - p.b):=zFF
  have:=e1.2 zO
  have:=e2.2 zO
  omega
 intro x hx
 rcases zAQ.1 hx with hx|hx
 ·have:=axT (n:=a.b - p.b) (d:=p.r - a.r) zO u.reverse (by rw [List.reverse_reverse];exact h) zO x (List.mem_reverse.2 hx)
  omega
 ·rcases zAM.1 hx with rfl|hx
  ·omega
  ·rcases zAM.1 hx with rfl|hx
   ·omega
   ·have:=apY (n:=a.b - p.b) (d:=p.r - a.r) zO hc zO x hx
    omega
structure HI (s st:List Ln):Prop where
 ch:wV st
 sub:∀x∈st,x∈s
 nil:st=[]->s=[]
 top:∀t r,st=t::r->∀y∈s,t.r<=y.r
 bot:∀u t,st=u++[t]->∀y∈s,t.b<=y.b/\(t.b=y.b->t.r<=y.r)
 env:∀n d:Int,0<=n->0<d->∀y∈s,∃x∈st,vv n d x<=vv n d y
theorem ay3 {x:Ln} {st:List Ln}:∀y∈hullPop x st,y∈st:=by
 induction st with
 |nil=>exact λy h=>h
 |cons b r ih=>
  match r,ih with
  |[],_=>exact λy h=>h
  |a::r,ih=>
   rw [hullPop]
   split
   ·exact λy h=>zAJ _ (ih y h)
   ·exact λy h=>h
theorem a03 {x:Ln} {t:Ln} {r:List Ln}:hullPop x (t::r)≠[]:=by
 induction r generalizing t with
 |nil=>simp [hullPop]
 |cons a r ih=>
  rw [hullPop]
  split
  ·exact ih
  ·simp
theorem ay5 {x:Ln} {st:List Ln}:∀(u:List Ln) (t:Ln),hullPop x st=u++[t]->∃u',st=u'++[t]:=by
 induction st with
 |nil=>exact λu t h=>⟨u,h⟩
 |cons b r ih=>
  match r,ih with
  |[],_=>exact λu t h=>⟨u,h⟩
  |a::r,ih=>
   rw [hullPop]
   split
   ·intro u t h
    obtain ⟨u',e⟩:=ih u t h
    exact ⟨b::u',by rw [e];rfl⟩
   ·exact λu t h=>⟨u,h⟩
theorem aoL {x:Ln} {st:List Ln} (h:wV st) (hx:∀y∈st,y.b<x.b/\x.r<y.r):wV (x::hullPop x st):=by
 induction st with
 |nil=>trivial
 |cons b r ih=>
  match r,h,ih,hx with
  |[],h,_,hx=>exact hx b zAD
  |a::r,h,ih,hx=>
   rw [hullPop]
   split
   ·exact ih h.tail λy hy=>hx y (zAJ _ hy)
   ·rename_i hn
    have h1:=hx b zAD
    have h2:TT a b x:=by
     by_cases ht:TT a b x
     ·exact ht
     ·exact zAv ((needB_iff a b x).2 ht) hn
    exact ⟨h1.1,h1.2,h2,h⟩
theorem need_env {a b x:Ln} (h1:b.r<a.r) (h2:x.r<b.r) (h:¬TT a b x) {n d:Int} (hd:0<d):vv n d a<=vv n d b\/vv n d x<=vv n d b:=by
 by_cases hv:vv n d a<=vv n d b
 ·exact .inl hv
 ·right
  by_cases hx:vv n d x<=vv n d b
  ·exact hx
  ·exfalso
   apply h
   have g1:(b.b - a.b)*d<(a.r - b.r)*n:=ap6.1 zO
   have g2:(b.b - x.b)*d<(x.r - b.r)*n:=ap6.1 zO
   unfold TT
   have x1:(b.b - x.b)*d=-((x.b - b.b)*d):=zBT
   have x2:(x.r - b.r)*n=-((b.r - x.r)*n):=zBT
   have k1:=Int.mul_lt_mul_of_pos_right g1 (show 0<b.r - x.r by omega)
   have k2:(b.r - x.r)*n<(x.b - b.b)*d:=zO
   have k3:=Int.mul_lt_mul_of_pos_right k2 (show 0<a.r - b.r by omega)
   have e1:(b.b - a.b)*d*(b.r - x.r)=d*((b.b - a.b)*(b.r - x.r)):=by rw [zAl (b.b - a.b) d,Int.mul_assoc]
   have e2:(a.r - b.r)*n*(b.r - x.r)=(b.r - x.r)*n*(a.r - b.r):=by rw [Int.mul_assoc,zAl (a.r - b.r),zAl n]
   have e3:(x.b - b.b)*d*(a.r - b.r)=d*((x.b - b.b)*(a.r - b.r)):=by rw [zAl (x.b - b.b) d,Int.mul_assoc]
   have k4:d*((b.b - a.b)*(b.r - x.r))<d*((x.b - b.b)*(a.r - b.r)):=zO
   exact Int.lt_of_mul_lt_mul_left k4 (Int.le_of_lt hd)
theorem ay4 {x:Ln} {st:List Ln} (h:wV st) (hx:∀y∈st,x.r<y.r) {n d:Int} (hd:0<d):∀y∈st,∃z∈x::hullPop x st,vv n d z<=vv n d y:=by
 induction st with
 |nil=>simp
 |cons b r ih=>
  match r,h,ih,hx with
  |[],h,_,hx=>exact λy hy=>⟨y,zAJ _ hy,zAV _⟩
  |a::r,h,ih,hx=>
   rw [hullPop]
   split
   ·rename_i hn
    have ih:=ih h.tail λy hy=>hx y (zAJ _ hy)
    intro y hy
    rcases zAM.1 hy with rfl|hy
    ·rcases need_env h.head.2 (hx y zAD) ((needB_iff a y x).1 hn) (n:=n) hd with e|e
     ·obtain ⟨z,hz,e2⟩:=ih a zAD
      exact ⟨z,hz,by omega⟩
     ·exact ⟨x,zAD,e⟩
    ·exact ih y hy
   ·exact λy hy=>⟨y,zAJ _ hy,zAV _⟩
def aaY (a b:Ln):Prop:=a.b<b.b\/(a.b=b.b/\a.r<=b.r)
theorem HI.step {s st:List Ln} {x:Ln} (h:HI s st) (hx:∀y∈s,aaY y x) (hr:∀y∈s,0<=y.r):HI (s++[x]) (zT st x):=by
 cases st with
 |nil=>
  have hs:=h.nil rfl
  subst hs
  refine ⟨trivial,by simp [zT],by simp [zT],?_,?_,?_⟩
  ·intro t r e y hy
   simp [zT] at e hy
   rw [hy,<-e.1]
   exact zAV _
  ·intro u t e y hy
   simp at hy
   subst hy
   cases u with
   |nil=>simp [zT] at e;rw [e];exact ⟨zAV _,λ_=>zAV _⟩
   |cons a u=>simp [zT] at e
  ·intro n d hn hd y hy
   simp at hy
   subst hy
   exact ⟨y,by simp [zT],zAV _⟩
 |cons t r=>
  have htop:=h.top t r rfl
  have hts:t∈s:=h.sub t zAD
  unfold zT
  by_cases hc:t.r<=x.r
  ·simp only [zp hc]
   refine ⟨h.ch,λy hy=>List.mem_append_left _ (h.sub y hy),λe=>(by cases e),λt' r' e y hy=>?_,λu t' e y hy=>?_,λn d hn hd y hy=>?_⟩
   ·rcases zAQ.1 hy with hy|hy
    ·exact h.top t' r' e y hy
    ·simp at hy e
     rw [hy,<-e.1]
     exact hc
   ·rcases zAQ.1 hy with hy|hy
    ·exact h.bot u t' e y hy
    ·simp at hy
     subst hy
     have h1:=h.bot u t' e t hts
     have h2:=hx t hts
     unfold aaY at h2
     omega
   ·rcases zAQ.1 hy with hy|hy
    ·exact h.env n d hn hd y hy
    ·simp at hy
     subst hy
     refine ⟨t,zAD,?_⟩
     have h2:=hx t hts
     unfold aaY at h2
     unfold vv
     have:=zAc (show t.b<=y.b by omega) (Int.le_of_lt hd)
     have:=zAc hc hn
     omega
  ·simp only [z6 hc]
   have hlt:∀y∈t::r,y.b<x.b/\x.r<y.r:=λy hy=>by
    have h1:=htop y (h.sub y hy)
    have h2:=hx y (h.sub y hy)
    unfold aaY at h2
    omega
   refine ⟨aoL h.ch hlt,λy hy=>?_,λe=>(by cases e),λt' r' e y hy=>?_,λu t' e y hy=>?_,λn d hn hd y hy=>?_⟩
   ·rcases zAM.1 hy with rfl|hy
    ·simp
    ·exact List.mem_append_left _ (h.sub y (ay3 y hy))
   ·simp at e
    rw [<-e.1]
    rcases zAQ.1 hy with hy|hy
    ·have:=htop y hy;omega
    ·simp at hy;rw [hy];exact zAV _
   ·cases u with
    |nil=>
     simp at e
     exact zAv e.2 a03
    |cons z u=>
     simp at e
     obtain ⟨u',e'⟩:=ay5 u t' e.2
     have hb:=h.bot u' t' e'
     rcases zAQ.1 hy with hy|hy
     ·exact hb y hy
     ·simp at hy
      subst hy
      have h1:=hb t hts
      have h2:=hlt t zAD
      omega
   ·rcases zAQ.1 hy with hy|hy
    ·obtain ⟨z,hz,e1⟩:=h.env n d hn hd y hy
     obtain ⟨z',hz',e2⟩:=ay4 h.ch (λy hy=>(hlt y hy).2) (n:=n) hd z hz
     exact ⟨z',hz',by omega⟩
    ·simp at hy
     subst hy
     exact ⟨y,zAD,zAV _⟩
theorem awW (s2 s1 st:List Ln) (h:HI s1 st) (hs:(s1++s2).Pairwise aaY) (hr:∀y∈s1++s2,0<=y.r):HI (s1++s2) (s2.foldl zT st):=by
 induction s2 generalizing s1 st with
 |nil=>rw [zAo];exact h
 |cons x s2 ih=>
  rw [List.foldl_cons]
  have e:s1++x::s2=(s1++[x])++s2:=zA1
  rw [e] at hs hr ⊢
  refine ih (s1++[x]) _ (h.step (λy hy=>?_) λy hy=>hr y (by simp [hy])) hs hr
  have h2:=(List.pairwise_append.1 hs).1
  exact (List.pairwise_append.1 h2).2.2 y hy x zA1
theorem aq1 {s:List Ln} (hs:s.Pairwise aaY) (hr:∀y∈s,0<=y.r):HI s (ajS s):=by
 have h0:HI [] []:=⟨trivial,by simp,λ_=>rfl,by simp,by simp,by simp⟩
 have:=awW s [] [] h0 (by simpa using hs) (by simpa using hr)
 rw [zAa] at this
 exact this
theorem awV (s st:List Ln):(s.foldl zT st).length<=st.length+s.length:=by
 induction s generalizing st with
 |nil=>simp
 |cons x s ih=>
  rw [List.foldl_cons]
  have h1:=ih (zT st x)
  have h2:(zT st x).length<=st.length+1:=by
   cases st with
   |nil=>simp [zT]
   |cons t r=>
    show (if t.r<=x.r then t::r else x::hullPop x (t::r)).length<=_
    have hp:∀st:List Ln,(hullPop x st).length<=st.length:=λst=>by
     induction st with
     |nil=>simp [hullPop]
     |cons b r ih=>
      match r,ih with
      |[],_=>simp [hullPop]
      |a::r,ih=>
       rw [hullPop]
       split
       ·simp at ih ⊢;omega
       ·exact zD _
    by_cases hc:t.r<=x.r
    ·rw [zp hc];exact Nat.le_succ _
    ·rw [z6 hc]
     have:=hp (t::r)
     rw [zAL]
     omega
  rw [zAL]
  omega
structure PP (s:List Ln) (a:Ln):Prop where
 same:∀y∈s,y.r=a.r->y≠a->a.b<y.b
 flat:∀c∈s,c.r<a.r->a.b<c.b
 both:∀b∈s,∀c∈s,a.r<b.r->b.b<=a.b->c.r<a.r->TT b a c
theorem PP.congr {s s':List Ln} {a:Ln} (hm:∀y,y∈s'->y∈s) (h:PP s a):PP s' a:=⟨λy hy=>h.same y (hm y hy),λc hc=>h.flat c (hm c hc),λb hb c hc=>h.both b (hm b hb) c (hm c hc)⟩
theorem awE {x y:Ln} (h1:x.b=y.b) (h2:x.r=y.r):x=y:=by
 cases x;cases y;simp at h1 h2;rw [h1,h2]
theorem abL {u r:List Ln} {a:Ln} (h:wV (u++a::r)):∀x∈u,a.b<x.b/\x.r<a.r:=by
 induction u with
 |nil=>simp
 |cons c u ih=>
  intro x hx
  rcases zAM.1 hx with rfl|hx
  ·have:=h.below a zA1
   omega
  ·exact ih h.tail x hx
theorem a2O {P Q R S nL dL nR dR:Int} (hL:0<dL) (hR:0<dR) (hQ:0<Q) (hS:0<S) (h1:P*dL<=S*nL) (h2:Q*nR<=R*dR) (h3:nL*dR<nR*dL):P*Q<R*S:=by
 have k1:=zAc h1 (Int.le_of_lt (Int.mul_pos hQ hR))
 have k2:=zAc h2 (Int.le_of_lt (Int.mul_pos hS hL))
 have k3:=Int.mul_lt_mul_of_pos_left h3 (Int.mul_pos hQ hS)
 have e1:P*dL*(Q*dR)=(dL*dR)*(P*Q):=by
  rw [Int.mul_assoc P,Int.mul_left_comm dL,<-Int.mul_assoc P,zAl (P*Q)]
 have e2:S*nL*(Q*dR)=Q*S*(nL*dR):=by
  rw [zAl S nL,Int.mul_assoc nL,<-Int.mul_assoc S,zAl S Q,Int.mul_left_comm]
 have e3:Q*nR*(S*dL)=Q*S*(nR*dL):=by
  rw [Int.mul_assoc Q,Int.mul_left_comm nR,<-Int.mul_assoc Q]
 have e4:R*dR*(S*dL)=(dL*dR)*(R*S):=by
  rw [Int.mul_assoc R,Int.mul_left_comm dR,<-Int.mul_assoc R,zAl (R*S),zAl dR]
 have k4:(dL*dR)*(P*Q)<(dL*dR)*(R*S):=zO
 exact Int.lt_of_mul_lt_mul_left k4 (Int.le_of_lt (Int.mul_pos hL hR))
theorem ap5 {a p:Ln}:vv (a.b - p.b) (p.r - a.r) a=vv (a.b - p.b) (p.r - a.r) p:=by
 have e3:(a.b - p.b)*(p.r - a.r)=(p.r - a.r)*(a.b - p.b):=zAl _ _
 have e4:(p.b - a.b)*(p.r - a.r)=(a.r - p.r)*(a.b - p.b):=zFF
 have:=(aaQ (n:=a.b - p.b) (d:=p.r - a.r) (x:=a) (y:=p)).2 zO
 have:=(aaQ (n:=a.b - p.b) (d:=p.r - a.r) (x:=p) (y:=a)).2 zO
 omega
theorem azY {s st:List Ln} (h:HI s st) {a:Ln} (ha:a∈st):PP s a:=by
 obtain ⟨u,r,rfl⟩:=List.append_of_mem ha
 have hch:=h.ch
 obtain ⟨nL,dL,l0,l1,l2,l3⟩:∃nL dL:Int,0<=nL/\0<dL/\(∀y∈s,vv nL dL a<=vv nL dL y)/\∀c:Ln,∀u',u=u'++[c]->nL*(a.r - c.r)<(c.b - a.b)*dL:=by
  cases r with
  |nil=>
   refine ⟨0,1,by omega,by omega,λy hy=>?_,λc u' e=>?_⟩
   ·obtain ⟨x,hx,e⟩:=h.env 0 1 zO zO y hy
    unfold vv at e ⊢
    rcases zAQ.1 hx with hx|hx
    ·have:=abL hch x hx;omega
    ·simp at hx;subst hx;exact e
   ·have:=abL hch c (by rw [e];simp)
    rw [Int.zero_mul,Int.mul_one]
    omega
  |cons p r=>
   have hc:wV (a::p::r):=hch.app
   have h1:=hc.head
   refine ⟨a.b - p.b,p.r - a.r,by omega,by omega,λy hy=>?_,λc u' e=>?_⟩
   ·obtain ⟨x,hx,e⟩:=h.env (a.b - p.b) (p.r - a.r) zO zO y hy
    have:=ac6 hch x hx
    omega
   ·subst e
    rw [zAi] at hch
    have hc2:wV (c::a::p::r):=hch.app
    exact hc2.2.2.1
 have hflat:∀c∈s,c.r<a.r->∃nR dR:Int,0<nR/\0<dR/\(∀y∈s,vv nR dR a<=vv nR dR y)/\nL*dR<nR*dL:=by
  intro c hc hcr
  rcases List.eq_nil_or_concat u with e|⟨u',c',e⟩
  ·subst e
   have:=h.top a r rfl c hc
   omega
  ·rw [List.concat_eq_append] at e
   subst e
   have hch2:wV (u'++c'::a::r):=by simpa using hch
   have hc2:wV (c'::a::r):=hch2.app
   have h1:=hc2.head
   refine ⟨c'.b - a.b,a.r - c'.r,by omega,by omega,λy hy=>?_,l3 c' u' rfl⟩
   obtain ⟨x,hx,e⟩:=h.env (c'.b - a.b) (a.r - c'.r) zO zO y hy
   have h2:=ac6 hch2 x (by simpa using hx)
   have h3:=ap5 (a:=c') (p:=a)
   omega
 refine ⟨λy hy e hne=>?_,λc hc hcr=>?_,λb hb c hc hbr hbb hcr=>?_⟩
 ·have h1:=aaQ.1 (l2 y hy)
  rw [e,Int.sub_self,Int.zero_mul] at h1
  have h2:¬0<a.b - y.b:=λh9=>by have:=Int.mul_pos h9 l1;omega
  by_cases h3:y.b=a.b
  ·exact zAv (awE h3 e) hne
  ·omega
 ·obtain ⟨nR,dR,r0,r1,r2,_⟩:=hflat c hc hcr
  have h1:=aaQ.1 (r2 c hc)
  have h2:(c.r - a.r)*nR<0:=Int.mul_neg_of_neg_of_pos zO r0
  have h3:¬0<=a.b - c.b:=λh9=>by have:=zAY h9 (Int.le_of_lt r1);omega
  omega
 ·obtain ⟨nR,dR,r0,r1,r2,r3⟩:=hflat c hc hcr
  have h1:=aaQ.1 (l2 b hb)
  have h2:=aaQ.1 (r2 c hc)
  have h3:(a.r - c.r)*nR<=(c.b - a.b)*dR:=by
   have x1:(a.b - c.b)*dR=-((c.b - a.b)*dR):=zBT
   have x2:(c.r - a.r)*nR=-((a.r - c.r)*nR):=zBT
   omega
  exact a2O l1 r1 zO zO h1 h3 r3
theorem anU {st:List Ln} {z:Int}:∀{t:Ln} {r:List Ln},st=t::r->t.r<=z->(∃x∈st,z<x.r)->∃u c p v,st=u++c::p::v/\c.r<=z/\z<p.r:=by
 induction st with
 |nil=>intro t r e;cases e
 |cons a st ih=>
  intro t r e ht hx
  simp at e
  obtain ⟨rfl,rfl⟩:=e
  cases st with
  |nil=>
   obtain ⟨x,hx,hz⟩:=hx
   simp at hx
   subst hx
   omega
  |cons b st=>
   by_cases hb:z<b.r
   ·exact ⟨[],a,b,st,rfl,ht,hb⟩
   ·obtain ⟨x,hx,hz⟩:=hx
    have hx2:x∈b::st:=by
     rcases zAM.1 hx with rfl|hx
     ·omega
     ·exact hx
    obtain ⟨u,c,p,v,e,h1,h2⟩:=ih rfl zO ⟨x,hx2,hz⟩
    exact ⟨a::u,c,p,v,by rw [e];rfl,h1,h2⟩
theorem a0L {s st:List Ln} (h:HI s st) {a:Ln} (ha:a∈s) (hp:PP s a):a∈st:=by
 by_cases hin:a∈st
 ·exact hin
 ·exfalso
  cases st with
  |nil=>rw [h.nil rfl] at ha;cases ha
  |cons t r=>
   have htop:=h.top t r rfl a ha
   rcases List.eq_nil_or_concat (t::r) with e|⟨u,h0,e⟩
   ·cases e
   ·rw [List.concat_eq_append] at e
    have hbot:=h.bot u h0 e a ha
    have h0s:h0∈s:=h.sub h0 (by rw [e];simp)
    by_cases hr:h0.r<=a.r
    ·by_cases her:h0.r=a.r
     ·have:=hp.same h0 h0s her (λe2=>hin (by rw [e,<-e2];simp))
      omega
     ·have:=hp.flat h0 h0s zO
      omega
    ·obtain ⟨u,c,p,v,e2,h1,h2⟩:=anU rfl htop ⟨h0,by rw [e];simp,by omega⟩
     have hch:=h.ch
     have hsub:=h.sub
     have henv:=h.env
     rw [e2] at hch hsub henv hin
     have hcp:wV (c::p::v):=hch.app
     have h3:=hcp.head
     have hcs:c∈s:=hsub c zA1
     have hps:p∈s:=hsub p zA1
     obtain ⟨x,hx,e3⟩:=henv (c.b - p.b) (p.r - c.r) zO zO a ha
     have h4:=ac6 hch x hx
     have h5:vv (c.b - p.b) (p.r - c.r) c<=vv (c.b - p.b) (p.r - c.r) a:=zO
     have h6:=ap5 (a:=c) (p:=p)
     by_cases hcr:c.r=a.r
     ·have h7:=hp.same c hcs hcr (λe9=>hin (by rw [<-e9];simp))
      have h8:=aaQ.1 h5
      rw [hcr,Int.sub_self,Int.zero_mul] at h8
      have:=Int.mul_pos (show 0<c.b - a.b by omega) (show 0<p.r - a.r by omega)
      omega
     ·have hcr2:c.r<a.r:=by omega
      have h7:=hp.flat c hcs hcr2
      by_cases hpb:p.b<=a.b
      ·have h8:=hp.both p hps c hcs h2 hpb hcr2
       unfold TT at h8
       have h9:=aaQ.1 h5
       have e1:(c.b - a.b)*(p.r - c.r)=(c.b - a.b)*(p.r - a.r)+(c.b - a.b)*(a.r - c.r):=zBq
       have e2':(a.r - c.r)*(c.b - p.b)=(a.r - c.r)*(c.b - a.b)+(a.r - c.r)*(a.b - p.b):=zBq
       have e3':(c.b - a.b)*(a.r - c.r)=(a.r - c.r)*(c.b - a.b):=zAl _ _
       have e4:(a.b - p.b)*(a.r - c.r)=(a.r - c.r)*(a.b - p.b):=zAl _ _
       omega
      ·have h8:vv (c.b - p.b) (p.r - c.r) p<=vv (c.b - p.b) (p.r - c.r) a:=by omega
       have h9:=aaQ.1 h8
       have k1:=Int.mul_pos (show 0<p.b - a.b by omega) (show 0<p.r - c.r by omega)
       have k2:=zAY (show 0<=p.r - a.r by omega) (show 0<=c.b - p.b by omega)
       have x2:(a.r - p.r)*(c.b - p.b)=-((p.r - a.r)*(c.b - p.b)):=zBT
       omega
theorem auN {st:List Ln} (h:wV st):st.Pairwise λx y=>x.r<y.r:=by
 induction st with
 |nil=>exact List.Pairwise.nil
 |cons c r ih=>exact zAd.2 ⟨λx hx=>(h.below x hx).2,ih h.tail⟩
theorem axH {l l':List Ln} (h:l.Pairwise (λx y=>y.r<x.r)) (h':l'.Pairwise (λx y=>y.r<x.r)) (hm:∀x,x∈l ↔ x∈l'):l=l':=by
 induction l generalizing l' with
 |nil=>
  cases l' with
  |nil=>rfl
  |cons y r=>exact zAv ((hm y).2 zAD) zA1
 |cons x r ih=>
  cases l' with
  |nil=>exact zAv ((hm x).1 zAD) zA1
  |cons y r'=>
   obtain ⟨h1,h2⟩:=zAd.1 h
   obtain ⟨h3,h4⟩:=zAd.1 h'
   have hxy:x=y:=by
    rcases zAM.1 ((hm x).1 zAD) with e|e
    ·exact e
    ·rcases zAM.1 ((hm y).2 zAD) with e'|e'
     ·exact e'.symm
     ·have:=h1 y e';have:=h3 x e;omega
   subst hxy
   congr 1
   refine ih h2 h4 λz=>⟨λhz=>?_,λhz=>?_⟩
   ·rcases zAM.1 ((hm z).1 (zAJ _ hz)) with e|e
    ·have:=h1 z hz;rw [e] at this;omega
    ·exact e
   ·rcases zAM.1 ((hm z).2 (zAJ _ hz)) with e|e
    ·have:=h3 z hz;rw [e] at this;omega
    ·exact e
structure SS where
 lo:Int
 lb:Int
 op:Bool
 hi:Int
 hb:Int
def ss0:SS:=⟨0,1,false,0,0⟩
def jG (a b:Ln) (s:SS):SS:=
 if 0<b.r - a.r then (if 0<=a.b - b.b/\s.lo*(b.r - a.r)<=(a.b - b.b)*s.lb then {s with lo:=a.b - b.b,lb:=b.r - a.r,op:=true} else s)
 else (if s.hb=0\/-(a.b - b.b)*s.hb<s.hi*-(b.r - a.r) then {s with hi:=-(a.b - b.b),hb:=-(b.r - a.r)} else s)
def agX (a:Ln) (i:Nat):Nat->SS->List Ln->Option SS
 |_,s,[]=>some s
 |k,s,b::r=>if b=a then (if k<i then none else agX a i (k+1) s r) else if b.r=a.r then (if b.b<=a.b then none else agX a i (k+1) s r) else agX a i (k+1) (jG a b s) r
def adF (s:SS):Bool:=if s.hb=0 then true else if s.op=false then decide (0<s.hi) else decide (s.lo*s.hb<s.hi*s.lb)
def aaE (l:List Ln) (i:Nat):Bool:=match l[i]? with
 |none=>false
 |some a=>match agX a i 0 ss0 l with
  |none=>false
  |some s=>adF s
structure SI (a:Ln) (s:SS) (l:List Ln):Prop where
 lb:0<s.lb
 lo:0<=s.lo
 cl:s.op=false->∀b∈l,a.r<b.r->¬b.b<=a.b
 at_:s.op=true->∃b∈l,a.r<b.r/\b.b<=a.b/\s.lo=a.b - b.b/\s.lb=b.r - a.r
 le:s.op=true->∀b∈l,a.r<b.r->b.b<=a.b->(a.b - b.b)*s.lb<=s.lo*(b.r - a.r)
 z0:s.op=false->s.lo=0/\s.lb=1
 hb:0<=s.hb
 h0:s.hb=0->∀c∈l,¬c.r<a.r
 hat:0<s.hb->∃c∈l,c.r<a.r/\s.hi=c.b - a.b/\s.hb=a.r - c.r
 hle:0<s.hb->∀c∈l,c.r<a.r->s.hi*(a.r - c.r)<=(c.b - a.b)*s.hb
theorem SI.same {a:Ln} {s:SS} {l:List Ln} (h:SI a s l) {b:Ln} (hb:b.r=a.r):SI a s (l++[b]) where
 lb:=h.lb
 lo:=h.lo
 cl:=λe x hx=>by
  rcases zAQ.1 hx with hx|hx
  ·exact h.cl e x hx
  ·simp at hx;subst hx;omega
 at_:=λe=>by obtain ⟨x,hx,r⟩:=h.at_ e;exact ⟨x,List.mem_append_left _ hx,r⟩
 le:=λe x hx=>by
  rcases zAQ.1 hx with hx|hx
  ·exact h.le e x hx
  ·simp at hx;subst hx;omega
 z0:=h.z0
 hb:=h.hb
 h0:=λe x hx=>by
  rcases zAQ.1 hx with hx|hx
  ·exact h.h0 e x hx
  ·simp at hx;subst hx;omega
 hat:=λe=>by obtain ⟨x,hx,r⟩:=h.hat e;exact ⟨x,List.mem_append_left _ hx,r⟩
 hle:=λe x hx=>by
  rcases zAQ.1 hx with hx|hx
  ·exact h.hle e x hx
  ·simp at hx;subst hx;omega
theorem a2N {p q s t u v:Int} (hq:0<q) (hv:0<v) (ht:0<t) (h1:p*q<=s*t) (h2:s*v<=u*q):p*v<=u*t:=by
 have k1:=zAc h1 (Int.le_of_lt hv)
 have k2:=zAc h2 (Int.le_of_lt ht)
 have e1:p*q*v=q*(p*v):=by rw [zAl p q,Int.mul_assoc]
 have e2:s*t*v=s*v*t:=by rw [Int.mul_assoc,zAl t v,Int.mul_assoc]
 have e3:u*q*t=q*(u*t):=by rw [zAl u q,Int.mul_assoc]
 have k3:q*(p*v)<=q*(u*t):=zO
 exact Int.le_of_mul_le_mul_left k3 hq
theorem SI.step {a:Ln} {s:SS} {l:List Ln} (h:SI a s l) {b:Ln} (hne:b.r≠a.r):SI a (jG a b s) (l++[b]):=by
 unfold jG
 have sp:∀{Q:Ln->Prop},(∀x∈l,Q x)->Q b->∀x∈l++[b],Q x:=λh1 h2 x hx=>by
  rcases zAQ.1 hx with hx|hx
  ·exact h1 x hx
  ·simp at hx;subst hx;exact h2
 by_cases hs:0<b.r - a.r
 ·rw [zp hs]
  have hh0:s.hb=0->∀c∈l++[b],¬c.r<a.r:=λe=>sp (h.h0 e) zO
  have hhat:0<s.hb->∃c∈l++[b],c.r<a.r/\s.hi=c.b - a.b/\s.hb=a.r - c.r:=λe=>by obtain ⟨x,hx,r⟩:=h.hat e;exact ⟨x,List.mem_append_left _ hx,r⟩
  have hhle:0<s.hb->∀c∈l++[b],c.r<a.r->s.hi*(a.r - c.r)<=(c.b - a.b)*s.hb:=λe=>sp (h.hle e) zO
  by_cases hc:0<=a.b - b.b/\s.lo*(b.r - a.r)<=(a.b - b.b)*s.lb
  ·rw [zp hc]
   refine ⟨hs,hc.1,λe=>(by cases e),λ_=>⟨b,by simp,by omega,by omega,rfl,rfl⟩,λ_=>sp (λx hx hxr hxb=>?_) (λ_ _=>zAV _),λe=>(by cases e),h.hb,hh0,hhat,hhle⟩
   show (a.b - x.b)*(b.r - a.r)<=(a.b - b.b)*(x.r - a.r)
   cases ho:s.op with
   |false=>exact zAv hxb (h.cl ho x hx hxr)
   |true=>exact a2N h.lb zO zO (h.le ho x hx hxr hxb) hc.2
  ·rw [z6 hc]
   refine ⟨h.lb,h.lo,λe=>sp (h.cl e) (λ_=>?_),λe=>(by obtain ⟨x,hx,r⟩:=h.at_ e;exact ⟨x,List.mem_append_left _ hx,r⟩),λe=>sp (h.le e) (λ_ hbb=>?_),h.z0,h.hb,hh0,hhat,hhle⟩
   ·obtain ⟨z1,z2⟩:=h.z0 e
    rw [z1,z2,Int.zero_mul,Int.mul_one] at hc
    omega
   ·omega
 ·rw [z6 hs]
  have hcl:s.op=false->∀x∈l++[b],a.r<x.r->¬x.b<=a.b:=λe=>sp (h.cl e) zO
  have hat_:s.op=true->∃x∈l++[b],a.r<x.r/\x.b<=a.b/\s.lo=a.b - x.b/\s.lb=x.r - a.r:=λe=>by obtain ⟨x,hx,r⟩:=h.at_ e;exact ⟨x,List.mem_append_left _ hx,r⟩
  have hle:s.op=true->∀x∈l++[b],a.r<x.r->x.b<=a.b->(a.b - x.b)*s.lb<=s.lo*(x.r - a.r):=λe=>sp (h.le e) zO
  have e1:-(a.b - b.b)=b.b - a.b:=zO
  have e2:-(b.r - a.r)=a.r - b.r:=zO
  rw [e1,e2]
  by_cases hc:s.hb=0\/(b.b - a.b)*s.hb<s.hi*(a.r - b.r)
  ·rw [zp hc]
   refine ⟨h.lb,h.lo,hcl,hat_,hle,h.z0,(by show 0<=a.r - b.r;omega),λe=>(by have e:a.r - b.r=0:=e;omega),λ_=>⟨b,by simp,by omega,rfl,rfl⟩,λ_=>sp (λx hx hxr=>?_) (λ_=>zAV _)⟩
   show (b.b - a.b)*(a.r - x.r)<=(x.b - a.b)*(a.r - b.r)
   rcases hc with hc|hc
   ·exact zAv hxr (h.h0 hc x hx)
   ·by_cases hz:s.hb=0
    ·exact zAv hxr (h.h0 hz x hx)
    ·have hpos:0<s.hb:=by have:=h.hb;omega
     have hx2:=h.hle hpos x hx hxr
     exact a2N hpos zO zO (Int.le_of_lt hc) hx2
  ·rw [z6 hc]
   have hpos:0<s.hb:=by have:=h.hb;omega
   exact ⟨h.lb,h.lo,hcl,hat_,hle,h.z0,h.hb,λe=>zAv e zO,λe=>(by obtain ⟨x,hx,r⟩:=h.hat e;exact ⟨x,List.mem_append_left _ hx,r⟩),λe=>sp (h.hle e) (λ_=>by omega)⟩
theorem ar0 {a:Ln} {s:SS} {l:List Ln} (h:SI a s l) (hsm:∀y∈l,y.r=a.r->y≠a->a.b<y.b):adF s=true ↔ PP l a:=by
 unfold adF
 by_cases hb0:s.hb=0
 ·rw [zp hb0]
  refine ⟨λ_=>⟨hsm,λc hc e=>zAv e (h.h0 hb0 c hc),λb _ c hc _ _ e=>zAv e (h.h0 hb0 c hc)⟩,λ_=>rfl⟩
 ·rw [z6 hb0]
  have hbp:0<s.hb:=by have:=h.hb;omega
  have hflat:0<s.hi->∀c∈l,c.r<a.r->a.b<c.b:=λhp c hc hcr=>by
   have h1:=h.hle hbp c hc hcr
   have h2:=Int.mul_pos hp (show 0<a.r - c.r by omega)
   have h3:¬c.b - a.b<=0:=λh9=>by
    have:=zAc h9 (Int.le_of_lt hbp)
    rw [Int.zero_mul] at this
    omega
   omega
  cases ho:s.op with
  |false=>
   rw [zp rfl,zAe]
   constructor
   ·intro hp
    exact ⟨hsm,hflat hp,λb hb c _ e1 e2 _=>zAv e2 (h.cl ho b hb e1)⟩
   ·intro hp
    obtain ⟨c,hc,e1,e2,_⟩:=h.hat hbp
    have:=hp.flat c hc e1
    omega
  |true=>
   rw [z6 zA1,zAe]
   constructor
   ·intro hp
    have hpos:0<s.hi:=by
     have h1:=zAY h.lo h.hb
     have h3:¬s.hi<=0:=λh9=>by
      have:=zAc h9 (Int.le_of_lt h.lb)
      rw [Int.zero_mul] at this
      omega
     omega
    refine ⟨hsm,hflat hpos,λb hb c hc e1 e2 e3=>?_⟩
    have h1:=h.le ho b hb e1 e2
    have h2:=h.hle hbp c hc e3
    refine a2O (nL:=s.lo) (dL:=s.lb) (nR:=s.hi) (dR:=s.hb) h.lb hbp zO zO ?_ ?_ hp
    ·rw [zAl (b.r - a.r)];exact h1
    ·rw [zAl (a.r - c.r)];exact h2
   ·intro hp
    obtain ⟨c,hc,e1,e2,e3⟩:=h.hat hbp
    obtain ⟨b,hb,f1,f2,f3,f4⟩:=h.at_ ho
    have:=hp.both b hb c hc f1 f2 e1
    unfold TT at this
    rw [e2,e3,f3,f4]
    exact this
theorem avH (a:Ln) (i:Nat) (r:List Ln):∀(pre:List Ln) (s:SS),SI a s pre->(∀y∈pre,y.r=a.r->y≠a->a.b<y.b)->(∀(j:Nat) (hj:j<pre.length),pre[j]=a->¬j<i)→
 ((match agX a i pre.length s r with |none=>false|some s'=>adF s')=true ↔ PP (pre++r) a/\∀(j:Nat) (hj:j<(pre++r).length),(pre++r)[j]=a->¬j<i):=by
 induction r with
 |nil=>
  intro pre s hs hsm hfi
  simp only [agX,zAo]
  rw [ar0 hs hsm]
  exact ⟨λh=>⟨h,hfi⟩,λh=>h.1⟩
 |cons b r ih=>
  intro pre s hs hsm hfi
  have e:pre++b::r=(pre++[b])++r:=zA1
  have hlen:(pre++[b]).length=pre.length+1:=zA1
  have hget:∀(h9:pre.length<(pre++b::r).length),(pre++b::r)[pre.length]=b:=λh9=>by simp
  rw [agX]
  by_cases hba:b=a
  ·rw [zp hba]
   by_cases hki:pre.length<i
   ·rw [zp hki]
    refine ⟨λh=>(by cases h),λh=>zAv hki (h.2 pre.length zA1 (by rw [hget];exact hba))⟩
   ·rw [z6 hki,e,<-hlen]
    refine ih (pre++[b]) s (hs.same (by rw [hba])) (λy hy=>?_) (λj hj=>?_)
    ·rcases zAQ.1 hy with hy|hy
     ·exact hsm y hy
     ·simp at hy;subst hy;exact λ_ hn=>zAv hba hn
    ·intro ej
     by_cases hjp:j<pre.length
     ·rw [List.getElem_append_left hjp] at ej
      exact hfi j hjp ej
     ·omega
  ·rw [z6 hba]
   have hfi2:∀(j:Nat) (hj:j<(pre++[b]).length),(pre++[b])[j]=a->¬j<i:=λj hj ej=>by
    by_cases hjp:j<pre.length
    ·rw [List.getElem_append_left hjp] at ej
     exact hfi j hjp ej
    ·have:j=pre.length:=by omega
     subst this
     simp at ej
     exact zAv ej hba
   by_cases hr:b.r=a.r
   ·rw [zp hr]
    by_cases hbb:b.b<=a.b
    ·rw [zp hbb]
     refine ⟨λh=>(by cases h),λh=>?_⟩
     have:=h.1.same b zA1 hr hba
     omega
    ·rw [z6 hbb,e,<-hlen]
     refine ih (pre++[b]) s (hs.same hr) (λy hy=>?_) hfi2
     rcases zAQ.1 hy with hy|hy
     ·exact hsm y hy
     ·simp at hy;subst hy;exact λ_ _=>by omega
   ·rw [z6 hr,e,<-hlen]
    refine ih (pre++[b]) _ (hs.step hr) (λy hy=>?_) hfi2
    rcases zAQ.1 hy with hy|hy
    ·exact hsm y hy
    ·simp at hy;subst hy;exact λe9 _=>zAv e9 hr
theorem ab9 {l:List Ln} {i:Nat} (hi:i<l.length):aaE l i=true ↔ PP l l[i]/\∀(j:Nat) (hj:j<l.length),l[j]=l[i]->¬j<i:=by
 unfold aaE
 rw [zAR hi]
 have h0:SI l[i] ss0 []:=⟨(by show (0:Int)<1;omega),zAV _,by simp,λe=>(by cases e),λe=>(by cases e),λ_=>⟨rfl,rfl⟩,zAV _,by simp,λe=>(by have e:(0:Int)<0:=e;omega),by simp⟩
 exact avH l[i] i l [] ss0 h0 zA1 zA1
def uW (out:List Ln) (x:Ln):List Ln:=out.takeWhile (λy=>decide (x.r<y.r))++x::out.dropWhile (λy=>decide (x.r<y.r))
def adK (l:List Ln):Nat->List Ln->List Ln
 |0,out=>out
 |n+1,out=>adK l n (if aaE l (l.length - (n+1)) then uW out (l.getD (l.length - (n+1)) ⟨0,0⟩) else out)
def tidyRef (l:List Ln):List Ln:=adK l l.length []
theorem insT_mem {out:List Ln} {x y:Ln}:y∈uW out x ↔ y=x\/y∈out:=by
 unfold uW
 rw [zAQ,zAM]
 have e:y∈out ↔ y∈out.takeWhile (λz=>decide (x.r<z.r))\/y∈out.dropWhile (λz=>decide (x.r<z.r)):=by
  rw [<-zAQ,List.takeWhile_append_dropWhile]
 rw [e]
 constructor
 ·rintro (h|h|h)
  ·exact .inr (.inl h)
  ·exact .inl h
  ·exact .inr (.inr h)
 ·rintro (h|h|h)
  ·exact .inr (.inl h)
  ·exact .inl h
  ·exact .inr (.inr h)
theorem atL {out:List Ln} {x:Ln} (h:out.Pairwise (λa b=>b.r<a.r)) (hx:∀y∈out,y.r≠x.r):(uW out x).Pairwise (λa b=>b.r<a.r):=by
 induction out with
 |nil=>simp [uW]
 |cons y r ih=>
  obtain ⟨h1,h2⟩:=zAd.1 h
  unfold uW
  by_cases hc:x.r<y.r
  ·rw [List.takeWhile_cons_of_pos (by simpa using hc),List.dropWhile_cons_of_pos (by simpa using hc),List.cons_append]
   have ih:=ih h2 λz hz=>hx z (zAJ _ hz)
   refine zAd.2 ⟨λz hz=>?_,ih⟩
   rcases insT_mem.1 hz with e|e
   ·rw [e];exact hc
   ·exact h1 z e
  ·rw [List.takeWhile_cons_of_neg (by simpa using hc),List.dropWhile_cons_of_neg (by simpa using hc),zAa]
   have:=hx y zAD
   refine zAd.2 ⟨λz hz=>?_,h⟩
   rcases zAM.1 hz with e|e
   ·rw [e];omega
   ·have:=h1 z e;omega
theorem aoA (l:List Ln) (n:Nat) (hn:n<=l.length) (out:List Ln) (hd:out.Pairwise (λa b=>b.r<a.r)) (hm:∀y,y∈out ↔ ∃(j:Nat) (hj:j<l.length),j<l.length - n/\y=l[j]/\aaE l j=true):
 (adK l n out).Pairwise (λa b=>b.r<a.r)/\∀y,y∈adK l n out ↔ ∃(j:Nat) (hj:j<l.length),y=l[j]/\aaE l j=true:=by
 induction n generalizing out with
 |zero=>
  refine ⟨hd,λy=>?_⟩
  show y∈out ↔ _
  rw [hm]
  exact ⟨λ⟨j,hj,_,h⟩=>⟨j,hj,h⟩,λ⟨j,hj,h⟩=>⟨j,hj,by omega,h⟩⟩
 |succ n ih=>
  rw [adK]
  have hk:l.length - (n+1)<l.length:=zO
  have hgd:l.getD (l.length - (n+1)) ⟨0,0⟩=l[l.length - (n+1)]:=by simp [List.getD,zAR hk]
  rw [hgd]
  by_cases hs:aaE l (l.length - (n+1))=true
  ·rw [zp hs]
   have hp:=(ab9 hk).1 hs
   refine ih zO _ (atL hd λy hy e=>?_) λy=>?_
   ·obtain ⟨j,hj,hjn,rfl,hsj⟩:=(hm y).1 hy
    have hpj:=(ab9 hj).1 hsj
    by_cases heq:l[j]=l[l.length - (n+1)]
    ·exact hp.2 j hj heq hjn
    ·have h1:=hp.1.same l[j] (zd hj) e heq
     have h2:=hpj.1.same l[l.length - (n+1)] (zd hk) e.symm (λe9=>heq e9.symm)
     omega
   ·rw [insT_mem,hm]
    constructor
    ·rintro (e|⟨j,hj,h1,h2⟩)
     ·exact ⟨_,hk,by omega,e,hs⟩
     ·exact ⟨j,hj,by omega,h2⟩
    ·rintro ⟨j,hj,h1,h2,h3⟩
     by_cases hjk:j=l.length - (n+1)
     ·subst hjk;exact .inl h2
     ·exact .inr ⟨j,hj,by omega,h2,h3⟩
  ·rw [z6 hs]
   refine ih zO out hd λy=>?_
   rw [hm]
   constructor
   ·rintro ⟨j,hj,h1,h2⟩
    exact ⟨j,hj,by omega,h2⟩
   ·rintro ⟨j,hj,h1,h2,h3⟩
    by_cases hjk:j=l.length - (n+1)
    ·subst hjk;exact zAv h3 hs
    ·exact ⟨j,hj,by omega,h2,h3⟩
theorem atY {l:List Ln} {x:Ln} (hx:x∈l):∃(j:Nat) (hj:j<l.length),l[j]=x/\∀(i:Nat) (hi:i<l.length),l[i]=x->¬i<j:=by
 induction l with
 |nil=>cases hx
 |cons y r ih=>
  by_cases hy:y=x
  ·exact ⟨0,by simp,hy,λi hi _=>by omega⟩
  ·have hx2:x∈r:=by
    rcases zAM.1 hx with e|e
    ·exact zAv e.symm hy
    ·exact e
   obtain ⟨j,hj,e,hf⟩:=ih hx2
   refine ⟨j+1,by simpa using hj,by simpa using e,λi hi ei=>?_⟩
   cases i with
   |zero=>simp at ei;exact zAv ei hy
   |succ i=>
    simp at ei hi
    have:=hf i hi ei
    omega
theorem adD (l:List Ln):(tidyRef l).Pairwise (λa b=>b.r<a.r)/\∀y,y∈tidyRef l ↔ y∈l/\PP l y:=by
 obtain ⟨h1,h2⟩:=aoA l l.length (zD _) [] List.Pairwise.nil (λy=>⟨λh=>(by cases h),λ⟨j,_,h,_⟩=>by omega⟩)
 refine ⟨h1,λy=>?_⟩
 unfold tidyRef
 rw [h2]
 constructor
 ·rintro ⟨j,hj,rfl,hs⟩
  exact ⟨zd hj,((ab9 hj).1 hs).1⟩
 ·rintro ⟨hy,hp⟩
  obtain ⟨j,hj,rfl,hf⟩:=atY hy
  exact ⟨j,hj,rfl,(ab9 hj).2 ⟨hp,hf⟩⟩
theorem ap8 {l s:List Ln} (hp:∀x,x∈s ↔ x∈l) (hs:s.Pairwise aaY) (hr:∀y∈s,0<=y.r):(ajS s).reverse=tidyRef l:=by
 have hi:=aq1 hs hr
 obtain ⟨t1,t2⟩:=adD l
 refine axH ?_ t1 λx=>?_
 ·exact List.pairwise_reverse.2 (auN hi.ch)
 ·rw [List.mem_reverse,t2]
  constructor
  ·intro hx
   exact ⟨(hp x).1 (hi.sub x hx),(azY hi hx).congr λy hy=>(hp y).2 hy⟩
  ·rintro ⟨hx,hpp⟩
   exact a0L hi ((hp x).2 hx) (hpp.congr λy hy=>(hp y).1 hy)
theorem ajM (x:Ln) (t:Int):lineAt x t=vv t 1000 x / 1000:=by
 unfold lineAt vv
 omega
theorem ai0 {l l':List Ln} {t v:Int} (h0:0<l.length) (h1:∀x∈l,v<=lineAt x t) (h2:∃x∈l,lineAt x t<=v):qP l t=v:=by
 obtain ⟨x,hx,e⟩:=wZ h0 t
 obtain ⟨y,hy,e2⟩:=h2
 have:=h1 x hx
 have:=vG hy t
 omega
theorem anN {s st:List Ln} (h:HI s st) (h0:0<s.length) {t:Int} (ht:0<=t):qP st.reverse t=qP s t:=by
 have hst:0<st.reverse.length:=by
  rw [List.length_reverse]
  cases st with
  |nil=>rw [h.nil rfl] at h0;simp at h0
  |cons _ _=>simp
 refine ai0 (l':=s) hst (λx hx=>vG (h.sub x (List.mem_reverse.1 hx)) t) ?_
 obtain ⟨y,hy,e⟩:=wZ h0 t
 obtain ⟨x,hx,e2⟩:=h.env t 1000 ht zO y hy
 refine ⟨x,List.mem_reverse.2 hx,?_⟩
 rw [e,ajM,ajM]
 exact Int.ediv_le_ediv zO e2
def lexB (a b:Ln):Bool:=decide (a.b<b.b\/(a.b=b.b/\a.r<=b.r))
theorem ayT (l:List Ln):∃s:List Ln,s.Perm l/\s.Pairwise aaY:=by
 induction l with
 |nil=>exact ⟨[],List.Perm.refl _,List.Pairwise.nil⟩
 |cons x r ih=>
  obtain ⟨s,hp,hs⟩:=ih
  refine ⟨s.takeWhile (λy=>lexB y x)++x::s.dropWhile (λy=>lexB y x),?_,?_⟩
  ·refine List.perm_middle.trans (List.Perm.cons x ?_)
   rw [List.takeWhile_append_dropWhile]
   exact hp
  ·clear hp
   induction s with
   |nil=>simp
   |cons y s ihs=>
    obtain ⟨h1,h2⟩:=zAd.1 hs
    by_cases hc:lexB y x=true
    ·rw [List.takeWhile_cons_of_pos (p:=λy=>lexB y x) hc,List.dropWhile_cons_of_pos (p:=λy=>lexB y x) hc,List.cons_append]
     refine zAd.2 ⟨λz hz=>?_,ihs h2⟩
     rcases zAQ.1 hz with hz|hz
     ·exact h1 z ((List.takeWhile_sublist _).subset hz)
     ·rcases zAM.1 hz with rfl|hz
      ·have h9:=hc
       unfold lexB at h9
       have h9:=of_decide_eq_true h9
       exact h9
      ·exact h1 z ((List.dropWhile_sublist _).subset hz)
    ·rw [List.takeWhile_cons_of_neg (p:=λy=>lexB y x) hc,List.dropWhile_cons_of_neg (p:=λy=>lexB y x) hc,zAa]
     have hyx:aaY x y:=by
      have:=of_decide_eq_false (Bool.eq_false_iff.2 hc)
      unfold aaY
      omega
     refine zAd.2 ⟨λz hz=>?_,hs⟩
     rcases zAM.1 hz with rfl|hz
     ·exact hyx
     ·have:=h1 z hz
      unfold aaY at*
      omega
theorem akC {l:List Ln} (hr:∀y∈l,0<=y.r):∃s st:List Ln,s.Perm l/\HI s st/\tidyRef l=st.reverse/\st.length<=s.length:=by
 obtain ⟨s,hp,hs⟩:=ayT l
 have hr':∀y∈s,0<=y.r:=λy hy=>hr y (hp.mem_iff.1 hy)
 refine ⟨s,ajS s,hp,aq1 hs hr',(ap8 (λx=>hp.mem_iff) hs hr').symm,?_⟩
 have:=awV s []
 simpa [ajS] using this
theorem ayI {l:List Ln} (hr:∀y∈l,0<=y.r) (h:0<l.length):0<(tidyRef l).length:=by
 obtain ⟨s,st,hp,hi,e,_⟩:=akC hr
 rw [e,List.length_reverse]
 cases st with
 |nil=>
  have h1:=hi.nil rfl
  rw [h1] at hp
  have:=hp.length_eq
  simp at this
  omega
 |cons _ _=>simp
theorem alE {l:List Ln} (hr:∀y∈l,0<=y.r):(tidyRef l).length<=l.length:=by
 obtain ⟨s,st,hp,hi,e,h⟩:=akC hr
 rw [e,List.length_reverse,<-hp.length_eq]
 exact h
theorem au6 (l:List Ln):∀x∈tidyRef l,x∈l:=λx hx=>((adD l).2 x).1 hx |>.1
theorem au5 {l:List Ln} (hr:∀y∈l,0<=y.r) (h:0<l.length) {t:Int} (ht:0<=t):qP (tidyRef l) t=qP l t:=by
 obtain ⟨s,st,hp,hi,e,_⟩:=akC hr
 have h0:0<s.length:=by rw [hp.length_eq];exact h
 rw [e,anN hi h0 ht]
 refine ai0 (l':=l) h0 (λx hx=>vG (hp.mem_iff.1 hx) t) ?_
 obtain ⟨y,hy,e2⟩:=wZ h t
 exact ⟨y,hp.mem_iff.2 hy,by omega⟩
def jN (x y:Ln):Ln:=⟨x.b+y.b,x.r+y.r⟩
def sumAll (a b:List Ln):List Ln:=a.flatMap λx=>b.map λy=>jN x y
theorem ac0 {a b:List Ln} {z:Ln}:z∈sumAll a b ↔ ∃x∈a,∃y∈b,z=jN x y:=by
 unfold sumAll
 rw [List.mem_flatMap]
 constructor
 ·rintro ⟨x,hx,h⟩
  obtain ⟨y,hy,e⟩:=zAT.1 h
  exact ⟨x,hx,y,hy,e.symm⟩
 ·rintro ⟨x,hx,y,hy,e⟩
  exact ⟨x,hx,zAT.2 ⟨y,hy,e.symm⟩⟩
theorem aa4 (a b:List Ln):(sumAll a b).length=a.length*b.length:=by
 unfold sumAll
 induction a with
 |nil=>simp
 |cons x r ih=>rw [List.flatMap_cons,zAP,ih,List.length_map,zAL,Nat.succ_mul,Nat.add_comm]
theorem ahJ (x y:Ln) (t:Int):lineAt x t+lineAt y t<=lineAt (jN x y) t/\lineAt (jN x y) t<=lineAt x t+lineAt y t+1:=by
 unfold lineAt jN
 simp only
 rw [Int.add_mul]
 omega
theorem ayO {a b:List Ln} (ha:0<a.length) (hb:0<b.length) (t:Int):qP a t+qP b t<=qP (sumAll a b) t/\qP (sumAll a b) t<=qP a t+qP b t+1:=by
 have h0:0<(sumAll a b).length:=by rw [aa4];exact Nat.mul_pos ha hb
 constructor
 ·obtain ⟨z,hz,e⟩:=wZ h0 t
  obtain ⟨x,hx,y,hy,rfl⟩:=ac0.1 hz
  have:=ahJ x y t
  have:=vG hx t
  have:=vG hy t
  omega
 ·obtain ⟨x,hx,e1⟩:=wZ ha t
  obtain ⟨y,hy,e2⟩:=wZ hb t
  have:=vG (ac0.2 ⟨x,hx,y,hy,rfl⟩) t
  have:=ahJ x y t
  omega
def sumErr (a b:List Ln):Nat:=if (sumAll a b).all (λz=>ug z.b z.r) then (if 6<(tidyRef (sumAll a b)).length then 3 else 0) else 2
def adE (a b:List Ln):List Ln:=if sumErr a b=0 then tidyRef (sumAll a b) else []
theorem a0Y {a b:List Ln} (h:sumErr a b=0):(∀z∈sumAll a b,yL z)/\(tidyRef (sumAll a b)).length<=6/\adE a b=tidyRef (sumAll a b):=by
 have h2:=h
 unfold sumErr at h
 by_cases h1:(sumAll a b).all (λz=>ug z.b z.r)=true
 ·rw [zp h1] at h
  refine ⟨λz hz=>(by have h9:=List.all_eq_true.1 h1 z hz;unfold ug at h9;have h9:=of_decide_eq_true h9;exact h9),?_,zp h2⟩
  by_cases h3:6<(tidyRef (sumAll a b)).length
  ·rw [zp h3] at h;simp at h
  ·omega
 ·rw [z6 h1] at h;simp at h
end Go.Proofs.YtoomffajodheaaaGreatDoor
