/- The proof of ScriptPlays, part SrM. Conditions: in each statement. -/
import Derived.Test.YtoomffajodheaaaGreatDoorZBaseM
import Derived.Deep.CutRange
import Derived.Deep.RegionHeld3
import Derived.BigQuiet
set_option linter.all false
namespace Go.Proofs.YtoomffajodheaaaGreatDoor
theorem zBD{p:Prop}(h:p:=by rw [IntKind.wrap_i64];omega):p:=h
theorem zCX{p:Prop}(h:p:=by rw [IntKind.wrap_u64];omega):p:=h
theorem zEC{p:Prop}(h:p:=by
 go_wp2_with fail
 go_roundw
 case rel=>exact ⟨t+1,j,q+1+q6,by omega,by omega,c3,by go_num,rfl,rfl,L3.o,L2.o⟩
 case measure=>simp [intOf];omega):p:=h
theorem zEG{p:Prop}(h:p:=by
 go_wp2_with fail
 go_roundw
 case rel=>exact ⟨i,t,q+1+q6,c1,t0,by omega,rfl,rfl,rfl,L1.o,L3.o⟩
 case measure=>simp [intOf];omega):p:=h
theorem zEg{p:Prop}(h:p:=by
 go_enter Tryz.func128,Tryz.ntmps128
 go_wp2
 go_ret
 rw [HE.o]
 exact ⟨rfl,rfl⟩):p:=h
theorem zFB{p:Prop}(h:p:=by
 clear hr ho2
 go_wp2_with fail
 go_end0
 exact ⟨rfl,_,HRR.o,HOO.o,HS.o,HEN.o.1,HEN.o.2⟩):p:=h
def wK (key:Int->Int) (x y:Int):Prop:=key x<key y\/(key x=key y/\x<y)
theorem wK.trans {key:Int->Int} {x y z:Int} (h:wK key x y) (h':wK key y z):wK key x z:=by
 unfold wK at*
 omega
theorem wK.of_le {key:Int->Int} {x y:Int} (h:¬key y<key x) (hxy:x<y):wK key x y:=by
 unfold wK
 omega
theorem wK.aqO {key:Int->Int} {x y:Int} (h:key x<key y):wK key x y:=.inl h
def wJ (key:Int->Int) (f:Nat->Int) (a b:Nat):Prop:=∀i j,a<=i->i<j->j<b->wK key (f i) (f j)
def uF (f f':Nat->Int) (a b:Nat):Prop:=∀k,a<=k->k<b->∃k',a<=k'/\k'<b/\f' k=f k'
def uG (f f':Nat->Int) (a b:Nat):Prop:=∀k,k<a\/b<=k->f' k=f k
def aeM (f:Nat->Int) (a m b:Nat):Prop:=∀i j,a<=i->i<m->m<=j->j<b->f i<f j
theorem uF.refl (f:Nat->Int) (a b:Nat):uF f f a b:=λk h1 h2=>⟨k,h1,h2,rfl⟩
theorem uF.trans {f g h:Nat->Int} {a b:Nat} (h1:uF f g a b) (h2:uF g h a b):uF f h a b:=λk a1 a2=>by
 obtain ⟨k1,b1,b2,e1⟩:=h2 k a1 a2
 obtain ⟨k2,c1,c2,e2⟩:=h1 k1 b1 b2
 exact ⟨k2,c1,c2,e1.trans e2⟩
theorem uF.wide {f g:Nat->Int} {a b a' b':Nat} (h:uF f g a b) (ho:uG f g a b) (ha:a'<=a) (hb:b<=b'):uF f g a' b':=λk h1 h2=>by
 by_cases hk:a<=k/\k<b
 ·obtain ⟨k',c1,c2,e⟩:=h k hk.1 hk.2
  exact ⟨k',by omega,by omega,e⟩
 ·exact ⟨k,h1,h2,ho k zO⟩
theorem uG.trans {f g h:Nat->Int} {a b:Nat} (h1:uG f g a b) (h2:uG g h a b):uG f h a b:=λk hk=>(h2 k hk).trans (h1 k hk)
theorem uG.wide {f g:Nat->Int} {a b a' b':Nat} (h:uG f g a b) (ha:a'<=a) (hb:b<=b'):uG f g a' b':=λk hk=>h k zO
theorem wJ.out {key:Int->Int} {f g:Nat->Int} {a b a' b':Nat} (h:wJ key f a' b') (ho:uG f g a b) (hd:b'<=a\/b<=a'):wJ key g a' b':=λi j h1 h2 h3=>by
 rw [ho i zO,ho j zO]
 exact h i j h1 h2 h3
def swF (f:Nat->Int) (a b n:Nat):Nat->Int:=λk=>if a<=k/\k<a+n then f (k+b - a) else if b<=k/\k<b+n then f (k+a - b) else f k
def yu (f:Nat->Int) (a m b:Nat):Nat->Int:=λk=>if a<=k/\k<a+(b - m) then f (k+m - a) else if a+(b - m)<=k/\k<b then f (k - (b - m)) else f k
theorem aeR (f:Nat->Int) {a b n k:Nat} (h1:a<=k) (h2:k<a+n):swF f a b n k=f (k+b - a):=zp ⟨h1,h2⟩
theorem aeS (f:Nat->Int) {a b n k:Nat} (h:k<a\/a+n<=k) (h1:b<=k) (h2:k<b+n):swF f a b n k=f (k+a - b):=(z6 zO).trans (zp ⟨h1,h2⟩)
theorem uP (f:Nat->Int) {a b n k:Nat} (h:k<a\/a+n<=k) (h1:k<b\/b+n<=k):swF f a b n k=f k:=(z6 zO).trans (z6 zO)
theorem wE (f:Nat->Int) {a m b k:Nat} (h1:a<=k) (h2:k<a+(b - m)):yu f a m b k=f (k+m - a):=zp ⟨h1,h2⟩
theorem wM (f:Nat->Int) {a m b k:Nat} (h1:a+(b - m)<=k) (h2:k<b):yu f a m b k=f (k - (b - m)):=(z6 zO).trans (zp ⟨h1,h2⟩)
theorem yB (f:Nat->Int) {a m b k:Nat} (h:k<a\/(a+(b - m)<=k/\b<=k)):yu f a m b k=f k:=(z6 zO).trans (z6 zO)
theorem avD (f:Nat->Int) (a b:Nat):swF f a b 0=f:=by
 funext k
 exact uP f zO zO
theorem avE (f:Nat->Int) {a b n:Nat} (h:a+n<b) (k:Nat):swF f a b (n+1) k=if k=b+n then f (a+n) else if k=a+n then f (b+n) else swF f a b n k:=by
 by_cases h1:k=b+n
 ·subst h1
  rw [zp rfl,aeS f zO zO zO]
  congr 1
  omega
 ·rw [z6 h1]
  by_cases h2:k=a+n
  ·subst h2
   rw [zp rfl,aeR f zO zO]
   congr 1
   omega
  ·rw [z6 h2]
   by_cases h3:a<=k/\k<a+n
   ·rw [aeR f h3.1 zO,aeR f h3.1 h3.2]
   ·by_cases h4:b<=k/\k<b+n
    ·rw [aeS f zO h4.1 zO,aeS f zO h4.1 h4.2]
    ·rw [uP f zO zO,uP f zO zO]
theorem a2B (f:Nat->Int) {a b n:Nat} (h:a+n<b):swF f a b n (a+n)=f (a+n):=uP f zO zO
theorem a2A (f:Nat->Int) {a b n:Nat} (h:a+n<b):swF f a b n (b+n)=f (b+n):=uP f zO zO
theorem anQ (f:Nat->Int) {m i:Nat} (hi:i<=m):swF f (m - i) m i=yu f (m - i) m (m+i):=by
 funext k
 by_cases h1:m - i<=k/\k<m - i+i
 ·rw [aeR f h1.1 h1.2,wE f h1.1 zO]
 ·by_cases h2:m<=k/\k<m+i
  ·rw [aeS f zO h2.1 h2.2,wM f zO zO]
   congr 1
   omega
  ·rw [uP f zO zO,yB f zO]
theorem asD (f:Nat->Int) {m i j:Nat} (hi:i<=m) (hj:j<i):yu (swF f (m - i) m j) (m - (i - j)) m (m+j)=yu f (m - i) m (m+j):=by
 funext k
 by_cases h1:k<m - i
 ·rw [yB _ zO,yB _ zO,uP f zO zO]
 ·by_cases h2:k<m - i+j
  ·rw [yB _ zO,wE _ zO zO,aeR f zO zO]
  ·by_cases h3:k<m+j
   ·by_cases h4:k<m - (i - j)+j
    ·rw [wE _ zO zO,wM _ zO zO,aeS f zO zO zO]
     congr 1
     omega
    ·rw [wM _ zO zO,wM _ zO zO,uP f zO zO]
   ·rw [yB _ zO,yB _ zO,uP f zO zO]
theorem an7 (f:Nat->Int) {m i j:Nat} (hi:i<=m) (h0:0<i) (hj:i<j):yu (swF f (m - i) (m+j - i) i) (m - i) m (m+(j - i))=yu f (m - i) m (m+j):=by
 funext k
 by_cases h1:k<m - i
 ·rw [yB _ zO,yB _ zO,uP f zO zO]
 ·by_cases h2:k<m - i+(j - i)
  ·rw [wE _ zO zO,wE _ zO zO]
   by_cases h5:k+m - (m - i)<m+j - i
   ·rw [uP f zO zO]
   ·rw [uP f zO zO]
  ·by_cases h3:k<m - i+j
   ·rw [wM _ zO zO,wE _ zO zO,aeR f zO zO]
    congr 1
    omega
   ·by_cases h4:k<m+j
    ·rw [yB _ zO,wM _ zO zO,aeS f zO zO zO]
     congr 1
     omega
    ·rw [yB _ zO,yB _ zO,uP f zO zO]
theorem rotF_out (f:Nat->Int) {a m b:Nat} (h1:a<=m) (h2:m<=b):uG f (yu f a m b) a b:=λk hk=>yB f zO
theorem rotF_sub (f:Nat->Int) {a m b:Nat} (h1:a<=m) (h2:m<=b):uF f (yu f a m b) a b:=λk k1 k2=>by
 by_cases h:k<a+(b - m)
 ·exact ⟨k+m - a,by omega,by omega,wE f k1 h⟩
 ·exact ⟨k - (b - m),by omega,by omega,wM f zO k2⟩
theorem adJ (f:Nat->Int) (a m b:Nat) (h:a=m\/(m=b/\a<=m)):yu f a m b=f:=by
 funext k
 by_cases h1:a<=k/\k<b
 ·by_cases h2:k<a+(b - m)
  ·rw [wE f h1.1 h2];congr 1;omega
  ·rw [wM f zO h1.2];congr 1;omega
 ·by_cases h3:k<a+(b - m)/\a<=k
  ·omega
  ·exact yB f zO
structure a0V (key:Int->Int) (f:Nat->Int) (a s d e b:Nat):Prop where
 l1:wJ key f a s
 l2:wJ key f s d
 lc:aeM f a s d
 r1:wJ key f d e
 r2:wJ key f e b
 rc:aeM f d e b
 lr:∀i j,a<=i->i<d->d<=j->j<b->wK key (f i) (f j)
theorem azZ {key:Int->Int} {f:Nat->Int} {a s m e b:Nat} (h1:a<=s) (h2:s<=m) (h3:m<=e) (h4:e<=b) (hl:wJ key f a m) (hr:wJ key f m b) (hc:aeM f a m b)
 (ha:a<s->e<b->wK key (f (s - 1)) (f e)) (hb:m<e->s<m->wK key (f (e - 1)) (f s)):a0V key (yu f s m e) a s (s+(e - m)) e b:=by
 have lo:∀k,s<=k->k<s+(e - m)->yu f s m e k=f (k+m - s):=λk a1 a2=>wE f a1 a2
 have hi:∀k,s+(e - m)<=k->k<e->yu f s m e k=f (k - (e - m)):=λk a1 a2=>wM f a1 a2
 have no:∀k,k<s\/e<=k->yu f s m e k=f k:=λk a1=>yB f zO
 refine ⟨λi j a1 a2 a3=>?_,λi j a1 a2 a3=>?_,λi j a1 a2 a3 a4=>?_,λi j a1 a2 a3=>?_,λi j a1 a2 a3=>?_,λi j a1 a2 a3 a4=>?_,λi j a1 a2 a3 a4=>?_⟩
 ·rw [no i zO,no j zO]
  exact hl i j a1 a2 zO
 ·rw [lo i a1 zO,lo j zO a3]
  exact hr _ _ zO zO zO
 ·rw [no i zO,lo j a3 a4]
  exact hc _ _ a1 zO zO zO
 ·rw [hi i a1 zO,hi j zO a3]
  exact hl _ _ zO zO zO
 ·rw [no i zO,no j zO]
  exact hr _ _ zO a2 a3
 ·rw [hi i a1 zO,no j zO]
  exact hc _ _ zO zO zO a4
 ·by_cases c1:i<s
  ·rw [no i zO]
   by_cases c2:j<e
   ·rw [hi j a3 c2]
    exact hl _ _ a1 zO zO
   ·rw [no j zO]
    have q:=ha zO zO
    have q1:wK key (f i) (f e):=by
     by_cases g:i=s - 1
     ·rw [g];exact q
     ·exact (hl i (s - 1) a1 zO zO).trans q
    by_cases g:j=e
    ·rw [g];exact q1
    ·exact q1.trans (hr e j zO zO a4)
  ·rw [lo i zO a2]
   by_cases c2:j<e
   ·rw [hi j a3 c2]
    have q:=hb zO zO
    have q1:wK key (f (i+m - s)) (f s):=by
     by_cases g:i+m - s=e - 1
     ·rw [g];exact q
     ·exact (hr _ (e - 1) zO zO zO).trans q
    by_cases g:j - (e - m)=s
    ·rw [g];exact q1
    ·exact q1.trans (hl s _ h1 zO zO)
   ·rw [no j zO]
    exact hr _ _ zO zO a4
theorem ajT {key:Int->Int} {f g h:Nat->Int} {a d b:Nat} (hd:a<=d) (hb:d<=b) (lr:∀i j,a<=i->i<d->d<=j->j<b->wK key (f i) (f j)) (s1:wJ key g a d) (u1:uF f g a d) (o1:uG f g a d) (s2:wJ key h d b) (u2:uF g h d b) (o2:uG g h d b):wJ key h a b/\uF f h a b/\uG f h a b:=by
 refine ⟨λi j a1 a2 a3=>?_,(u1.wide o1 (zD _) hb).trans (u2.wide o2 hd (zD _)),(o1.wide (zD _) hb).trans (o2.wide hd (zD _))⟩
 by_cases c1:j<d
 ·rw [o2 i zO,o2 j zO]
  exact s1 i j a1 a2 c1
 ·by_cases c2:i<d
  ·rw [o2 i zO]
   obtain ⟨i',b1,b2,e1⟩:=u1 i a1 c2
   obtain ⟨j',b3,b4,e2⟩:=u2 j zO a3
   rw [e1,e2,o1 j' zO]
   exact lr i' j' b1 b2 b3 b4
  ·exact s2 i j zO a2 a3
theorem awN {key:Int->Int} {f:Nat->Int} {a i m:Nat} (h1:a<=i) (h2:i<=m) (hl:wJ key f a m) (hu:a<i->wK key (f (i - 1)) (f m)) (hd:i<m->wK key (f m) (f i)):wJ key (yu f i m (m+1)) a (m+1):=by
 have lo:yu f i m (m+1) i=f m:=by rw [wE f (zD _) zO];congr 1;omega
 have hi:∀k,i+1<=k->k<m+1->yu f i m (m+1) k=f (k - 1):=λk a1 a2=>by rw [wM f zO a2];congr 1;omega
 have no:∀k,k<i->yu f i m (m+1) k=f k:=λk a1=>yB f zO
 have up:∀k,a<=k->k<i->wK key (f k) (f m):=λk a1 a2=>by
  by_cases g:k=i - 1
  ·rw [g];exact hu zO
  ·exact (hl k (i - 1) a1 zO zO).trans (hu zO)
 have dn:∀k,i<=k->k<m->wK key (f m) (f k):=λk a1 a2=>by
  by_cases g:k=i
  ·rw [g];exact hd zO
  ·exact (hd zO).trans (hl i k h1 zO a2)
 intro x y a1 a2 a3
 by_cases c1:y<i
 ·rw [no x zO,no y c1]
  exact hl x y a1 a2 zO
 ·by_cases c2:y=i
  ·rw [c2,lo,no x zO]
   exact up x a1 zO
  ·rw [hi y zO a3]
   by_cases c3:x<i
   ·rw [no x c3]
    exact hl x _ a1 zO zO
   ·by_cases c4:x=i
    ·rw [c4,lo]
     exact dn _ zO zO
    ·rw [hi x zO zO]
     exact hl _ _ zO zO zO
theorem awO {key:Int->Int} {f:Nat->Int} {a i b:Nat} (h1:a+1<=i) (h2:i<=b) (hr:wJ key f (a+1) b) (hu:a+1<i->wK key (f (i - 1)) (f a)) (hd:i<b->wK key (f a) (f i)):wJ key (yu f a (a+1) i) a b:=by
 have lo:∀k,a<=k->k<i - 1->yu f a (a+1) i k=f (k+1):=λk a1 a2=>by rw [wE f a1 zO];congr 1;omega
 have hi:yu f a (a+1) i (i - 1)=f a:=by rw [wM f zO zO];congr 1;omega
 have no:∀k,i<=k->yu f a (a+1) i k=f k:=λk a1=>yB f zO
 have up:∀k,a+1<=k->k<i->wK key (f k) (f a):=λk a1 a2=>by
  by_cases g:k=i - 1
  ·rw [g];exact hu zO
  ·exact (hr k (i - 1) a1 zO zO).trans (hu zO)
 have dn:∀k,i<=k->k<b->wK key (f a) (f k):=λk a1 a2=>by
  by_cases g:k=i
  ·rw [g];exact hd zO
  ·exact (hd zO).trans (hr i k h1 zO a2)
 intro x y a1 a2 a3
 by_cases c1:y<i - 1
 ·rw [lo x a1 zO,lo y zO c1]
  exact hr _ _ zO zO zO
 ·by_cases c2:y=i - 1
  ·rw [c2,hi,lo x a1 zO]
   exact up _ zO zO
  ·rw [no y zO]
   by_cases c3:x<i - 1
   ·rw [lo x a1 c3]
    exact hr _ _ zO zO a3
   ·by_cases c4:x=i - 1
    ·rw [c4,hi]
     exact dn _ zO a3
    ·rw [no x zO]
     exact hr _ _ zO a2 a3
theorem aiM (f:Nat->Int) {a k:Nat} (h:a<=k) (x:Nat):yu f a (a+1) (k+2) x=if x=k+1 then yu f a (a+1) (k+1) k else if x=k then yu f a (a+1) (k+1) (k+1) else yu f a (a+1) (k+1) x:=by
 by_cases h1:x=k+1
 ·rw [zp h1,h1,wM f zO zO,wM f zO zO]
  congr 1
  omega
 ·rw [z6 h1]
  by_cases h2:x=k
  ·rw [zp h2,h2,wE f zO zO,yB f zO]
   congr 1
   omega
  ·rw [z6 h2]
   by_cases h3:a<=x/\x<k
   ·rw [wE f h3.1 zO,wE f h3.1 zO]
   ·rw [yB f zO,yB f zO]
theorem afW (f:Nat->Int) {k m:Nat} (h:k+1<=m) (x:Nat):yu f k m (m+1) x=if x=k then yu f (k+1) m (m+1) (k+1) else if x=k+1 then yu f (k+1) m (m+1) k else yu f (k+1) m (m+1) x:=by
 by_cases h1:x=k
 ·rw [zp h1,h1,wE f zO zO,wE f zO zO]
  congr 1
  omega
 ·rw [z6 h1]
  by_cases h2:x=k+1
  ·rw [zp h2,h2,wM f zO zO,yB f zO]
   congr 1
   omega
  ·rw [z6 h2]
   by_cases h3:k+2<=x/\x<m+1
   ·rw [wM f zO h3.2,wM f zO h3.2]
   ·rw [yB f zO,yB f zO]
def agC (x y:Int):Int:=if x<y then -1 else if y<x then 1 else 0
theorem agM {x y:Int} (h:x<y):agC x y=-1:=zp h
theorem agN {x y:Int} (h:¬x<y):∃z:Int,¬z<0/\agC x y=z:=by
 refine ⟨_,?_,rfl⟩
 unfold agC
 rw [z6 h]
 split<;>omega
def agE (f:Nat->Int) (n:Nat):Prop:=∀k,k<n->0<=f k/\f k<(n:Int)
theorem agE.sub {f g:Nat->Int} {n a b:Nat} (h:agE f n) (hs:uF f g a b) (ho:uG f g a b) (hb:b<=n):agE g n:=λk hk=>by
 obtain ⟨k',-,h2,e⟩:=hs.wide ho (zAK _) hb k (zAK _) hk
 rw [e]
 exact h k' h2
def Sg (key:Int->Int) (f:Nat->Int) (a b:Nat):Prop:=wJ key f a b/\∀k,a<=k->k<b->(a:Int)<=f k/\f k<(b:Int)
theorem Sg.out {key:Int->Int} {f g:Nat->Int} {a b x y:Nat} (h:Sg key f a b) (ho:uG f g x y) (hd:b<=x\/y<=a):Sg key g a b:=
 ⟨h.1.out ho hd,λk h1 h2=>by rw [ho k zO];exact h.2 k h1 h2⟩
theorem Sg.crs {key:Int->Int} {f:Nat->Int} {a m b:Nat} (h:Sg key f a m) (h':Sg key f m b):aeM f a m b:=λi j h1 h2 h3 h4=>by
 have:=h.2 i h1 h2
 have:=h'.2 j h3 h4
 omega
theorem Sg.akO {key:Int->Int} {f g:Nat->Int} {a b:Nat} (hr:∀k,a<=k->k<b->(a:Int)<=f k/\f k<(b:Int)) (hs:wJ key g a b) (hu:uF f g a b):Sg key g a b:=
 ⟨hs,λk h1 h2=>by obtain ⟨k',c1,c2,e⟩:=hu k h1 h2;rw [e];exact hr k' c1 c2⟩
theorem Sg.both {key:Int->Int} {f:Nat->Int} {a m b:Nat} (h:Sg key f a m) (h':Sg key f m b) (h1:a<=m) (h2:m<=b):∀k,a<=k->k<b->(a:Int)<=f k/\f k<(b:Int):=λk c1 c2=>by
 by_cases hk:k<m
 ·have:=h.2 k c1 hk;omega
 ·have:=h'.2 k zO c2;omega
inductive acL (key:Int->Int) (f:Nat->Int) (bs n:Nat):Nat->Prop
 |done {a:Nat}:n<=a->acL key f bs n a
 |step {a:Nat}:a<n->Sg key f a (min (a+bs) n)->acL key f bs n (a+bs)->acL key f bs n a
inductive ac9 (key:Int->Int) (f:Nat->Int) (bs:Nat):Nat->Prop
 |nil:ac9 key f bs 0
 |snoc {a:Nat}:ac9 key f bs a->Sg key f a (a+bs)->ac9 key f bs (a+bs)
theorem acL.out {key:Int->Int} {f g:Nat->Int} {bs n a x y:Nat} (h:acL key f bs n a) (ho:uG f g x y) (hy:y<=a):acL key g bs n a:=by
 induction h with
 |done h=>exact .done h
 |step h1 h2 _ ih=>exact .step h1 (h2.out ho (.inr hy)) (ih zO)
theorem ac9.out {key:Int->Int} {f g:Nat->Int} {bs a x y:Nat} (h:ac9 key f bs a) (ho:uG f g x y) (hx:a<=x):ac9 key g bs a:=by
 induction h with
 |nil=>exact .nil
 |snoc _ h2 ih=>exact .snoc (ih zO) (h2.out ho (.inl zO))
theorem ac9.join {key:Int->Int} {f:Nat->Int} {bs n a:Nat} (h:ac9 key f bs a) (h0:0<bs) (ha:a<=n) (hs:acL key f bs n a):acL key f bs n 0:=by
 induction h with
 |nil=>exact hs
 |snoc _ h2 ih=>exact ih zO (.step zO (by rw [Nat.min_eq_left ha];exact h2) hs)
theorem acL.head {key:Int->Int} {f:Nat->Int} {bs n a:Nat} (h:acL key f bs n a) (ha:a<n):Sg key f a (min (a+bs) n)/\acL key f bs n (a+bs):=by
 cases h with
 |done h=>omega
 |step _ h1 h2=>exact ⟨h1,h2⟩
def afN (key:Nat->Int) (x y:Nat):Prop:=key x<key y\/(key x=key y/\x<y)
def awQ (key:Nat->Int) (n:Nat) (l:List Nat):List Nat:=(l.filter λx=>decide (key x<=key n))++n::(l.filter λx=> !decide (key x<=key n))
def agA (key:Nat->Int):Nat->List Nat
 |0=>[]
 |n+1=>awQ key n (agA key n)
theorem atM (key:Nat->Int) (n:Nat) (l:List Nat):(awQ key n l).Perm (n::l):=
 List.perm_middle.trans ((List.filter_append_perm _ l).cons n)
theorem ae1 (key:Nat->Int) (n:Nat):(agA key n).Perm (List.range n):=by
 induction n with
 |zero=>exact .nil
 |succ n ih=>
  rw [List.range_succ]
  exact ((atM key n _).trans (ih.cons n)).trans (List.perm_append_comm (l₁:=[n]))
theorem awP {key:Nat->Int} {n:Nat} {l:List Nat} (h:l.Pairwise (afN key)) (hn:∀x∈l,x<n):(awQ key n l).Pairwise (afN key):=by
 refine List.pairwise_append.2 ⟨h.sublist List.filter_sublist,zAd.2 ⟨λy hy=>?_,h.sublist List.filter_sublist⟩,λx hx y hy=>?_⟩
 ·have:=List.mem_filter.1 hy
  simp only [Bool.not_eq_true',decide_eq_false_iff_not] at this
  exact .inl zO
 ·have h1:=List.mem_filter.1 hx
  simp only [decide_eq_true_eq] at h1
  have h2:=hn x h1.1
  rcases zAM.1 hy with rfl|hy
  ·unfold afN;omega
  ·have h3:=List.mem_filter.1 hy
   simp only [Bool.not_eq_true',decide_eq_false_iff_not] at h3
   unfold afN;omega
theorem akI {key:Nat->Int} {n x:Nat} (h:x∈agA key n):x<n:=List.mem_range.1 ((ae1 key n).mem_iff.1 h)
theorem ahB (key:Nat->Int) (n:Nat):(agA key n).Pairwise (afN key):=by
 induction n with
 |zero=>exact .nil
 |succ n ih=>exact awP ih λx hx=>akI hx
theorem asX {key:Nat->Int} {n:Nat} {l:List Nat} (hp:l.Perm (List.range n)) (hs:l.Pairwise (afN key)):l=agA key n:=
 List.Perm.eq_of_pairwise (le:=afN key) (λa b _ _ h1 h2=>by unfold afN at h1 h2;omega) hs (ahB key n) (hp.trans (ae1 key n).symm)
theorem adQ (key:Nat->Int) (n:Nat):(agA key n).length=n:=by have:=(ae1 key n).length_eq;simpa using this
theorem aoN {l:List Nat} {n:Nat} (hnd:l.Nodup) (hl:l.length=n) (hlt:∀x∈l,x<n):l.Perm (List.range n):=by
 refine (List.perm_ext_iff_of_nodup hnd List.nodup_range).2 λx=>⟨λhx=>List.mem_range.2 (hlt x hx),λhx=>?_⟩
 refine Classical.byContradiction λhno=>?_
 have h1:=List.Nodup.length_le_of_subset (List.nodup_cons.2 ⟨hno,hnd⟩) (l₂:=List.range n) (λy hy=>by
  rcases zAM.1 hy with rfl|hy
  ·exact hx
  ·exact List.mem_range.2 (hlt y hy))
 simp at h1
 omega
theorem a00 {key:Int->Int} {f:Nat->Int} {n:Nat} (h:Sg key f 0 n):(List.range n).map (λk=>(f k).toNat)=agA (λk=>key k) n:=by
 have hv:∀k,k<n->((f k).toNat:Int)=f k:=λk hk=>by have:=h.2 k (zAK _) hk;omega
 have hs:((List.range n).map λk=>(f k).toNat).Pairwise (afN λk=>key k):=by
  rw [List.pairwise_iff_getElem]
  intro i j hi hj hij
  simp only [List.length_map,List.length_range] at hi hj
  simp only [List.getElem_map,List.getElem_range]
  have:=h.1 i j (zAK _) hij hj
  unfold wK at this
  unfold afN
  simp only
  rw [hv i hi,hv j hj]
  have:=hv i hi
  have:=hv j hj
  omega
 refine asX ?_ hs
 have hnd:((List.range n).map λk=>(f k).toNat).Nodup:=hs.imp fun {a b} hab e=>by subst e;unfold afN at hab;omega
 refine aoN hnd zA1 λx hx=>?_
 obtain ⟨k,hk,rfl⟩:=zAT.1 hx
 have:=h.2 k (zAK _) (List.mem_range.1 hk)
 have:=List.mem_range.1 hk
 omega
open Go.RowKit
set_option maxRecDepth 100000
abbrev IA (w:World) (g n:Nat) (f:Nat->Int):Prop:=Arw w g 3 n λk=>.int .i64 (f k)
theorem IA.swap {w:World} {g n:Nat} {f f':Nat->Int} (h:IA w g n f) {x y:Nat} (hf:∀k,f' k=if k=y then f x else if k=x then f y else f k):
 IA ((w.setCell ⟨g,x,none⟩ (.int .i64 (f y))).setCell ⟨g,y,none⟩ (.int .i64 (f x))) g n f':=by
 refine (h.qi (k:=x) (d':=λk=>.int .i64 (if k=x then f y else f k)) _ λj _=>?_).qi (k:=y) _ λj _=>?_
 ·by_cases hj:j=x
  ·rw [zp hj,zp hj]
  ·rw [z6 hj,z6 hj]
 ·rw [hf j]
  by_cases hj:j=y
  ·rw [zp hj,zp hj]
  ·rw [z6 hj,z6 hj]
set_option maxHeartbeats 4000000 in
theorem aeQ (g n a b m:Nat) (f:Nat->Int) (v:Value) (w:World) (h:IA w g n f) (hab:a+m<=b) (hb:b+m<=n) (hn:n<=1000000):
 Calls Tryz.prog 221 #[.slice (some ⟨g,0,none⟩) n n,.int .i64 a,.int .i64 b,.int .i64 m,v] w λe w'=>e=.returned (.tuple #[])/\IA w' g n (swF f a b m)/\qU g w w':=by
 go_enter Tryz.func221,Tryz.ntmps221
 go_wp2_with fail
 go_loopw [10] (λiv wr=>∃i:Nat,i<=m/\iv=.int .i64 i/\IA wr g n (swF f a b i)/\qU g w wr) (λiv _=>m - (intOf iv).toNat)
 case atStart=>exact ⟨0,zAK _,rfl,by rw [avD];exact h,qU.refl _ _⟩
 case round=>
  obtain ⟨i,hi,rfl,hr,ho⟩:=hrel
  by_cases him:i<m
  ·obtain ⟨x,hx⟩:∃x,x=a+i:=⟨_,rfl⟩
   obtain ⟨y,hy⟩:∃y,y=b+i:=⟨_,rfl⟩
   have c0:=hr.cell (k:=x) zO
   have c1:=hr.cell (k:=y) zO
   have z0:=hr.frozen x
   have z1:=hr.frozen y
   have hq:=hr.swap (x:=x) (y:=y) (f':=swF f a b (i+1)) (λk=>by
    rw [avE f zO k,hx,hy,a2B f zO,a2A f zO])
   have HQ:=zL hq
   have HO:=zL (ho.qi x (.int .i64 (swF f a b i y)) |>.qi y (.int .i64 (swF f a b i x)))
   have i0:(0:Int)<=(i:Int):=zO
   have i1:(i:Int)<(m:Int):=zO
   have x0:(0:Int)<=(x:Int):=zO
   have x1:(x:Int)<(n:Int):=zO
   have y0:(0:Int)<=(y:Int):=zO
   have y1:(y:Int)<(n:Int):=zO
   have sx:(a:Int)+(i:Int)=(x:Int):=zO
   have sy:(b:Int)+(i:Int)=(y:Int):=zO
   have wx:IntKind.i64.wrap (x:Int)=(x:Int):=zBD
   have wy:IntKind.i64.wrap (y:Int)=(y:Int):=zBD
   have hne:x≠y:=zO
   have hne2:¬y=x:=zO
   obtain ⟨p,hp⟩:∃p,p=swF f a b i x:=⟨_,rfl⟩
   obtain ⟨q,hq⟩:∃q,q=swF f a b i y:=⟨_,rfl⟩
   rw [<-hp] at c0
   rw [<-hq] at c1
   rw [<-hp,<-hq] at HQ HO
   clear hx hy hp hq hr ho
   go_upto_region 3 with fail
   go_region
   go_wp2_with fail
   go_roundw
   case rel=>exact ⟨i+1,him,by go_num,HQ.o,HO.o.drewN 1⟩
   case measure=>simp [intOf];omega
  ·obtain rfl:i=m:=by omega
   have HR:=zL hr
   go_wp2_with fail
   go_end0
   exact ⟨rfl,HR.o,ho⟩
theorem wrapN {x:Nat} (h:x<=4000000):IntKind.i64.wrap (x:Int)=(x:Int):=zBD
set_option maxHeartbeats 4000000 in
theorem ayZ (g n a m b:Nat) (f:Nat->Int) (v:Value) (w:World) (h:IA w g n f) (ham:a<m) (hmb:m<b) (hb:b<=n) (hn:n<=1000000):
 Calls Tryz.prog 206 #[.slice (some ⟨g,0,none⟩) n n,.int .i64 a,.int .i64 m,.int .i64 b,v] w λe w'=>e=.returned (.tuple #[])/\IA w' g n (yu f a m b)/\qU g w w':=by
 obtain ⟨i0,hi0⟩:∃i0,i0=m - a:=⟨_,rfl⟩
 obtain ⟨j0,hj0⟩:∃j0,j0=b - m:=⟨_,rfl⟩
 have si:(m:Int) - (a:Int)=(i0:Int):=zO
 have sj:(b:Int) - (m:Int)=(j0:Int):=zO
 have wi:=wrapN (x:=i0) zO
 have wj:=wrapN (x:=j0) zO
 have hst:yu f (m - i0) m (m+j0)=yu f a m b:=by rw [hi0,hj0,show m - (m - a)=a by omega,show m+(b - m)=b by omega]
 have b1:i0<=m:=zO
 have b2:m+j0<=n:=zO
 have b3:0<i0:=zO
 have b4:0<j0:=zO
 have HST:=zL hst
 have HI:=zL h
 clear hi0 hj0 hst h
 go_enter Tryz.func206,Tryz.ntmps206
 go_wp2_with fail
 go_loopw [10,11] (λiv jv wr=>∃(i j:Nat) (F:Nat->Int),0<i/\0<j/\i<=m/\m+j<=n/\iv=.int .i64 i/\jv=.int .i64 j/\IA wr g n F/\qU g w wr/\yu F (m - i) m (m+j)=yu f a m b) (λiv jv _=>(intOf iv).toNat+(intOf jv).toNat)
 case atStart=>exact ⟨i0,j0,f,b3,b4,b1,b2,rfl,rfl,HI.o,qU.refl _ _,HST.o⟩
 case round=>
  obtain ⟨i,j,F,c1,c2,c3,c4,rfl,rfl,hr,ho,he⟩:=hrel
  have HR:=zL hr
  have HO:=zL ho
  have HE:=zL he
  clear hr ho he HST HI si sj wi wj b1 b2 b3 b4
  obtain ⟨x,hx⟩:∃x,x=m - i:=⟨_,rfl⟩
  have sx:(m:Int) - (i:Int)=(x:Int):=zO
  have wx:=wrapN (x:=x) zO
  have HX:=zL hx
  clear hx
  rcases Nat.lt_trichotomy i j with hij|hij|hij
  ·obtain ⟨y,hy⟩:∃y,y=m+j - i:=⟨_,rfl⟩
   obtain ⟨z,hz⟩:∃z,z=m+j:=⟨_,rfl⟩
   have sz:(m:Int)+(j:Int)=(z:Int):=zO
   have wz:=wrapN (x:=z) zO
   have sy:(z:Int) - (i:Int)=(y:Int):=zO
   have wy:=wrapN (x:=y) zO
   obtain ⟨d,hd⟩:∃d,d=j - i:=⟨_,rfl⟩
   have sd:(j:Int) - (i:Int)=(d:Int):=zO
   have wd:=wrapN (x:=d) zO
   have q1:¬(j:Int)<(i:Int):=zO
   have q2:((i:Int) !=(j:Int))=true:=zA7
   have hd0:0<d:=zO
   have hdj:d<j:=zO
   have q3:x+i<=y:=by rw [HX.o];omega
   have q4:y+i<=n:=zO
   have q5:m+d<=n:=zO
   have HN:=zM (yu (swF F x y i) (m - i) m (m+d)=yu f a m b) (by rw [HX.o,hy,hd,an7 F c3 c1 hij];exact HE.o)
   clear hy hz hd
   go_wp2_with fail
   refine (aeQ g n x y i F v wr HR.o q3 q4 hn).mono ?_
   rintro e w2 ⟨rfl,r2,o2⟩
   have R2:=zL r2
   have O2:=zL (HO.o.trans o2)
   clear r2 o2
   go_wp2_with fail
   go_roundw
   case rel=>exact ⟨i,d,_,c1,hd0,c3,q5,rfl,rfl,R2.o,O2.o,HN.o⟩
   case measure=>simp [intOf];omega
  ·have q2:((i:Int) !=(j:Int))=false:=by simp;omega
   have HN:=zM (swF F x m i=yu f a m b) (by rw [HX.o,anQ F c3];rw [<-HE.o,hij])
   have q3:x+i<=m:=by rw [HX.o];omega
   have q4:m+i<=n:=zO
   clear hij
   go_wp2_with fail
   refine (aeQ g n x m i F v wr HR.o q3 q4 hn).mono ?_
   rintro e w2 ⟨rfl,r2,o2⟩
   rw [HN.o] at r2
   have R2:=zL r2
   have O2:=zL (HO.o.trans o2)
   clear r2 o2
   go_wp2_with fail
   go_end0
   exact ⟨rfl,R2.o,O2.o⟩
  ·obtain ⟨d,hd⟩:∃d,d=i - j:=⟨_,rfl⟩
   have sd:(i:Int) - (j:Int)=(d:Int):=zO
   have wd:=wrapN (x:=d) zO
   have q1:(j:Int)<(i:Int):=zO
   have q2:((i:Int) !=(j:Int))=true:=zA7
   have hd0:0<d:=zO
   have hdj:d<i:=zO
   have hdm:d<=m:=zO
   have q3:x+j<=m:=by rw [HX.o];omega
   have HN:=zM (yu (swF F x m j) (m - d) m (m+j)=yu f a m b) (by rw [HX.o,hd,asD F c3 hij];exact HE.o)
   clear hd
   go_wp2_with fail
   refine (aeQ g n x m j F v wr HR.o q3 c4 hn).mono ?_
   rintro e w2 ⟨rfl,r2,o2⟩
   have R2:=zL r2
   have O2:=zL (HO.o.trans o2)
   clear r2 o2
   go_wp2_with fail
   go_roundw
   case rel=>exact ⟨d,j,_,hd0,c2,hdm,c4,rfl,rfl,R2.o,O2.o,HN.o⟩
   case measure=>simp [intOf];omega
def aiI (key:Int->Int) (n g bA:Nat) (w0:World):Prop:=∀W,qU g w0 W->∀x y:Int,0<=x->x<(n:Int)->0<=y->y<(n:Int)→
 Calls Tryz.prog 127 #[.int .i64 x,.int .i64 y,.pointer (some ⟨bA,0,none⟩)] W λe w'=>e=.returned (.int .i64 (agC (key x) (key y)))/\∃q,w'=W.drewN q
def Merged (key:Int->Int) (n g a b:Nat) (f:Nat->Int) (w:World) (e:Ending) (w':World):Prop:=e=.returned (.tuple #[])/\∃f',IA w' g n f'/\qU g w w'/\wJ key f' a b/\uF f f' a b/\uG f f' a b
set_option maxHeartbeats 8000000 in
theorem ayL (key:Int->Int) (g n bA a m b:Nat) (f:Nat->Int) (w0 w:World) (HC:Hid (aiI key n g bA w0)) (hm:m=a+1) (hmb:m<b) (hb:b<=n) (hn:n<=1000000) (h:IA w g n f) (ho:qU g w0 w) (hv:agE f n) (hr:wJ key f m b) (hc:aeM f a m b):
 Calls Tryz.prog 183 #[.slice (some ⟨g,0,none⟩) n n,.int .i64 a,.int .i64 m,.int .i64 b,.func (.func 127) #[] #[.pointer (some ⟨bA,0,none⟩)]] w (Merged key n g a b f w):=by
 have s1:(m:Int) - (a:Int)=1:=zO
 have a0:(0:Int)<=(a:Int):=zO
 have a1:(a:Int)<(n:Int):=zO
 have ce:=h.cell (k:=a) zO
 have HM:=zL hm
 have HI:=zL h
 have HO:=zL ho
 have HV:=zL hv
 have HR:=zL hr
 have HX:=zL hc
 have ham:a<m:=zO
 clear hm h ho hv hr hc
 go_enter Tryz.func183,Tryz.ntmps183
 go_wp2_with fail
 go_loopw [10,11] (λiv jv wr=>∃i j q:Nat,m<=i/\i<=j/\j<=b/\iv=.int .i64 i/\jv=.int .i64 j/\wr=w.drewN q/\(m<i->wK key (f (i - 1)) (f a))/\(j<b->wK key (f a) (f j))) (λiv jv _=>(intOf jv).toNat - (intOf iv).toNat)
 case atStart=>exact ⟨m,b,0,zD _,by omega,zD _,rfl,rfl,rfl,λh=>by omega,λh=>by omega⟩
 case round=>
  obtain ⟨i,j,q,c1,c2,c3,rfl,rfl,rfl,l1,l2⟩:=hrel
  have L1:=zL l1
  have L2:=zL l2
  clear l1 l2
  by_cases hij:i<j
  ·skip
   obtain ⟨t,ht⟩:∃t,t=(i+j) / 2:=⟨_,rfl⟩
   have t0:i<=t:=zO
   have t1:t<j:=zO
   have c4:i+j<=4000000:=zO
   obtain ⟨z,hz⟩:∃z,z=i+j:=⟨_,rfl⟩
   have sz:(i:Int)+(j:Int)=(z:Int):=zO
   have wz:=wrapN (x:=z) zO
   have wz2:IntKind.u64.wrap (z:Int)=(z:Int):=zCX
   have sh:((z:Int)) / 2=(t:Int):=zO
   have HT:=zL ht
   clear hz ht c4
   go_upto_region 5 with fail
   have T0:(0:Int)<=(t:Int):=zO
   have T1:(t:Int)<(n:Int):=zO
   have wt:=wrapN (x:=t) zO
   have ct:=HI.o.cell (k:=t) zO
   obtain ⟨fe,hfe⟩:∃fe,fe=f a:=⟨_,rfl⟩
   obtain ⟨ft,hft⟩:∃ft,ft=f t:=⟨_,rfl⟩
   have ve:=HV.o a zO
   have vt:=HV.o t zO
   have hcr:=HX.o a t (zD _) ham zO zO
   rw [<-hfe] at ce ve hcr
   rw [<-hft] at ct vt hcr
   have CC:=zM (∀W,qU g w0 W->Calls Tryz.prog 127 #[.int .i64 ft,.int .i64 fe,.pointer (some ⟨bA,0,none⟩)] W λe w'=>e=.returned (.int .i64 (agC (key ft) (key fe)))/\∃q,w'=W.drewN q) (λW hW=>HC.out W hW ft fe vt.1 vt.2 ve.1 ve.2)
   have HFE:=zL hfe
   have HFT:=zL hft
   by_cases hk:key ft<key fe
   ·have HK:=zL (agM hk)
    have L3:=zM (m<t+1->wK key (f (t+1 - 1)) (f a)) (λ_=>by rw [show t+1 - 1=t by omega,<-HFT.o,<-HFE.o];exact .aqO hk)
    clear hk hfe hft ve vt hcr
    go_region_held3 (λW=>W.cell? ⟨g,t,none⟩=some (.int .i64 ft)/\W.cell? ⟨g,a,none⟩=some (.int .i64 fe))
     (first |go_keep|exact ⟨ct,ce⟩)
     ((go_at_call 127;refine (CC.o _ (HO.o.drewN (q+1))).mono ?_;rw [HK.o];rintro e w6 ⟨rfl,q6,rfl⟩))
    exact zEC
   ·obtain ⟨y,hy0,hy⟩:=agN hk
    have hy1:decide (y<0)=false:=zAH hy0
    have hy2:(0:Int)<=y:=zO
    have HK:=zL hy
    have L3:=zM (t<b->wK key (f a) (f t)) (λ_=>by rw [<-HFT.o,<-HFE.o];exact .of_le hk hcr)
    clear hk hfe hft ve vt hcr hy
    go_region_held3 (λW=>W.cell? ⟨g,t,none⟩=some (.int .i64 ft)/\W.cell? ⟨g,a,none⟩=some (.int .i64 fe))
     (first |go_keep|exact ⟨ct,ce⟩)
     ((go_at_call 127;refine (CC.o _ (HO.o.drewN (q+1))).mono ?_;rw [HK.o];rintro e w6 ⟨rfl,q6,rfl⟩))
    exact zEG
  ·obtain rfl:i=j:=by omega
   obtain ⟨i1,hi1⟩:∃i1,i1=i - 1:=⟨_,rfl⟩
   have si:(i:Int) - 1=(i1:Int):=zO
   have wi:=wrapN (x:=i1) zO
   have c5:a<=i1:=zO
   have c6:i1<b:=zO
   have HE:=zM (i1+1=i) zO
   have HS:=zM (wJ key (yu f a (a+1) i) a b) (awO (by rw [<-HM.o];exact c1) c3 (by rw [<-HM.o];exact HR.o) (λh=>L1.o (by rw [HM.o];exact h)) L2.o)
   clear hi1 L1 L2 ce
   go_wp2_with fail
   go_loopw [13] (λkv wr=>∃k:Nat,a<=k/\k<=i1/\kv=.int .i64 k/\IA wr g n (yu f a (a+1) (k+1))/\qU g w wr) (λkv _=>i1 - (intOf kv).toNat)
   case atStart=>exact ⟨a,zD _,c5,rfl,by rw [adJ f a (a+1) (a+1) (.inr ⟨rfl,by omega⟩)];exact HI.o,(qU.refl _ _).drewN q⟩
   case round=>
    obtain ⟨x,d1,d2,rfl,hr,ho2⟩:=hrel
    by_cases hxi:x<i1
    ·obtain ⟨y,hy⟩:∃y,y=x+1:=⟨_,rfl⟩
     have sy:(x:Int)+1=(y:Int):=zO
     obtain ⟨F,hF⟩:∃F,F=yu f a (a+1) (x+1):=⟨_,rfl⟩
     rw [<-hF] at hr
     have HSTEP:=zM (∀k,yu f a (a+1) (y+1) k=if k=y then F x else if k=x then F y else F k) (λk=>by rw [hF,hy];exact aiM f d1 k)
     have hyx:x<y:=zO
     have hyi:y<=i1:=zO
     have hay:a<=y:=zO
     clear hy hF
     have e0:=hr.cell (k:=x) zO
     have e1:=hr.cell (k:=y) zO
     have z0:=hr.frozen x
     have z1:=hr.frozen y
     have HQ:=zL (hr.swap (x:=x) (y:=y) HSTEP.o)
     have x0:(0:Int)<=(x:Int):=zO
     have x1:(x:Int)<(n:Int):=zO
     have y0:(0:Int)<=(y:Int):=zO
     have y1:(y:Int)<(n:Int):=zO
     have wx:=wrapN (x:=x) zO
     have wy:=wrapN (x:=y) zO
     have hne:x≠y:=zO
     have hne2:¬y=x:=zO
     obtain ⟨P,hP⟩:∃P,P=F x:=⟨_,rfl⟩
     obtain ⟨Q,hQ⟩:∃Q,Q=F y:=⟨_,rfl⟩
     have HO2:=zL (ho2.qi x (.int .i64 (F y)) |>.qi y (.int .i64 (F x)))
     rw [<-hP] at e0
     rw [<-hQ] at e1
     rw [<-hP,<-hQ] at HQ HO2
     clear hP hQ hr ho2
     go_upto_region 11 with fail
     go_region
     go_wp2_with fail
     go_roundw
     case rel=>exact ⟨y,hay,hyi,by first |rfl|go_num,HQ.o,HO2.o.drewN 1⟩
     case measure=>simp [intOf];omega
    ·obtain rfl:x=i1:=by omega
     rw [HE.o] at hr
     have HRR:=zL hr
     have HOO:=zL ho2
     have HEN:=zL (show uF f (yu f a (a+1) i) a b/\uG f (yu f a (a+1) i) a b from by
      have h1:a+1<=i:=by rw [<-HM.o];exact c1
      exact ⟨(rotF_sub f (Nat.le_succ a) h1).wide (rotF_out f (Nat.le_succ a) h1) (zD _) c3,(rotF_out f (Nat.le_succ a) h1).wide (zD _) c3⟩)
     exact zFB
set_option maxHeartbeats 8000000 in
theorem avC (key:Int->Int) (g n bA a m b:Nat) (f:Nat->Int) (w0 w:World) (HC:Hid (aiI key n g bA w0)) (ham:a+1<m) (hmb:b=m+1) (hb:b<=n) (hn:n<=1000000) (h:IA w g n f) (ho:qU g w0 w) (hv:agE f n) (hl:wJ key f a m) (hc:aeM f a m b):
 Calls Tryz.prog 183 #[.slice (some ⟨g,0,none⟩) n n,.int .i64 a,.int .i64 m,.int .i64 b,.func (.func 127) #[] #[.pointer (some ⟨bA,0,none⟩)]] w (Merged key n g a b f w):=by
 obtain ⟨u,hu⟩:∃u,u=m - a:=⟨_,rfl⟩
 have s0:(m:Int) - (a:Int)=(u:Int):=zO
 have u1:((u:Int)==1)=false:=beq_eq_false_iff_ne.2 zO
 have u2:(u:Int)≠1:=zO
 have wu:=wrapN (x:=u) zO
 have s1:(b:Int) - (m:Int)=1:=zO
 have m0:(0:Int)<=(m:Int):=zO
 have m1:(m:Int)<(n:Int):=zO
 have ce:=h.cell (k:=m) zO
 have hmn:m<n:=zO
 have HB:=zL hmb
 have HI:=zL h
 have HO:=zL ho
 have HV:=zL hv
 have HR:=zL hl
 have HX:=zL hc
 have hmb':m<b:=zO
 have ham':a<=m:=zO
 clear hmb h ho hv hl hc hu
 go_enter Tryz.func183,Tryz.ntmps183
 go_wp2_with fail
 go_loopw [14,15] (λiv jv wr=>∃i j q:Nat,a<=i/\i<=j/\j<=m/\iv=.int .i64 i/\jv=.int .i64 j/\wr=w.drewN q/\(a<i->wK key (f (i - 1)) (f m))/\(j<m->wK key (f m) (f j))) (λiv jv _=>(intOf jv).toNat - (intOf iv).toNat)
 case atStart=>exact ⟨a,m,0,zD _,ham',zD _,rfl,rfl,rfl,λh=>by omega,λh=>by omega⟩
 case round=>
  obtain ⟨i,j,q,c1,c2,c3,rfl,rfl,rfl,l1,l2⟩:=hrel
  have L1:=zL l1
  have L2:=zL l2
  clear l1 l2
  by_cases hij:i<j
  ·skip
   obtain ⟨t,ht⟩:∃t,t=(i+j) / 2:=⟨_,rfl⟩
   have t0:i<=t:=zO
   have t1:t<j:=zO
   have c4:i+j<=4000000:=zO
   obtain ⟨z,hz⟩:∃z,z=i+j:=⟨_,rfl⟩
   have sz:(i:Int)+(j:Int)=(z:Int):=zO
   have wz:=wrapN (x:=z) zO
   have wz2:IntKind.u64.wrap (z:Int)=(z:Int):=zCX
   have sh:((z:Int)) / 2=(t:Int):=zO
   have HT:=zL ht
   clear hz ht c4
   go_upto_region 17 with fail
   have T0:(0:Int)<=(t:Int):=zO
   have T1:(t:Int)<(n:Int):=zO
   have wt:=wrapN (x:=t) zO
   have ct:=HI.o.cell (k:=t) zO
   obtain ⟨fe,hfe⟩:∃fe,fe=f m:=⟨_,rfl⟩
   obtain ⟨ft,hft⟩:∃ft,ft=f t:=⟨_,rfl⟩
   have ve:=HV.o m zO
   have vt:=HV.o t zO
   have hcr:=HX.o t m zO zO (zD _) hmb'
   rw [<-hfe] at ce ve hcr
   rw [<-hft] at ct vt hcr
   have CC:=zM (∀W,qU g w0 W->Calls Tryz.prog 127 #[.int .i64 fe,.int .i64 ft,.pointer (some ⟨bA,0,none⟩)] W λe w'=>e=.returned (.int .i64 (agC (key fe) (key ft)))/\∃q,w'=W.drewN q) (λW hW=>HC.out W hW fe ft ve.1 ve.2 vt.1 vt.2)
   have HFE:=zL hfe
   have HFT:=zL hft
   by_cases hk:key fe<key ft
   ·have HK:=zL (agM hk)
    have L3:=zM (t<m->wK key (f m) (f t)) (λ_=>by rw [<-HFT.o,<-HFE.o];exact .aqO hk)
    clear hk hfe hft ve vt hcr
    go_region_held3 (λW=>W.cell? ⟨g,t,none⟩=some (.int .i64 ft)/\W.cell? ⟨g,m,none⟩=some (.int .i64 fe))
     (first |go_keep|exact ⟨ct,ce⟩)
     ((go_at_call 127;refine (CC.o _ (HO.o.drewN (q+1))).mono ?_;rw [HK.o];rintro e w6 ⟨rfl,q6,rfl⟩))
    exact zEG
   ·obtain ⟨y,hy0,hy⟩:=agN hk
    have hy1:decide (y<0)=false:=zAH hy0
    have hy2:(0:Int)<=y:=zO
    have HK:=zL hy
    have L3:=zM (a<t+1->wK key (f (t+1 - 1)) (f m)) (λ_=>by rw [show t+1 - 1=t by omega,<-HFT.o,<-HFE.o];exact .of_le hk hcr)
    clear hk hfe hft ve vt hcr hy
    go_region_held3 (λW=>W.cell? ⟨g,t,none⟩=some (.int .i64 ft)/\W.cell? ⟨g,m,none⟩=some (.int .i64 fe))
     (first |go_keep|exact ⟨ct,ce⟩)
     ((go_at_call 127;refine (CC.o _ (HO.o.drewN (q+1))).mono ?_;rw [HK.o];rintro e w6 ⟨rfl,q6,rfl⟩))
    exact zEC
  ·obtain rfl:i=j:=by omega
   have HS:=zM (wJ key (yu f i m (m+1)) a b) (by rw [HB.o];exact awN c1 c3 HR.o L1.o L2.o)
   clear L1 L2 ce
   go_wp2_with fail
   go_loopw [17] (λkv wr=>∃k:Nat,i<=k/\k<=m/\kv=.int .i64 k/\IA wr g n (yu f k m (m+1))/\qU g w wr) (λkv _=>(intOf kv).toNat)
   case atStart=>exact ⟨m,c3,zD _,rfl,by rw [adJ f m m (m+1) (.inl rfl)];exact HI.o,(qU.refl _ _).drewN q⟩
   case round=>
    obtain ⟨x,d1,d2,rfl,hr,ho2⟩:=hrel
    by_cases hxi:i<x
    ·obtain ⟨y,hy⟩:∃y,y=x - 1:=⟨_,rfl⟩
     have sy:(x:Int) - 1=(y:Int):=zO
     obtain ⟨F,hF⟩:∃F,F=yu f x m (m+1):=⟨_,rfl⟩
     rw [<-hF] at hr
     have HSTEP:=zL (show ∀k,yu f y m (m+1) k=if k=y then F x else if k=x then F y else F k from λk=>by
      have e:x=y+1:=zO
      rw [hF,e];exact afW f zO k)
     have hyx:y<x:=zO
     have hyi:i<=y:=zO
     have hay:y<=m:=zO
     clear hy hF
     have e0:=hr.cell (k:=x) zO
     have e1:=hr.cell (k:=y) zO
     have z0:=hr.frozen x
     have z1:=hr.frozen y
     have HQ:=zL (hr.swap (x:=x) (y:=y) HSTEP.o)
     have x0:(0:Int)<=(x:Int):=zO
     have x1:(x:Int)<(n:Int):=zO
     have y0:(0:Int)<=(y:Int):=zO
     have y1:(y:Int)<(n:Int):=zO
     have wx:=wrapN (x:=x) zO
     have wy:=wrapN (x:=y) zO
     have hne:x≠y:=zO
     have hne2:¬y=x:=zO
     obtain ⟨P,hP⟩:∃P,P=F x:=⟨_,rfl⟩
     obtain ⟨Q,hQ⟩:∃Q,Q=F y:=⟨_,rfl⟩
     have HO2:=zL (ho2.qi x (.int .i64 (F y)) |>.qi y (.int .i64 (F x)))
     rw [<-hP] at e0
     rw [<-hQ] at e1
     rw [<-hP,<-hQ] at HQ HO2
     clear hP hQ hr ho2
     go_upto_region 23 with fail
     go_region
     go_wp2_with fail
     go_roundw
     case rel=>exact ⟨y,hyi,hay,by first |rfl|go_num,HQ.o,HO2.o.drewN 1⟩
     case measure=>simp [intOf];omega
    ·obtain rfl:x=i:=by omega
     have HRR:=zL hr
     have HOO:=zL ho2
     have HEN:=zL (show uF f (yu f x m (m+1)) a b/\uG f (yu f x m (m+1)) a b from by
      rw [HB.o]
      exact ⟨(rotF_sub f c3 (Nat.le_succ m)).wide (rotF_out f c3 (Nat.le_succ m)) c1 (zD _),(rotF_out f c3 (Nat.le_succ m)).wide c1 (zD _)⟩)
     exact zFB
theorem aeM.out {f g:Nat->Int} {a b a' m' b':Nat} (h:aeM f a' m' b') (ho:uG f g a b) (hd:b'<=a\/b<=a'):aeM g a' m' b':=λi j h1 h2 h3 h4=>by
 rw [ho i zO,ho j zO]
 exact h i j h1 h2 h3 h4
theorem ayM {key:Int->Int} {f:Nat->Int} {a m b lo hi nn s:Nat} (e1:lo<=s) (e2:s<=hi) (h1:a<=lo) (h2:hi<=m) (h3:hi+m<=nn) (h4:nn<=lo+b) (h6:lo=a\/nn=lo+b) (h7:hi=m\/nn=hi+m)
 (l1:lo<s->wK key (f (s - 1)) (f (nn - 1 - (s - 1)))) (l2:s<hi->wK key (f (nn - 1 - s)) (f s)) (hl:wJ key f a m) (hr:wJ key f m b) (hc:aeM f a m b):
 a0V key (yu f s m (nn - s)) a s (s+(nn - s - m)) (nn - s) b:=
 azZ zO zO zO zO hl hr hc
  (λg1 g2=>by
   have:=l1 zO
   rw [show nn - 1 - (s - 1)=nn - s by omega] at this
   exact this)
  (λg1 g2=>by
   have:=l2 zO
   rw [show nn - 1 - s=nn - s - 1 by omega] at this
   exact this)
set_option maxHeartbeats 8000000 in
theorem avB (key:Int->Int) (g n bA a m b:Nat) (f:Nat->Int) (w0 w:World) (HC:Hid (aiI key n g bA w0)) (ham:a+1<m) (hmb:m+1<b) (hb:b<=n) (hn:n<=1000000) (h:IA w g n f) (ho:qU g w0 w) (hv:agE f n) (hl:wJ key f a m) (hr:wJ key f m b) (hc:aeM f a m b)
 (IH:∀(a' m' b':Nat) (f':Nat->Int) (w':World),b' - a'<b - a->a'<m'->m'<b'->b'<=n->IA w' g n f'->qU g w0 w'->agE f' n->wJ key f' a' m'->wJ key f' m' b'->aeM f' a' m' b'→
  Calls Tryz.prog 183 #[.slice (some ⟨g,0,none⟩) n n,.int .i64 a',.int .i64 m',.int .i64 b',.func (.func 127) #[] #[.pointer (some ⟨bA,0,none⟩)]] w' (Merged key n g a' b' f' w')):
 Calls Tryz.prog 183 #[.slice (some ⟨g,0,none⟩) n n,.int .i64 a,.int .i64 m,.int .i64 b,.func (.func 127) #[] #[.pointer (some ⟨bA,0,none⟩)]] w (Merged key n g a b f w):=by
 obtain ⟨u,hu⟩:∃u,u=m - a:=⟨_,rfl⟩
 have s0:(m:Int) - (a:Int)=(u:Int):=zO
 have u1:((u:Int)==1)=false:=beq_eq_false_iff_ne.2 zO
 have u2:(u:Int)≠1:=zO
 have wu:=wrapN (x:=u) zO
 obtain ⟨v,hvv⟩:∃v,v=b - m:=⟨_,rfl⟩
 have s1:(b:Int) - (m:Int)=(v:Int):=zO
 have v1:((v:Int)==1)=false:=beq_eq_false_iff_ne.2 zO
 have v2:(v:Int)≠1:=zO
 have wv:=wrapN (x:=v) zO
 obtain ⟨z,hz⟩:∃z,z=a+b:=⟨_,rfl⟩
 obtain ⟨mid,hmid⟩:∃mid,mid=z / 2:=⟨_,rfl⟩
 obtain ⟨nn,hnn⟩:∃nn,nn=mid+m:=⟨_,rfl⟩
 obtain ⟨p,hp⟩:∃p,p=nn - 1:=⟨_,rfl⟩
 have sz:(a:Int)+(b:Int)=(z:Int):=zO
 have wz:=wrapN (x:=z) zO
 have wz2:IntKind.u64.wrap (z:Int)=(z:Int):=zCX
 have sh:((z:Int)) / 2=(mid:Int):=zO
 have wm:=wrapN (x:=mid) zO
 have sn:(mid:Int)+(m:Int)=(nn:Int):=zO
 have wn:=wrapN (x:=nn) zO
 have sp:(nn:Int) - 1=(p:Int):=zO
 have wp:=wrapN (x:=p) zO
 obtain ⟨lo,hi,hlh1,hlh2⟩:∃lo hi:Nat,(mid<m->lo=nn - b/\hi=mid)/\(¬mid<m->lo=a/\hi=m):=by
  by_cases hx:mid<m
  ·exact ⟨nn - b,mid,λ_=>⟨rfl,rfl⟩,λh=>zAv hx h⟩
  ·exact ⟨a,m,λh=>zAv h hx,λ_=>⟨rfl,rfl⟩⟩
 have k0:lo<=hi/\a<=lo/\hi<=m/\hi+m<=nn/\nn<=lo+b/\hi<=mid/\(lo=a\/nn=lo+b)/\(hi=m\/nn=hi+m):=by
  by_cases hx:mid<m
  ·obtain ⟨rfl,rfl⟩:=hlh1 hx
   omega
  ·obtain ⟨rfl,rfl⟩:=hlh2 hx
   omega
 obtain ⟨k1,k2,k3,k4,k5,k6,k7,k8⟩:=k0
 have hsb:mid<m->(nn:Int) - (b:Int)=(lo:Int):=λhx=>by
  obtain ⟨h1,-⟩:=hlh1 hx
  omega
 have wlo:=wrapN (x:=lo) zO
 have hma:a<mid/\mid<b:=zO
 have HK:=zM ((lo=a\/nn=lo+b)/\(hi=m\/nn=hi+m)) (⟨k7,k8⟩)
 have HL1:=zL hlh1
 have HL2:=zL hlh2
 have HSB:=zL hsb
 have HN:=zM (nn=mid+m/\p=nn - 1/\mid=(a+b) / 2) zO
 have HI:=zL h
 have HO:=zL ho
 have HV:=zL hv
 have HL:=zL hl
 have HR:=zL hr
 have HX:=zL hc
 have HIH:=zL IH
 clear hu hvv hz hmid hnn hp hlh1 hlh2 hsb k7 k8 h ho hv hl hr hc IH
 go_enter Tryz.func183,Tryz.ntmps183
 go_upto_if 140 with fail
 go_cut [20,21] from 141 to 146 (λx y wx=>x=.int .i64 lo/\y=.int .i64 hi/\wx=w)
 case first=>
  by_cases hx:mid<m
  ·have hsl:=HSB.o hx
   go_wp2_with fail
   go_meet
   obtain ⟨e1,e2⟩:=HL1.o hx
   exact ⟨by first |rfl|rw [e1],by rw [e2],rfl⟩
  ·go_wp2_with fail
   go_meet
   obtain ⟨e1,e2⟩:=HL2.o hx
   exact ⟨by rw [e1],by rw [e2],rfl⟩
 case rest=>
 obtain ⟨rfl,rfl,rfl⟩:=hcut
 go_wp2_with fail
 go_loopw [20,21] (λiv jv wr=>∃i j q:Nat,lo<=i/\i<=j/\j<=hi/\iv=.int .i64 i/\jv=.int .i64 j/\wr=wc.drewN q/\(lo<i->wK key (f (i - 1)) (f (nn - 1 - (i - 1))))/\(j<hi->wK key (f (nn - 1 - j)) (f j))) (λiv jv _=>(intOf jv).toNat - (intOf iv).toNat)
 case atStart=>exact ⟨lo,hi,0,zD _,k1,zD _,rfl,rfl,rfl,λh=>by omega,λh=>by omega⟩
 case round=>
  obtain ⟨i,j,q,c1,c2,c3,rfl,rfl,rfl,l1,l2⟩:=hrel
  have L1:=zL l1
  have L2:=zL l2
  clear l1 l2
  by_cases hij:i<j
  ·obtain ⟨t,ht⟩:∃t,t=(i+j) / 2:=⟨_,rfl⟩
   have t0:i<=t:=zO
   have t1:t<j:=zO
   obtain ⟨y,hy⟩:∃y,y=i+j:=⟨_,rfl⟩
   have sy:(i:Int)+(j:Int)=(y:Int):=zO
   have wy:=wrapN (x:=y) zO
   have wy2:IntKind.u64.wrap (y:Int)=(y:Int):=zCX
   have sh2:((y:Int)) / 2=(t:Int):=zO
   obtain ⟨o,hoo⟩:∃o,o=nn - 1 - t:=⟨_,rfl⟩
   obtain ⟨hn1,hn2,hn3⟩:=HN.o
   have so:(p:Int) - (t:Int)=(o:Int):=zO
   have wo:=wrapN (x:=o) zO
   have o0:m<=o:=zO
   have o1:o<b:=zO
   have HT:=zL ht
   have HOO:=zL hoo
   clear hy ht hoo hn1 hn2 hn3
   go_upto_region 35 with fail
   have T0:(0:Int)<=(t:Int):=zO
   have T1:(t:Int)<(n:Int):=zO
   have O0:(0:Int)<=(o:Int):=zO
   have O1:(o:Int)<(n:Int):=zO
   have wt:=wrapN (x:=t) zO
   have ct:=HI.o.cell (k:=t) zO
   have co:=HI.o.cell (k:=o) zO
   obtain ⟨ft,hft⟩:∃ft,ft=f t:=⟨_,rfl⟩
   obtain ⟨fo,hfo⟩:∃fo,fo=f o:=⟨_,rfl⟩
   have vt:=HV.o t zO
   have vo:=HV.o o zO
   have hcr:=HX.o t o zO zO o0 o1
   rw [<-hft] at ct vt hcr
   rw [<-hfo] at co vo hcr
   have CC:=zM (∀W,qU g w0 W->Calls Tryz.prog 127 #[.int .i64 fo,.int .i64 ft,.pointer (some ⟨bA,0,none⟩)] W λe w'=>e=.returned (.int .i64 (agC (key fo) (key ft)))/\∃q,w'=W.drewN q) (λW hW=>HC.out W hW fo ft vo.1 vo.2 vt.1 vt.2)
   have HFT:=zL hft
   have HFO:=zL hfo
   by_cases hk:key fo<key ft
   ·have HK2:=zL (agM hk)
    have L3:=zM (t<hi->wK key (f (nn - 1 - t)) (f t)) (λ_=>by rw [<-HOO.o,<-HFT.o,<-HFO.o];exact .aqO hk)
    clear hk hft hfo vt vo hcr
    go_region_held3 (λW=>W.cell? ⟨g,o,none⟩=some (.int .i64 fo)/\W.cell? ⟨g,t,none⟩=some (.int .i64 ft))
     (first |go_keep|exact ⟨co,ct⟩)
     ((go_at_call 127;refine (CC.o _ (HO.o.drewN (q+1))).mono ?_;rw [HK2.o];rintro e w6 ⟨rfl,q6,rfl⟩))
    exact zEG
   ·obtain ⟨x,hx0,hx⟩:=agN hk
    have hx1:decide (x<0)=false:=zAH hx0
    have hx2:(0:Int)<=x:=zO
    have HK2:=zL hx
    have L3:=zM (lo<t+1->wK key (f (t+1 - 1)) (f (nn - 1 - (t+1 - 1)))) (λ_=>by rw [show t+1 - 1=t by omega,<-HOO.o,<-HFT.o,<-HFO.o];exact .of_le hk hcr)
    clear hk hft hfo vt vo hcr hx
    go_region_held3 (λW=>W.cell? ⟨g,o,none⟩=some (.int .i64 fo)/\W.cell? ⟨g,t,none⟩=some (.int .i64 ft))
     (first |go_keep|exact ⟨co,ct⟩)
     ((go_at_call 127;refine (CC.o _ (HO.o.drewN (q+1))).mono ?_;rw [HK2.o];rintro e w6 ⟨rfl,q6,rfl⟩))
    exact zEC
  ·obtain rfl:i=j:=by omega
   obtain ⟨X,hX⟩:∃X:World,X=wc.drewN q:=⟨_,rfl⟩
   have HIX:=zM (IA X g n f) (by rw [hX];exact HI.o.drewN q)
   have HOX:=zM (qU g wc X) (by rw [hX];exact (qU.refl _ _).drewN q)
   rw [<-hX]
   obtain ⟨e,he⟩:∃e,e=nn - i:=⟨_,rfl⟩
   have se:(nn:Int) - (i:Int)=(e:Int):=zO
   have we:=wrapN (x:=e) zO
   have hmd:i+(nn - i - m)=mid:=by have:=HN.o;omega
   have HF:=ayM c1 c3 k2 k3 k4 k5 HK.o.1 HK.o.2 L1.o L2.o HL.o HR.o HX.o
   rw [hmd,<-he] at HF
   have HF:=zL HF
   have q1:m<=e:=zO
   have q2:e<=b:=zO
   have q3:i<=mid:=zO
   have q4:mid<=e:=by have:=HN.o;omega
   have q5:i<=m:=zO
   have q6:a<=i:=zO
   clear hX he hmd L1 L2 HK HL HR
   go_upto_region 39 with fail
   go_cut [185] from 178 to 185 (λx wx=>x=.bool (decide (i<m/\m<e))/\wx=X)
   case first=>
    by_cases d1:i<m
    ·have d3:(i:Int)<(m:Int):=by omega
     by_cases d2:m<e
     ·have d4:(m:Int)<(e:Int):=by omega
      go_wp2_with fail
      go_meet
      rw [zAI (show i<m/\m<e from ⟨d1,d2⟩)]
      exact ⟨rfl,rfl⟩
     ·have d4:¬(m:Int)<(e:Int):=by omega
      go_wp2_with fail
      go_meet
      rw [zAH (show ¬(i<m/\m<e) from λh=>d2 h.2)]
      exact ⟨by first |rfl|simp [d2],rfl⟩
    ·have d3:¬(i:Int)<(m:Int):=by omega
     go_wp2_with fail
     go_meet
     rw [zAH (show ¬(i<m/\m<e) from λh=>d1 h.1)]
     exact ⟨rfl,rfl⟩
   case rest=>
   obtain ⟨hbx,hwc⟩:=hcut
   obtain ⟨bb,hbb⟩:∃bb,bb=decide (i<m/\m<e):=⟨_,rfl⟩
   rw [<-hbb] at hbx
   subst hbx
   have HBB:=zL hbb
   clear hbb
   rename World=>V0
   have HIX0:=zM (IA V0 g n f) (by rw [hwc];exact HIX.o)
   have HOX0:=zM (qU g wc V0) (by rw [hwc];exact HOX.o)
   clear hwc HIX HOX
   obtain ⟨F1,hF1⟩:∃F1,F1=yu f i m e:=⟨_,rfl⟩
   have HRB:=zM (uF f F1 a b/\uG f F1 a b) (by rw [hF1];exact ⟨(rotF_sub f q5 q1).wide (rotF_out f q5 q1) q6 q2,(rotF_out f q5 q1).wide q6 q2⟩)
   rw [<-hF1] at HF
   have HF1:=zL hF1
   clear hF1 X
   go_upto_if 185 with fail
   go_cut [] from 186 to 191 (λwx=>IA wx g n F1/\qU g wc wx)
   case first=>
    cases bb with
    |true=>
     have d1:=of_decide_eq_true HBB.o.symm
     clear HBB
     obtain ⟨d1,d2⟩:=d1
     go_wp2_with fail
     refine (ayZ g n i m e f _ V0 HIX0.o d1 d2 (zAB q2 hb) hn).mono ?_
     rintro e9 w9 ⟨rfl,r9,o9⟩
     rw [<-HF1.o] at r9
     have R9:=zL r9
     have O9:=zL (HOX0.o.trans o9)
     clear r9 o9
     go_wp2_with fail
     go_meet
     exact ⟨R9.o,O9.o⟩
    |false=>
     have d1:=of_decide_eq_false HBB.o.symm
     clear HBB
     have hz:F1=f:=by rw [HF1.o];exact adJ f i m e zO
     clear d1
     go_wp2_with fail
     go_meet
     rw [hz]
     exact ⟨HIX0.o,HOX0.o⟩
   case rest=>
   rename World=>V1
   have HI1:=zL hcut.1
   have HO1:=zL hcut.2
   clear hcut HIX0 HOX0 HF1 V0
   have HV1:=zL (HV.o.sub HRB.o.1 HRB.o.2 hb)
   go_upto_region 41 with fail
   go_cut [199] from 192 to 199 (λx wx=>x=.bool (decide (a<i/\i<mid))/\wx=V1)
   case first=>
    by_cases d1:a<i
    ·have d3:(a:Int)<(i:Int):=by omega
     by_cases d2:i<mid
     ·have d4:(i:Int)<(mid:Int):=by omega
      go_wp2_with fail
      go_meet
      rw [zAI (show a<i/\i<mid from ⟨d1,d2⟩)]
      exact ⟨rfl,rfl⟩
     ·have d4:¬(i:Int)<(mid:Int):=by omega
      go_wp2_with fail
      go_meet
      rw [zAH (show ¬(a<i/\i<mid) from λh=>d2 h.2)]
      exact ⟨by first |rfl|simp [d2],rfl⟩
    ·have d3:¬(a:Int)<(i:Int):=by omega
     go_wp2_with fail
     go_meet
     rw [zAH (show ¬(a<i/\i<mid) from λh=>d1 h.1)]
     exact ⟨rfl,rfl⟩
   case rest=>
   obtain ⟨hbx,hwc⟩:=hcut
   obtain ⟨bb,hbb⟩:∃bb,bb=decide (a<i/\i<mid):=⟨_,rfl⟩
   rw [<-hbb] at hbx
   subst hbx
   have HBB:=zL hbb
   clear hbb
   rename World=>V2
   have HI2:=zM (IA V2 g n F1) (by rw [hwc];exact HI1.o)
   have HO2:=zM (qU g wc V2) (by rw [hwc];exact HO1.o)
   clear hwc HI1 HO1 V1
   go_upto_if 199 with fail
   go_cut [] from 200 to 205 (λwx=>∃G,IA wx g n G/\qU g wc wx/\wJ key G a mid/\uF F1 G a mid/\uG F1 G a mid)
   case first=>
    cases bb with
    |true=>
     have d1:=of_decide_eq_true HBB.o.symm
     clear HBB
     obtain ⟨d1,d2⟩:=d1
     go_wp2_with fail
     refine (HIH.o a i mid F1 V2 zO d1 d2 zO HI2.o (HO.o.trans HO2.o) HV1.o HF.o.l1 HF.o.l2 HF.o.lc).mono ?_
     rintro e9 w9 ⟨rfl,G,r1,r2,r3,r4,r5⟩
     have R9:=zM (∃G,IA w9 g n G/\qU g wc w9/\wJ key G a mid/\uF F1 G a mid/\uG F1 G a mid) (⟨G,r1,HO2.o.trans r2,r3,r4,r5⟩)
     clear r1 r2 r3 r4 r5
     go_wp2_with fail
     go_meet
     exact R9.o
    |false=>
     have d1:=of_decide_eq_false HBB.o.symm
     clear HBB
     have hs:wJ key F1 a mid:=by
      by_cases d2:i=a
      ·have:=HF.o.l2;rw [d2] at this;exact this
      ·have:=HF.o.l1;rw [show i=mid by omega] at this;exact this
     have HS:=zL hs
     clear d1 hs
     go_wp2_with fail
     go_meet
     exact ⟨F1,HI2.o,HO2.o,HS.o,uF.refl _ _ _,λ_ _=>rfl⟩
   case rest=>
   rename World=>V3
   obtain ⟨G1,g1,g2,g3,g4,g5⟩:=hcut
   have HG1:=zL g1
   have HG2:=zL g2
   have HG:=zM (wJ key G1 a mid/\uF F1 G1 a mid/\uG F1 G1 a mid) (⟨g3,g4,g5⟩)
   have HVG:=zL (HV1.o.sub g4 g5 zO)
   have HR1:=zM (wJ key G1 mid e/\wJ key G1 e b/\aeM G1 mid e b) (⟨HF.o.r1.out g5 (.inr (zD _)),HF.o.r2.out g5 (.inr q4),HF.o.rc.out g5 (.inr (zD _))⟩)
   clear g1 g2 g3 g4 g5 HI2 HO2 V2 HV1
   go_upto_region 43 with fail
   go_cut [213] from 206 to 213 (λx wx=>x=.bool (decide (mid<e/\e<b))/\wx=V3)
   case first=>
    by_cases d1:mid<e
    ·have d3:(mid:Int)<(e:Int):=by omega
     by_cases d2:e<b
     ·have d4:(e:Int)<(b:Int):=by omega
      go_wp2_with fail
      go_meet
      rw [zAI (show mid<e/\e<b from ⟨d1,d2⟩)]
      exact ⟨rfl,rfl⟩
     ·have d4:¬(e:Int)<(b:Int):=by omega
      go_wp2_with fail
      go_meet
      rw [zAH (show ¬(mid<e/\e<b) from λh=>d2 h.2)]
      exact ⟨by first |rfl|simp [d2],rfl⟩
    ·have d3:¬(mid:Int)<(e:Int):=by omega
     go_wp2_with fail
     go_meet
     rw [zAH (show ¬(mid<e/\e<b) from λh=>d1 h.1)]
     exact ⟨rfl,rfl⟩
   case rest=>
   obtain ⟨hbx,hwc⟩:=hcut
   obtain ⟨bb,hbb⟩:∃bb,bb=decide (mid<e/\e<b):=⟨_,rfl⟩
   rw [<-hbb] at hbx
   subst hbx
   have HBB:=zL hbb
   clear hbb
   rename World=>V4
   have HI4:=zM (IA V4 g n G1) (by rw [hwc];exact HG1.o)
   have HO4:=zM (qU g wc V4) (by rw [hwc];exact HG2.o)
   clear hwc HG1 HG2 V3
   cases bb with
   |true=>
    have d1:=of_decide_eq_true HBB.o.symm
    clear HBB
    obtain ⟨d1,d2⟩:=d1
    go_wp2_with fail
    refine (HIH.o mid e b G1 V4 zO d1 d2 hb HI4.o (HO.o.trans HO4.o) HVG.o HR1.o.1 HR1.o.2.1 HR1.o.2.2).mono ?_
    rintro e9 w9 ⟨rfl,H9,r1,r2,r3,r4,r5⟩
    obtain ⟨z1,z2,z3⟩:=ajT (Nat.le_of_lt hma.1) (Nat.le_of_lt hma.2) HF.o.lr HG.o.1 HG.o.2.1 HG.o.2.2 r3 r4 r5
    have R9:=zM (∃f',IA w9 g n f'/\qU g wc w9/\wJ key f' a b/\uF f f' a b/\uG f f' a b) (⟨H9,r1,HO4.o.trans r2,z1,HRB.o.1.trans z2,HRB.o.2.trans z3⟩)
    clear r1 r2 r3 r4 r5 z1 z2 z3
    go_wp2_with fail
    go_end0
    exact ⟨rfl,R9.o⟩
   |false=>
    have d1:=of_decide_eq_false HBB.o.symm
    clear HBB
    have hs:wJ key G1 mid b:=by
     by_cases d2:e=mid
     ·have:=HR1.o.2.1;rw [d2] at this;exact this
     ·have:=HR1.o.1;rw [show e=b by omega] at this;exact this
    obtain ⟨z1,z2,z3⟩:=ajT (Nat.le_of_lt hma.1) (Nat.le_of_lt hma.2) HF.o.lr HG.o.1 HG.o.2.1 HG.o.2.2 hs (uF.refl _ _ _) (λ_ _=>rfl)
    have R9:=zM (∃f',IA V4 g n f'/\qU g wc V4/\wJ key f' a b/\uF f f' a b/\uG f f' a b) (⟨G1,HI4.o,HO4.o,z1,HRB.o.1.trans z2,HRB.o.2.trans z3⟩)
    clear d1 hs z1 z2 z3
    go_wp2_with fail
    go_end0
    exact ⟨rfl,R9.o⟩
theorem ap9 (key:Int->Int) (g n bA:Nat) (w0:World) (HC:Hid (aiI key n g bA w0)) (hn:n<=1000000):∀(s a m b:Nat) (f:Nat->Int) (w:World),b - a<=s->a<m->m<b->b<=n->IA w g n f->qU g w0 w->agE f n->wJ key f a m->wJ key f m b->aeM f a m b→
 Calls Tryz.prog 183 #[.slice (some ⟨g,0,none⟩) n n,.int .i64 a,.int .i64 m,.int .i64 b,.func (.func 127) #[] #[.pointer (some ⟨bA,0,none⟩)]] w (Merged key n g a b f w):=by
 intro s
 induction s with
 |zero=>intro a m b f w h1 h2 h3;omega
 |succ s ih=>
  intro a m b f w h1 h2 h3 h4 h5 h6 h7 h8 h9 h10
  by_cases c1:m=a+1
  ·exact ayL key g n bA a m b f w0 w HC c1 h3 h4 hn h5 h6 h7 h9 h10
  ·by_cases c2:b=m+1
   ·exact avC key g n bA a m b f w0 w HC zO c2 h4 hn h5 h6 h7 h8 h10
   ·exact avB key g n bA a m b f w0 w HC zO zO h4 hn h5 h6 h7 h8 h9 h10 λa' m' b' f' w' g1=>ih a' m' b' f' w' zO
set_option maxHeartbeats 8000000 in
theorem aqY (key:Int->Int) (g n bA a b:Nat) (f:Nat->Int) (w0 w:World) (HC:Hid (aiI key n g bA w0)) (hab:a<=b) (hb:b<=n) (hn:n<=1000000) (h:IA w g n f) (ho:qU g w0 w) (hv:agE f n) (hup:∀i j,a<=i->i<j->j<b->f i<f j):
 Calls Tryz.prog 182 #[.slice (some ⟨g,0,none⟩) n n,.int .i64 a,.int .i64 b,.func (.func 127) #[] #[.pointer (some ⟨bA,0,none⟩)]] w (Merged key n g a b f w):=by
 obtain ⟨a1,ha1⟩:∃a1,a1=a+1:=⟨_,rfl⟩
 have sa:(a:Int)+1=(a1:Int):=zO
 have wa:=wrapN (x:=a1) zO
 have HA:=zL ha1
 have HI:=zL h
 have HO:=zL ho
 have HV:=zL hv
 have HU:=zL hup
 clear ha1 h ho hv hup
 go_enter Tryz.func182,Tryz.ntmps182
 go_wp2_with fail
 go_loopw [8] (λiv wr=>∃(i:Nat) (F:Nat->Int),a1<=i/\(i<=b\/i=a1)/\iv=.int .i64 i/\IA wr g n F/\qU g w wr/\wJ key F a i/\uF f F a i/\uG f F a i) (λiv _=>b - (intOf iv).toNat)
 case atStart=>exact ⟨a1,f,zD _,.inr rfl,rfl,HI.o,qU.refl _ _,λi j h1 h2 h3=>by have:=HA.o;omega,uF.refl _ _ _,λ_ _=>rfl⟩
 case round=>
  obtain ⟨i,F,c1,c2,rfl,r1,r2,r3,r4,r5⟩:=hrel
  have R1:=zL r1
  have R2:=zL r2
  have R3:=zL r3
  have R4:=zL r4
  have R5:=zL r5
  clear r1 r2 r3 r4 r5
  by_cases hib:i<b
  ·have hai:a<i:=by have:=HA.o;omega
   have HVF:=zL (HV.o.sub R4.o R5.o (show i<=n by omega))
   have HLT:=zL (show ∀k,a<=k->k<i->F k<F i from λk h1 h2=>by
    obtain ⟨k',d1,d2,e⟩:=R4.o k h1 h2
    rw [e,R5.o i (.inr (zD _))]
    exact HU.o k' i d1 d2 hib)
   go_wp2_with fail
   go_loopw [9] (λjv wr=>∃j:Nat,a<=j/\j<=i/\jv=.int .i64 j/\IA wr g n (yu F j i (i+1))/\qU g w wr/\(j<i->wK key (F i) (F j))) (λjv _=>(intOf jv).toNat)
   case atStart=>exact ⟨i,Nat.le_of_lt hai,zD _,rfl,by rw [adJ F i i (i+1) (.inl rfl)];exact R1.o,R2.o,λh=>by omega⟩
   case round=>
    obtain ⟨x,d1,d2,rfl,hr,ho2,l1⟩:=hrel
    have L1:=zL l1
    clear l1
    have HEND:=zL (show (x=a\/(a<x/\wK key (F (x - 1)) (F i)))->(wJ key (yu F x i (i+1)) a (i+1)/\uF f (yu F x i (i+1)) a (i+1)/\uG f (yu F x i (i+1)) a (i+1)) from λhx=>
     ⟨awN d1 d2 R3.o (λh9=>by rcases hx with hx|hx;omega;exact hx.2) L1.o,(R4.o.wide R5.o (zD _) (Nat.le_succ i)).trans ((rotF_sub F d2 (Nat.le_succ i)).wide (rotF_out F d2 (Nat.le_succ i)) d1 (zD _)),(R5.o.wide (zD _) (Nat.le_succ i)).trans ((rotF_out F d2 (Nat.le_succ i)).wide d1 (zD _))⟩)
    by_cases hax:a<x
    ·obtain ⟨y,hy⟩:∃y,y=x - 1:=⟨_,rfl⟩
     have sy:(x:Int) - 1=(y:Int):=zO
     have wy:=wrapN (x:=y) zO
     have hyx:y<x:=zO
     have hay:a<=y:=zO
     have x0:(0:Int)<=(x:Int):=zO
     have x1:(x:Int)<(n:Int):=zO
     have y0:(0:Int)<=(y:Int):=zO
     have y1:(y:Int)<(n:Int):=zO
     have t1:(a:Int)<(x:Int):=zO
     obtain ⟨G,hG⟩:∃G,G=yu F x i (i+1):=⟨_,rfl⟩
     have hGx:G x=F i:=by rw [hG,wE F (zD _) zO];congr 1;omega
     have hGy:G y=F y:=by rw [hG,yB F (.inl hyx)]
     have HSTEP:=zL (show ∀k,yu F y i (i+1) k=if k=y then G x else if k=x then G y else G k from λk=>by
      have e:x=y+1:=zO
      rw [hG,e];exact afW F zO k)
     have HXY:=zM (x - 1=y) zO
     rw [<-hG] at hr HEND
     have HGE:=zL hG
     have e0:=hr.cell (k:=x) zO
     have e1:=hr.cell (k:=y) zO
     obtain ⟨P,hP⟩:∃P,P=G x:=⟨_,rfl⟩
     obtain ⟨Q,hQ⟩:∃Q,Q=G y:=⟨_,rfl⟩
     have vP:0<=P/\P<(n:Int):=by rw [hP,hGx];exact HVF.o i zO
     have vQ:0<=Q/\Q<(n:Int):=by rw [hQ,hGy];exact HVF.o y zO
     have hcr:Q<P:=by rw [hP,hQ,hGx,hGy];exact HLT.o y hay zO
     have CC:=zM (∀W,qU g w0 W->Calls Tryz.prog 127 #[.int .i64 P,.int .i64 Q,.pointer (some ⟨bA,0,none⟩)] W λe w'=>e=.returned (.int .i64 (agC (key P) (key Q)))/\∃q,w'=W.drewN q) (λW hW=>HC.out W hW P Q vP.1 vP.2 vQ.1 vQ.2)
     have HGX:=zM (F i=P) (by rw [hP,hGx])
     have HGY:=zM (F y=Q) (by rw [hQ,hGy])
     have HR:=zL hr
     have HO2:=zL ho2
     have HOW:=zL (HO.o.trans ho2)
     rw [<-hP] at e0
     rw [<-hQ] at e1
     by_cases hk:key P<key Q
     ·have HK:=zL (agM hk)
      have HLX:=zM (y<i->wK key (F i) (F y)) (λ_=>by rw [HGX.o,HGY.o];exact .aqO hk)
      clear hk hG hGx hGy hP hQ hr ho2 vP vQ hcr hy HEND L1
      go_upto_region 4 with fail
      go_region_held3 (λW=>W.cell? ⟨g,x,none⟩=some (.int .i64 P)/\W.cell? ⟨g,y,none⟩=some (.int .i64 Q))
       (first |go_keep|exact ⟨e0,e1⟩)
       ((go_at_call 127;refine (CC.o _ (HOW.o.drewN 1)).mono ?_;rw [HK.o];rintro e w6 ⟨rfl,q6,rfl⟩))
      obtain ⟨X,hX⟩:∃X:World,X=wr.drewN (1+q6):=⟨_,rfl⟩
      have HRX:=zM (IA X g n G) (by rw [hX];exact HR.o)
      have HOX:=zM (qU g w X) (by rw [hX];exact HO2.o.drewN (1+q6))
      go_upto_region 6 with fail
      first |rw [<-hX]|skip
      have e2:=HRX.o.cell (k:=x) zO
      have e3:=HRX.o.cell (k:=y) zO
      have z0:=HRX.o.frozen x
      have z1:=HRX.o.frozen y
      have HQ2:=zL (HRX.o.swap (x:=x) (y:=y) HSTEP.o)
      have HO3:=zL (HOX.o.qi x (.int .i64 (G y)) |>.qi y (.int .i64 (G x)))
      have wx:=wrapN (x:=x) zO
      have hne:x≠y:=zO
      have hne2:¬y=x:=zO
      have hyi:y<=i:=zO
      obtain ⟨P2,hP2⟩:∃P2,P2=G x:=⟨_,rfl⟩
      obtain ⟨Q2,hQ2⟩:∃Q2,Q2=G y:=⟨_,rfl⟩
      rw [<-hP2] at e2
      rw [<-hQ2] at e3
      rw [<-hP2,<-hQ2] at HQ2 HO3
      clear hP2 hQ2 hX e0 e1 HSTEP HR HO2 HOW HRX HOX
      go_region
      go_wp2_with fail
      go_roundw
      case rel=>exact ⟨y,hay,hyi,by first |rfl|go_num,HQ2.o,HO3.o.drewN 1,HLX.o⟩
      case measure=>simp [intOf];omega
     ·obtain ⟨z,hz0,hz⟩:=agN hk
      have hz1:decide (z<0)=false:=zAH hz0
      have hz2:(0:Int)<=z:=zO
      have HK:=zL hz
      have HD:=zL (HEND.o (.inr ⟨hax,by rw [HXY.o,HGX.o,HGY.o];exact .of_le hk hcr⟩))
      clear hk hG hGx hGy hP hQ hr ho2 vP vQ hcr hy HEND L1 hz HSTEP
      go_upto_region 4 with fail
      go_region_held3 (λW=>W.cell? ⟨g,x,none⟩=some (.int .i64 P)/\W.cell? ⟨g,y,none⟩=some (.int .i64 Q))
       (first |go_keep|exact ⟨e0,e1⟩)
       ((go_at_call 127;refine (CC.o _ (HOW.o.drewN 1)).mono ?_;rw [HK.o];rintro e w6 ⟨rfl,q6,rfl⟩))
      go_wp2_with fail
      go_roundw
      case rel=>exact ⟨i+1,G,by omega,.inl hib,by go_num,HR.o.drewN _,HO2.o.drewN _,HD.o.1,HD.o.2.1,HD.o.2.2⟩
      case measure=>simp [intOf];omega
    ·have hxa:x=a:=by omega
     have t1:¬(a:Int)<(x:Int):=zO
     have t2:decide ((a:Int)<(x:Int))=false:=zAH t1
     have t3:(x:Int)<=(a:Int):=zO
     have HR:=zL hr
     have HO2:=zL ho2
     have HD:=zL (HEND.o (.inl hxa))
     have hai1:a1<=i+1:=zO
     clear hr ho2 HEND L1 hxa sa wa HA HLT HVF hax
     go_upto_region 4 with fail
     go_cut [34] from 18 to 34 (λv wx=>v=.bool false/\IA wx g n (yu F x i (i+1))/\qU g w wx)
     case first=>
      have hgt:((x:Int) > (a:Int))=False:=zA7
      go_big_quiet (fail)
      go_wp2_with fail
      go_meet
      exact ⟨rfl,HR.o.drewN _,HO2.o.drewN _⟩
     case rest=>
     obtain ⟨rfl,g1,g2⟩:=hcut
     have G1:=zL g1
     have G2:=zL g2
     clear g1 g2
     go_wp2_with fail
     go_roundw
     case rel=>exact ⟨i+1,_,hai1,.inl hib,by go_num,G1.o,G2.o,HD.o.1,HD.o.2.1,HD.o.2.2⟩
     case measure=>simp [intOf];omega
  ·have HD:=zL (show wJ key F a b/\uF f F a b/\uG f F a b from by
    rcases c2 with c2|c2
    ·obtain rfl:i=b:=by omega
     exact ⟨R3.o,R4.o,R5.o⟩
    ·by_cases e:i=b
     ·subst e;exact ⟨R3.o,R4.o,R5.o⟩
     ·have h0:b=a:=by have:=HA.o;omega
      have hF:∀k,F k=f k:=λk=>by
       by_cases hk:k<a\/i<=k
       ·exact R5.o k hk
       ·obtain ⟨k',d1,d2,e⟩:=R4.o k zO zO
        have h3:=HA.o
        rw [e,show k'=k by omega]
      exact ⟨λx y h1 h2 h3=>by omega,λk h1 h2=>by omega,λk _=>hF k⟩)
   go_wp2_with fail
   go_end0
   exact ⟨rfl,F,R1.o,R2.o,HD.o.1,HD.o.2.1,HD.o.2.2⟩
theorem Sg.id {key:Int->Int} {f:Nat->Int} {a b n:Nat} (h:∀k,a<=k->k<n->f k=(k:Int)) (hb:b<=n):(∀i j,a<=i->i<j->j<b->f i<f j)/\∀k,a<=k->k<b->(a:Int)<=f k/\f k<(b:Int):=
 ⟨λi j h1 h2 h3=>by rw [h i h1 zO,h j zO zO];omega,λk h1 h2=>by rw [h k h1 zO];omega⟩
set_option maxHeartbeats 8000000 in
theorem anT (key:Int->Int) (g n bA:Nat) (w:World) (HC:Hid (aiI key n g bA w)) (hn:n<=1000000) (h:IA w g n λk=>(k:Int)):
 Calls Tryz.prog 151 #[.slice (some ⟨g,0,none⟩) n n,.int .i64 n,.func (.func 127) #[] #[.pointer (some ⟨bA,0,none⟩)]] w (λe w'=>e=.returned (.tuple #[])/\∃f',IA w' g n f'/\qU g w w'/\Sg key f' 0 n):=by
 have HI:=zL h
 clear h
 go_enter Tryz.func151,Tryz.ntmps151
 go_wp2_with fail
 go_loopw [7,8] (λiv jv wr=>∃(a b:Nat) (F:Nat->Int),b=a+20/\a<=n/\iv=.int .i64 a/\jv=.int .i64 b/\IA wr g n F/\qU g w wr/\ac9 key F 20 a/\agE F n/\∀k,a<=k->k<n->F k=(k:Int)) (λiv _ _=>n - (intOf iv).toNat)
 case atStart=>exact ⟨0,20,_,rfl,zAK _,rfl,rfl,HI.o,qU.refl _ _,.nil,λk hk=>(show (0:Int)<=(k:Int)/\(k:Int)<(n:Int) by omega),λk _ _=>rfl⟩
 case round=>
  obtain ⟨a,b,F,hb,ha,rfl,rfl,r1,r2,r3,r4,r5⟩:=hrel
  have R1:=zL r1
  have R2:=zL r2
  have R3:=zL r3
  have R4:=zL r4
  have R5:=zL r5
  have HB:=zL hb
  clear r1 r2 r3 r4 r5 hb
  by_cases hbn:b<=n
  ·have HID:=zL (Sg.id (key:=key) R5.o hbn)
   have hab:a<=b:=by have:=HB.o;omega
   obtain ⟨b2,hb2⟩:∃b2,b2=b+20:=⟨_,rfl⟩
   have sb:(b:Int)+20=(b2:Int):=zO
   have wb:=wrapN (x:=b2) zO
   have HB2:=zL hb2
   have hlt:a<b:=by have:=HB.o;omega
   clear hb2
   go_wp2_with fail
   refine (aqY key g n bA a b F w wr HC hab hbn hn R1.o R2.o R4.o HID.o.1).mono ?_
   rintro e w2 ⟨rfl,G,g1,g2,g3,g4,g5⟩
   have G1:=zL g1
   have G2:=zL (R2.o.trans g2)
   have hsg:Sg key G a b:=Sg.akO HID.o.2 g3 g4
   have G3:=zM (ac9 key G 20 b) (by have:=(R3.o.out g5 (zD _)).snoc (by rw [<-HB.o];exact hsg);rw [<-HB.o] at this;exact this)
   have G4:=zL (R4.o.sub g4 g5 hbn)
   have G5:=zM (∀k,b<=k->k<n->G k=(k:Int)) (λk h1 h2=>by rw [g5 k (.inr h1)];exact R5.o k zO h2)
   clear g1 g2 g3 g4 g5 hsg
   go_wp2_with fail
   go_roundw
   case rel=>exact ⟨b,b2,G,HB2.o,hbn,rfl,rfl,G1.o,G2.o,G3.o,G4.o,G5.o⟩
   case measure=>simp [intOf];omega
  ·have HID:=zL (Sg.id (key:=key) R5.o (zD n))
   go_wp2_with fail
   refine (aqY key g n bA a n F w wr HC ha (zD _) hn R1.o R2.o R4.o HID.o.1).mono ?_
   rintro e w2 ⟨rfl,G,g1,g2,g3,g4,g5⟩
   have hsg:Sg key G a n:=Sg.akO HID.o.2 g3 g4
   have hnb:n<a+20:=by rw [<-HB.o];omega
   have hseg:acL key G 20 n a:=by
    by_cases h9:a<n
    ·exact .step h9 (by rw [Nat.min_eq_right (Nat.le_of_lt hnb)];exact hsg) (.done (Nat.le_of_lt hnb))
    ·exact .done zO
   have G1:=zL g1
   have G2:=zL (R2.o.trans g2)
   have G3:=zL (ac9.join (R3.o.out g5 (zD _)) zO ha hseg)
   have G4:=zL (R4.o.sub g4 g5 (zD _))
   clear g1 g2 g3 g4 g5 hsg hseg hnb R1 R2 R3 R4 R5 HID HB
   go_wp2_with fail
   go_loopw [6,7,8,9] (λsv _ _ _ wr=>∃(s:Nat) (F:Nat->Int),0<s/\s<=2000000/\sv=.int .i64 s/\IA wr g n F/\qU g w wr/\acL key F s n 0/\agE F n) (λsv _ _ _ _=>n - (intOf sv).toNat)
   case atStart=>exact ⟨20,G,by omega,by omega,rfl,G1.o,G2.o,G3.o,G4.o⟩
   case round=>
    obtain ⟨s,F,hs0,hs1,rfl,r1,r2,r3,r4⟩:=hrel
    have R1:=zL r1
    have R2:=zL r2
    have R3:=zL r3
    have R4:=zL r4
    clear r1 r2 r3 r4
    by_cases hsn:s<n
    ·obtain ⟨d,hd⟩:∃d,d=2*s:=⟨_,rfl⟩
     have sd:2*(s:Int)=(d:Int):=zO
     have sd':(s:Int)*2=(d:Int):=zO
     have wd:=wrapN (x:=d) zO
     have hd0:0<d:=zO
     have hd1:d<=2000000:=zO
     have hsd:s<d:=zO
     have HD:=zL hd
     clear hd
     go_wp2_with fail
     go_loopw [7,8] (λiv jv wr=>∃(a b:Nat) (F:Nat->Int),b=a+d/\a<=n/\iv=.int .i64 a/\jv=.int .i64 b/\IA wr g n F/\qU g w wr/\ac9 key F d a/\acL key F s n a/\agE F n) (λiv _ _=>n - (intOf iv).toNat)
     case atStart=>exact ⟨0,d,F,by omega,zAK _,rfl,rfl,R1.o,R2.o,.nil,R3.o,R4.o⟩
     case round=>
      obtain ⟨a,b,F,hb,ha,rfl,rfl,r1,r2,r3,r4,r5⟩:=hrel
      have Q1:=zL r1
      have Q2:=zL r2
      have Q3:=zL r3
      have Q4:=zL r4
      have Q5:=zL r5
      have HB:=zL hb
      clear r1 r2 r3 r4 r5 hb R1 R2 R3 R4
      obtain ⟨m,hm⟩:∃m,m=a+s:=⟨_,rfl⟩
      have sm:(a:Int)+(s:Int)=(m:Int):=zO
      have wm:=wrapN (x:=m) zO
      have HM:=zL hm
      have ham:a<m:=zO
      clear hm
      by_cases hbn:b<=n
      ·have hmb:m<b:=by have:=HB.o;have:=HM.o;omega
       have HH:=zL (show Sg key F a m/\Sg key F m b/\acL key F s n b from by
        obtain ⟨x1,x2⟩:=Q4.o.head zO
        have e1:=HM.o
        have e2:=HB.o
        have e3:=HD.o
        rw [Nat.min_eq_left zO,<-e1] at x1
        rw [<-e1] at x2
        obtain ⟨x3,x4⟩:=x2.head zO
        rw [Nat.min_eq_left zO,show m+s=b by omega] at x3
        rw [show m+s=b by omega] at x4
        exact ⟨x1,x3,x4⟩)
       obtain ⟨b2,hb2⟩:∃b2,b2=b+d:=⟨_,rfl⟩
       have sb:(b:Int)+(d:Int)=(b2:Int):=zO
       have wb:=wrapN (x:=b2) zO
       have HB2:=zL hb2
       clear hb2
       go_wp2_with fail
       refine (ap9 key g n bA w HC hn (b - a) a m b F wr (zD _) ham hmb hbn Q1.o Q2.o Q5.o HH.o.1.1 HH.o.2.1.1 (Sg.crs HH.o.1 HH.o.2.1)).mono ?_
       rintro e w3 ⟨rfl,G',g1,g2,g3,g4,g5⟩
       have hsg:Sg key G' a b:=Sg.akO (Sg.both HH.o.1 HH.o.2.1 (Nat.le_of_lt ham) (Nat.le_of_lt hmb)) g3 g4
       have K1:=zL g1
       have K2:=zL (Q2.o.trans g2)
       have K3:=zM (ac9 key G' d b) (by have:=(Q3.o.out g5 (zD _)).snoc (by rw [<-HB.o];exact hsg);rw [<-HB.o] at this;exact this)
       have K4:=zL (HH.o.2.2.out g5 (zD _))
       have K5:=zL (Q5.o.sub g4 g5 hbn)
       clear g1 g2 g3 g4 g5 hsg
       go_wp2_with fail
       go_roundw
       case rel=>exact ⟨b,b2,G',HB2.o,hbn,rfl,rfl,K1.o,K2.o,K3.o,K4.o,K5.o⟩
       case measure=>simp [intOf];omega
      ·have hnb:n<a+d:=by have:=HB.o;omega
       by_cases hmn:m<n
       ·have HH:=zL (show Sg key F a m/\Sg key F m n from by
             obtain ⟨x1,x2⟩:=Q4.o.head zO
             have e1:=HM.o
             have e3:=HD.o
             rw [Nat.min_eq_left zO,<-e1] at x1
             rw [<-e1] at x2
             obtain ⟨x3,x4⟩:=x2.head hmn
             rw [Nat.min_eq_right zO] at x3
             exact ⟨x1,x3⟩)
        go_wp2_with fail
        refine (ap9 key g n bA w HC hn (n - a) a m n F wr (zD _) ham hmn (zD _) Q1.o Q2.o Q5.o HH.o.1.1 HH.o.2.1 (Sg.crs HH.o.1 HH.o.2)).mono ?_
        rintro e w3 ⟨rfl,G',g1,g2,g3,g4,g5⟩
        have hsg:Sg key G' a n:=Sg.akO (Sg.both HH.o.1 HH.o.2 (Nat.le_of_lt ham) (Nat.le_of_lt hmn)) g3 g4
        have K1:=zL g1
        have K2:=zL (Q2.o.trans g2)
        have K3:=zL (ac9.join (Q3.o.out g5 (zD _)) hd0 ha (.step zO (by rw [Nat.min_eq_right zO];exact hsg) (.done zO)))
        have K5:=zL (Q5.o.sub g4 g5 (zD _))
        clear g1 g2 g3 g4 g5 hsg
        go_wp2_with fail
        go_roundw
        case rel=>exact ⟨d,G',hd0,hd1,by first |rfl|go_num,K1.o,K2.o,K3.o,K5.o⟩
        case measure=>simp [intOf];omega
       ·have K3:=zL (show acL key F d n 0 from ac9.join Q3.o hd0 ha (by
             by_cases h9:a<n
             ·obtain ⟨x1,-⟩:=Q4.o.head h9
              have e1:=HM.o
              rw [Nat.min_eq_right zO] at x1
              exact .step h9 (by rw [Nat.min_eq_right zO];exact x1) (.done zO)
             ·exact .done zO))
        go_wp2_with fail
        go_roundw
        case rel=>exact ⟨d,F,hd0,hd1,by first |rfl|go_num,Q1.o,Q2.o,K3.o,Q5.o⟩
        case measure=>simp [intOf];omega
    ·have HS:=zL (show Sg key F 0 n by
      by_cases h0:0<n
      ·have:=(R3.o.head h0).1
       rw [Nat.min_eq_right zO] at this
       exact this
      ·exact ⟨λi j h1 h2 h3=>by omega,λk h1 h2=>by omega⟩)
     go_wp2_with fail
     go_end0
     exact ⟨rfl,F,R1.o,R2.o,HS.o⟩
set_option maxHeartbeats 1000000 in
theorem amV (x y:Int) (w:World):Calls Tryz.prog 128 #[.int .i64 x,.int .i64 y] w λe w'=>e=.returned (.int .i64 (agC x y))/\w'=w:=by
 by_cases h1:x<y
 ·have HE:=zM (agC x y=-1) (zp h1)
  exact zEg
 ·by_cases h2:y<x
  ·have HE:=zM (agC x y=1) ((z6 h1).trans (zp h2))
   exact zEg
  ·have HE:=zM (agC x y=0) ((z6 h1).trans (z6 h2))
   exact zEg
set_option maxHeartbeats 2000000 in
theorem ar9 (key:Int->Int) (n g bA gA c:Nat) (w0:World) (hA:w0.cell? ⟨bA,0,none⟩=some (.slice (some ⟨gA,0,none⟩) n c)) (hbA:bA≠g) (hgA:gA≠g) (hr:IA w0 gA n λk=>key k):aiI key n g bA w0:=by
 intro W hW x y x0 x1 y0 y1
 obtain ⟨a,rfl⟩:∃a:Nat,x=a:=⟨x.toNat,by omega⟩
 obtain ⟨b,rfl⟩:∃b:Nat,y=b:=⟨y.toNat,by omega⟩
 have c0:W.cell? ⟨bA,0,none⟩=some (.slice (some ⟨gA,0,none⟩) n c):=(zAb (a:=⟨bA,0,none⟩) (hW.blk bA hbA)).trans hA
 have hr2:=hr.same (hW.blk gA hgA)
 have c1:W.cell? ⟨gA,a,none⟩=some (.int .i64 (key a)):=hr2.cell (k:=a) zO
 have c2:W.cell? ⟨gA,b,none⟩=some (.int .i64 (key b)):=hr2.cell (k:=b) zO
 have HK:=zL (λm=>amV (key a) (key b) (W.drewN m))
 obtain ⟨u,hu⟩:∃u,u=key a:=⟨_,rfl⟩
 obtain ⟨v,hv⟩:∃v,v=key b:=⟨_,rfl⟩
 rw [<-hu] at c1 HK ⊢
 rw [<-hv] at c2 HK ⊢
 clear hu hv hr hr2 hW hA
 go_enter Tryz.func127,Tryz.ntmps127
 go_wp2_with fail
 go_quiet ((go_at_call 128;exact Calls.quiet_of_same (HK.o _)))
 go_wp2_with fail
 go_ret
 exact ⟨rfl,_,rfl⟩
set_option maxHeartbeats 1000000 in
theorem agY (key:Int->Int) (g n bA gA c:Nat) (w:World) (hA:w.cell? ⟨bA,0,none⟩=some (.slice (some ⟨gA,0,none⟩) n c)) (hbA:bA≠g) (hgA:gA≠g) (hr:IA w gA n λk=>key k) (hn:n<=1000000) (h:IA w g n λk=>(k:Int)):
 Calls Tryz.prog 126 #[.slice (some ⟨g,0,none⟩) n n,.func (.func 127) #[] #[.pointer (some ⟨bA,0,none⟩)]] w (λe w'=>e=.returned (.tuple #[])/\∃f',IA w' g n f'/\qU g w w'/\(List.range n).map (λk=>(f' k).toNat)=agA (λk=>key k) n/\∀k,k<n->0<=f' k):=by
 have HC:=zL (ar9 key n g bA gA c w hA hbA hgA hr)
 have HI:=zL h
 clear hA hr h
 go_enter Tryz.func126,Tryz.ntmps126
 go_wp2_with fail
 refine (anT key g n bA w HC hn HI.o).mono ?_
 rintro e w2 ⟨rfl,f',q1,q2,q3⟩
 go_wp2_with fail
 go_end0
 exact ⟨rfl,f',q1,q2,a00 q3,λk hk=>by have:=q3.2 k (zAK _) hk;omega⟩
end Go.Proofs.YtoomffajodheaaaGreatDoor
