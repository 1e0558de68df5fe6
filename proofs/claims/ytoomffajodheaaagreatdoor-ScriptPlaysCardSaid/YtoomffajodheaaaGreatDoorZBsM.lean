/- The proof of ScriptPlays, part BsM. Conditions: in each statement. -/
import Derived.Test.YtoomffajodheaaaGreatDoorZMiscM
import Derived.StillTailTactics
import Derived.Lib.MinMax
set_option linter.all false
namespace Go.Proofs.YtoomffajodheaaaGreatDoor
open Go.RowKit
set_option maxRecDepth 100000
def akA (acc:List Ln) (x:Sn):List Ln:=match acc.getLast? with
 |some y=>if x.f<=y.r then acc.dropLast++[⟨y.b,max y.r x.t⟩] else acc++[⟨x.f,x.t⟩]
 |none=>[⟨x.f,x.t⟩]
def aaK (l:List Sn):List Ln:=l.foldl akA []
theorem ax2 (a:List Ln) (y:Ln) (x:Sn) (h:x.f<=y.r):akA (a++[y]) x=a++[⟨y.b,max y.r x.t⟩]:=by
 unfold akA
 simp [h]
theorem auU (a:List Ln) (y:Ln) (x:Sn) (h:y.r<x.f):akA (a++[y]) x=a++[y]++[⟨x.f,x.t⟩]:=by
 unfold akA
 have:¬x.f<=y.r:=zO
 simp [this]
def ajR (per:Int) (acc:List Ln) (x:Pk):List Ln:=match acc.getLast? with
 |some y=>if x.a<=y.r then acc.dropLast++[⟨y.b,y.r+per*x.s⟩] else acc++[⟨x.a,x.a+per*x.s⟩]
 |none=>[⟨x.a,x.a+per*x.s⟩]
def kL (per:Int) (p:List Pk):List Ln:=p.foldl (ajR per) []
theorem awL {per:Int} (C:List Ln) (b e:Int) (x:Pk) (h:x.a<=e):ajR per (C++[⟨b,e⟩]) x=C++[⟨b,e+per*x.s⟩]:=by
 unfold ajR
 simp [h]
theorem atI {per:Int} (K:List Ln) (x:Pk) (h:K=[]\/∃C y,K=C++[y]/\y.r<x.a):ajR per K x=K++[⟨x.a,x.a+per*x.s⟩]:=by
 rcases h with rfl|⟨C,y,rfl,h⟩
 ·rfl
 ·unfold ajR
  have:¬x.a<=y.r:=zO
  simp [this]
theorem aqV {per:Int} {p:List Pk} {k:Nat} (h:k<p.length):kL per (p.take (k+1))=ajR per (kL per (p.take k)) p[k]:=by
 unfold kL
 rw [zAN h,List.foldl_append]
 rfl
def aaN (per:Int) (p:List Pk):List Nat->Int
 |[]=>0
 |k::r=>per*sOf p k+aaN per p r
theorem aeT {per:Int} {p:List Pk} {l l':List Nat} (h:l.Perm l'):aaN per p l=aaN per p l':=by
 induction h with
 |nil=>rfl
 |cons x _ ih=>unfold aaN;rw [ih]
 |swap x y l=>unfold aaN;unfold aaN;omega
 |trans _ _ i1 i2=>exact i1.trans i2
theorem aqB {per:Int} {p:List Pk} (h0:1<=per) (hp:∀x∈p,zg x):∀l:List Nat,0<=aaN per p l
 |[]=>zAV _
 |k::r=>by
  have ih:=aqB h0 hp r
  have hs:0<=sOf p k:=by
   by_cases hk:k<p.length
   ·rw [yA hk];have:=(hp _ (zd hk)).2.2.1;omega
   ·unfold sOf;simp [List.getD,List.getElem?_eq_none (show p.length<=k by omega)]
  have:=zAY (show 0<=per by omega) hs
  unfold aaN
  omega
theorem ah8 {σ:Type} {M:Pol σ} {p:List Pk} {per:Int} (hM:wL M p.length) (hp:∀x∈p,zg x) (h0:1<=per) {out:List Sn} (now b:Int) (C:List Ln) (r:List Pk) (k:Nat) (s:σ) (hr:p.drop k=r) (h:abO M p out k s)
 (hk:kL per (p.take k)=C++[⟨b,now+aaN per p (M.wait s)⟩]):kL per (p.take (comeL M now r k s).1)=C++[⟨b,now+aaN per p (M.wait (comeL M now r k s).2)⟩]:=by
 induction r generalizing k s with
 |nil=>exact hk
 |cons x r ih=>
  have hkl:k<p.length:=zEz
  have hd:=zAE hkl
  rw [hr] at hd
  injection hd with hx hr'
  unfold comeL
  by_cases hc:x.a<=now
  ·rw [zp hc]
   refine ih (k+1) (M.come s k) hr'.symm (h.come hM hkl) ?_
   have hn:=aqB h0 hp (M.wait s)
   rw [aqV hkl,hk,<-hx,awL C b _ x zO,aeT (hM.w_come s k h.ok hkl),show aaN per p (k::M.wait s)=per*sOf p k+aaN per p (M.wait s) from rfl,yA hkl,<-hx]
   congr 3
   omega
  ·rw [z6 hc]
   exact hk
theorem comeL_idle {σ:Type} {M:Pol σ} {p:List Pk} {per:Int} (hM:wL M p.length) (hp:∀x∈p,zg x) (h0:1<=per) {out:List Sn} (now:Int) (k:Nat) (s:σ) (h:abO M p out k s) (hw:M.wait s=[]) (hK:kL per (p.take k)=[]\/∃C y,kL per (p.take k)=C++[y]/\y.r<now) (ha:∀j,k<=j->j<p.length->now<=aOf p j):
 ((comeL M now (p.drop k) k s).1=k/\(comeL M now (p.drop k) k s).2=s)\/k<(comeL M now (p.drop k) k s).1/\kL per (p.take (comeL M now (p.drop k) k s).1)=kL per (p.take k)++[⟨now,now+aaN per p (M.wait (comeL M now (p.drop k) k s).2)⟩]:=by
 by_cases hkl:k<p.length
 ·rw [zAE hkl]
  unfold comeL
  by_cases hc:p[k].a<=now
  ·right
   rw [zp hc]
   have hge:=ha k (zD _) hkl
   rw [zy hkl] at hge
   have he:p[k].a=now:=zO
   refine ⟨ah7 M now _ (k+1) _,ah8 hM hp h0 now now (kL per (p.take k)) _ (k+1) (M.come s k) rfl (h.come hM hkl) ?_⟩
   rw [aqV hkl,atI _ _ (by rw [he];exact hK),aeT (hM.w_come s k h.ok hkl),hw,he,show aaN per p [k]=per*sOf p k+0 from rfl,yA hkl]
   congr 3
   omega
  ·left
   rw [z6 hc]
   exact ⟨rfl,rfl⟩
 ·left
  rw [zAO zO]
  exact ⟨rfl,rfl⟩
def KJ {σ:Type} (M:Pol σ) (p:List Pk) (per:Int) (t:St σ):Prop:=
 (M.wait t.s=[]/\aaK t.out=kL per (p.take t.next)/\(kL per (p.take t.next)=[]\/∃C y,kL per (p.take t.next)=C++[y]/\y.r<t.now)/\∀j,t.next<=j->j<p.length->t.now<=aOf p j)\/
 ∃C b,aaK t.out=C++[⟨b,t.now⟩]/\kL per (p.take t.next)=C++[⟨b,t.now+aaN per p (M.wait t.s)⟩]
theorem aiA (l:List Sn) (x:Sn):aaK (l++[x])=akA (aaK l) x:=by
 unfold aaK
 rw [List.foldl_append]
 rfl
theorem azS {σ:Type} {M:Pol σ} {p:List Pk} {per:Int} (hM:wL M p.length) (hp:∀x∈p,zg x) (hs:∀i j,i<=j->j<p.length->aOf p i<=aOf p j) (h0:1<=per) (t:St σ) (h:Inv M p t) (hlt:t.out.length<p.length) (hj:KJ M p per t):KJ M p per (yG M p per t):=by
 obtain ⟨hc,hlt2⟩:=yF hM t.now (p.drop t.next) t.next t.s rfl h.toC
 have hcome:((comeL M t.now (p.drop t.next) t.next t.s).1=t.next/\(comeL M t.now (p.drop t.next) t.next t.s).2=t.s/\M.wait t.s=[]/\aaK t.out=kL per (p.take t.next)/\(kL per (p.take t.next)=[]\/∃C y,kL per (p.take t.next)=C++[y]/\y.r<t.now))\/
  (∃K,aaK t.out=K/\(K=[]\/∃C y,K=C++[y]/\y.r<t.now)/\M.wait t.s=[]/\t.next<(comeL M t.now (p.drop t.next) t.next t.s).1/\kL per (p.take (comeL M t.now (p.drop t.next) t.next t.s).1)=K++[⟨t.now,t.now+aaN per p (M.wait (comeL M t.now (p.drop t.next) t.next t.s).2)⟩])\/
  ∃C b,aaK t.out=C++[⟨b,t.now⟩]/\kL per (p.take (comeL M t.now (p.drop t.next) t.next t.s).1)=C++[⟨b,t.now+aaN per p (M.wait (comeL M t.now (p.drop t.next) t.next t.s).2)⟩]:=by
  rcases hj with ⟨j1,j2,j3,j4⟩|⟨C,b,j1,j2⟩
  ·rcases comeL_idle hM hp h0 t.now t.next t.s h.toC j1 j3 j4 with ⟨e1,e2⟩|⟨e0,e⟩
   ·exact .inl ⟨e1,e2,j1,j2,j3⟩
   ·exact .inr (.inl ⟨_,j2,j3,j1,e0,e⟩)
  ·exact .inr (.inr ⟨C,b,j1,ah8 hM hp h0 t.now b C _ t.next t.s rfl h.toC j2⟩)
 have hcn:=h.toC.cnt
 unfold yG
 generalize comeL M t.now (p.drop t.next) t.next t.s=q at hc hlt2 hcome
 cases hpk:M.pick q.2 with
 |none=>
  have hid:=hc.idle hM hpk
  have hq:q.1<p.length:=zO
  have hw:=hM.w_none _ _ hc.ok hpk
  have ha:=hlt2 hq
  have hwr:=hM.w_rest _ _ hc.ok hw
  refine .inl ⟨hwr,?_,?_,λj h1 h2=>hs _ _ h1 h2⟩
  ·rcases hcome with ⟨e1,e2,e3,e4,e5⟩|⟨K,e1,e2,e3,e4,e5⟩|⟨C,b,e1,e2⟩
   ·show aaK t.out=kL per (p.take q.1)
    rw [e1];exact e4
   ·rw [e3] at hcn
    simp at hcn
    omega
   ·show aaK t.out=kL per (p.take q.1)
    rw [e1,e2,hw]
    show _=C++[⟨b,t.now+0⟩]
    rw [Int.add_zero]
  ·show kL per (p.take q.1)=[]\/∃C y,kL per (p.take q.1)=C++[y]/\y.r<aOf p q.1
   rcases hcome with ⟨e1,e2,e3,e4,e5⟩|⟨K,e1,e2,e3,e4,e5⟩|⟨C,b,e1,e2⟩
   ·rw [e1] at ha ⊢
    rcases e5 with e5|⟨C,y,e5,e6⟩
    ·exact .inl e5
    ·exact .inr ⟨C,y,e5,by omega⟩
   ·rw [e3] at hcn
    simp at hcn
    omega
   ·rw [hw] at e2
    exact .inr ⟨C,_,e2,by show t.now+0<_;omega⟩
 |some ks=>
  obtain ⟨k,s'⟩:=ks
  have hk:k<q.1:=hc.aa6 hM hpk
  have hkl:k<p.length:=zAG hk hc.k_le
  have hok:=hp _ (zd hkl)
  have hsz:0<=per*sOf p k:=zAY zO (by rw [yA hkl];have:=hok.2.2.1;omega)
  have hw:=aeT (per:=per) (p:=p) (hM.w_some _ _ _ _ hc.ok hpk)
  rw [show aaN per p (k::M.wait s')=per*sOf p k+aaN per p (M.wait s') from rfl] at hw
  have fin:∀C b,kL per (p.take q.1)=C++[⟨b,t.now+aaN per p (M.wait q.2)⟩]->kL per (p.take q.1)=C++[⟨b,t.now+per*sOf p k+aaN per p (M.wait s')⟩]:=λC b e=>by
   rw [e,hw]
   congr 3
   omega
  right
  rcases hcome with ⟨e1,e2,e3,e4,e5⟩|⟨K,e1,e2,e3,e4,e5⟩|⟨C,b,e1,e2⟩
  ·exfalso
   have h9:=hM.w_some _ _ _ _ hc.ok hpk
   rw [e2,e3] at h9
   simpa using h9.length_eq
  ·refine ⟨K,t.now,?_,fin K t.now e5⟩
   show aaK (t.out++[_])=_
   rw [aiA,e1]
   rcases e2 with rfl|⟨C,y,rfl,e6⟩
   ·rfl
   ·rw [auU C y _ e6]
  ·refine ⟨C,b,?_,fin C b e2⟩
   show aaK (t.out++[_])=_
   rw [aiA,e1,ax2 C ⟨b,t.now⟩ _ (zAV _)]
   congr 3
   show max t.now (t.now+per*sOf p k)=t.now+per*sOf p k
   omega
theorem atE {σ:Type} {M:Pol σ} {p:List Pk} {per:Int} {s0:σ} (hM:wL M p.length) (hp:∀x∈p,zg x) (hs:∀i j,i<=j->j<p.length->aOf p i<=aOf p j) (h0:1<=per) (h1:per<=1000) (hw0:M.wait s0=[]) (ho:M.ok 0 s0):aaK (serveS M p per s0).out=kL per p:=by
 have hJ:=acA hM hp h0 h1 (KJ M p per) (λt hi hl hj=>azS hM hp hs h0 t hi hl hj) (2*p.length+1) _ (wh p hw0 ho) (.inl ⟨hw0,rfl,.inl rfl,λj _ h2=>by
  show 0<=_
  rw [zy h2]
  exact (hp _ (zd h2)).2.2.2.2.1⟩)
 obtain ⟨hi,hl⟩:=adI hM hp h0 h1 (2*p.length+1) _ (wh p hw0 ho) (uI p s0) zA1
 have hcn:=hi.toC.cnt
 have hle:=hi.next_le
 unfold serveS
 generalize runS M p per (2*p.length+1) ⟨[],0,0,s0⟩=t at hJ hi hl hcn hle
 have hw:M.wait t.s=[]:=List.length_eq_zero_iff.1 zO
 have hn:t.next=p.length:=by rw [hw] at hcn;simp at hcn;omega
 rcases hJ with ⟨j1,j2,-,-⟩|⟨C,b,j1,j2⟩
 ·rw [j2,hn,List.take_length]
 ·rw [hw,hn,List.take_length] at j2
  rw [j1,j2]
  show _=C++[⟨b,t.now+0⟩]
  rw [Int.add_zero]
end Go.Proofs.YtoomffajodheaaaGreatDoor
