/- The proof of ScriptPlays, part PlnM. Conditions: in each statement. -/
import Derived.Test.YtoomffajodheaaaGreatDoorZFifoM2
set_option linter.all false
namespace Go.Proofs.YtoomffajodheaaaGreatDoor
theorem zCt{p:Prop}(h:p:=by have:=h.le;omega):p:=h
theorem zEr{p:Prop}(h:p:=by
 rcases (hm j).2 h2 with h3|h3
 ·obtain ⟨y,hy,e⟩:=zAT.1 h3
  have:=h.pos y hy
  exact zAv (show y.p=(j:Int) by omega) (h1 y hy)
 ·exact h3):p:=h
theorem zEu{p:Prop}(h:p:=by
 rcases Nat.lt_trichotomy f q.1 with h9|h9|h9
 ·rw [hdl f h9] at h1;cases h1
 ·omega
 ·have:=h2 q.1 h9
  rw [hdq] at this;cases this):p:=h
theorem zFN{p:Prop}(h:p:=by
 obtain ⟨y,hy,e⟩:=zAT.1 ((hm j).2 hjq)
 have:=h.pos y hy
 exact acH.2 ⟨y,hy,by omega⟩):p:=h
theorem zFX{p:Prop}(h:p:=by
 by_cases hx:x=g
 ·subst hx;rw [upd_same];omega
 ·rw [qx _ _ hx];exact h.pos x):p:=h
theorem zFe{p:Prop}(h:p:=by
 rcases hb with ⟨e,hb⟩|⟨b,hb,e,_⟩
 ·have:=hb j hjl h1;omega
 ·omega):p:=h
theorem zFq{p:Prop}(h:p:=by
 rcases h with ⟨e,_⟩|⟨b,hb,e,_⟩
 ·exact .inl e
 ·exact .inr zO):p:=h
def aqN (d P:Nat->Bool):Nat->Nat->Bool
 |0,_=>false
 |m+1,k=>(!d k&&P k)||aqN d P m (k+1)
def oth (n:Nat) (d P:Nat->Bool):Bool:=aqN d P n 0
def avM (p:List Pk) (k j:Nat):Bool:=decide (fOf p j=fOf p k)
def aiC (p:List Pk) (per:Int) (d:Nat->Bool) (to:Int) (x:Sn):Nat:=
 if x.p<0\/(p.length:Int)<=x.p\/d x.p.toNat=true then 4
 else if x.f<aOf p x.p.toNat\/x.f<to then 5
 else if x.t≠x.f+per*sOf p x.p.toNat then 3
 else if to<x.f/\oth p.length d (λj=>decide (aOf p j<x.f))=true then 7
 else if oth p.length d (λj=>decide (j<x.p.toNat)&&avM p x.p.toNat j)=true then 8
 else 0
def a1O (d:Nat->Bool) (k:Nat):Nat->Bool:=λj=>d j||k==j
def aeG (p:List Pk) (per:Int):(Nat->Bool)->Int->List Sn->Nat->Nat × Int
 |d,_,[],_=>if oth p.length d (λ_=>true)=true then (4,-1) else (0,-1)
 |d,to,x::r,i=>if aiC p per d to x≠0 then (aiC p per d to x,(i:Int)) else aeG p per (a1O d x.p.toNat) x.t r (i+1)
def afI (p:List Pk) (per:Int) (l:List Sn):Nat × Int:=if (qm p per).1≠0 then qm p per else aeG p per (λ_=>false) 0 l 0
def xy (key:Nat->Int):Nat->Int->Nat->List Nat->Nat
 |b,_,_,[]=>b
 |b,kb,i,k::r=>if key k<kb then xy key i (key k) (i+1) r else xy key b kb (i+1) r
def bestI (key:Nat->Int) (s:List Nat):Nat:=xy key 0 (key (s.getD 0 0)) 0 s
structure ak7 (key:Nat->Int) (s:List Nat) (i b:Nat) (kb:Int):Prop where
 lt:b<s.length
 key_:kb=key (s.getD b 0)
 le:∀j,j<i->kb<=key (s.getD j 0)
 first:∀j,j<b->kb<key (s.getD j 0)
theorem auQ (key:Nat->Int) (s r:List Nat) (i b:Nat) (kb:Int) (hr:s.drop i=r) (h:ak7 key s i b kb) (hbi:b<i\/(i=0/\b=0)):ak7 key s s.length (xy key b kb i r) (key (s.getD (xy key b kb i r) 0)):=by
 induction r generalizing i b kb with
 |nil=>
  have hl:s.length<=i:=by have:=zAu List.length hr;simp at this;omega
  show ak7 key s s.length b (key (s.getD b 0))
  rw [<-h.key_]
  exact ⟨h.lt,h.key_,λj hj=>h.le j zO,h.first⟩
 |cons k r ih=>
  have hk:i<s.length:=zEz
  have hd:=zAE hk
  rw [hr] at hd
  injection hd with hx hr'
  have hg:s.getD i 0=k:=by simp [List.getD,hk,hx]
  unfold xy
  by_cases hc:key k<kb
  ·rw [zp hc]
   refine ih (i+1) i (key k) hr'.symm ⟨hk,by rw [hg],λj hj=>?_,λj hj=>?_⟩ (.inl (Nat.lt_succ_self i))
   ·rcases zAn.1 hj with h1|h1
    ·have:=h.le j h1;omega
    ·subst h1;rw [hg];exact zAV _
   ·have:=h.le j hj;omega
  ·rw [z6 hc]
   refine ih (i+1) b kb hr'.symm ⟨h.lt,h.key_,λj hj=>?_,h.first⟩ (.inl zO)
   rcases zAn.1 hj with h1|h1
   ·exact h.le j h1
   ·subst h1;rw [hg];omega
theorem aa1 (key:Nat->Int) (s:List Nat) (h:0<s.length):ak7 key s s.length (bestI key s) (key (s.getD (bestI key s) 0)):=
 auQ key s s 0 0 _ rfl ⟨h,rfl,λj hj=>zAv hj (Nat.not_lt_zero j),λj hj=>zAv hj (Nat.not_lt_zero j)⟩ (.inr ⟨rfl,rfl⟩)
theorem apO {α:Type} (l:List α) (i:Nat) (h:i<l.length):l.Perm (l[i]::l.eraseIdx i):=by
 induction l generalizing i with
 |nil=>simp at h
 |cons x r ih=>
  cases i with
  |zero=>exact List.Perm.refl _
  |succ i=>
   have:=ih i (by simpa using h)
   simp only [List.getElem_cons_succ,List.eraseIdx_cons_succ]
   exact (List.Perm.cons x this).trans (List.Perm.swap _ _ _)
def leastM (key:Nat->Int):Pol (List Nat) where
 come s k:=s++[k]
 pick s:=if s.length=0 then none else some (s.getD (bestI key s) 0,s.eraseIdx (bestI key s))
 rest s:=s
 wait s:=s
 ok m s:=(∀j∈s,j<m)/\s.Pairwise (·< ·)
theorem xu (key:Nat->Int) (n:Nat):wL (leastM key) n where
 ok_come:=λs k ⟨h1,h2⟩ _=>⟨λj hj=>by
  rcases zAQ.1 hj with h|h
  ·have:=h1 j h;omega
  ·rw [zAW.1 h];omega,List.pairwise_append.2 ⟨h2,List.pairwise_singleton _ _,λa ha b hb=>by rw [zAW.1 hb];exact h1 a ha⟩⟩
 ok_pick:=λs m k s' ⟨h1,h2⟩ hp=>by
  simp only [leastM] at hp
  split at hp
  ·cases hp
  ·simp only [zAC,Prod.mk.injEq] at hp
   obtain ⟨_,rfl⟩:=hp
   exact ⟨λj hj=>h1 j (List.mem_of_mem_eraseIdx hj),h2.sublist (List.eraseIdx_sublist _ _)⟩
 ok_rest:=λs m h _=>h
 w_come:=λs k _ _=>List.perm_append_comm (l₂:=[k])
 w_none:=λs m _ hp=>by
  simp only [leastM] at hp ⊢
  split at hp
  ·rename_i h;exact zAm h
  ·cases hp
 w_some:=λs m k s' _ hp=>by
  simp only [leastM] at hp ⊢
  split at hp
  ·cases hp
  ·rename_i h
   simp only [zAC,Prod.mk.injEq] at hp
   obtain ⟨rfl,rfl⟩:=hp
   have hb:=(aa1 key s zO).lt
   have e:s.getD (bestI key s) 0=s[bestI key s]:=by simp [List.getD,hb]
   rw [e]
   exact apO s _ hb
 w_rest:=λs m _ h=>h
theorem aiO {l:List Pk} {m:Int} {k:Nat} (h:(yO l m k).1=0):(∀x∈l,m<=x.a)/\l.Pairwise (λx y=>x.a<=y.a):=by
 induction l generalizing m k with
 |nil=>exact ⟨by simp,List.Pairwise.nil⟩
 |cons x r ih=>
  unfold yO at h
  split at h
  ·split at h
   ·simp at h
   ·rename_i h2
    obtain ⟨i1,i2⟩:=ih h
    refine ⟨λy hy=>?_,zAd.2 ⟨i1,i2⟩⟩
    rcases zAM.1 hy with rfl|hy
    ·omega
    ·have:=i1 y hy;omega
  ·simp at h
theorem aiN {l:List Pk} (h:(qj l).1=0):l.Pairwise (λx y=>x.a<=y.a):=by
 unfold qj at h
 by_cases h1:300<l.length
 ·rw [zp h1] at h;simp at h
 ·rw [z6 h1] at h;exact (aiO h).2
theorem xe {p:List Pk} {per:Int} (h:(qm p per).1=0):p.Pairwise (λx y=>x.a<=y.a):=by
 unfold qm at h
 by_cases h1:(qj p).1≠0
 ·rw [zp h1] at h;exact zAv h h1
 ·exact aiN zO
theorem uL {p:List Pk} (h:p.Pairwise (λx y=>x.a<=y.a)) {i j:Nat} (hij:i<=j) (hj:j<p.length):aOf p i<=aOf p j:=by
 rcases Nat.eq_or_lt_of_le hij with rfl|hlt
 ·exact zAV _
 ·rw [zy hj,zy (Nat.lt_trans hlt hj)]
  exact List.pairwise_iff_getElem.1 h i j (Nat.lt_trans hlt hj) hj hlt
theorem jZ {σ:Type} {M:Pol σ} {p:List Pk} (hM:wL M p.length) (hs:p.Pairwise (λx y=>x.a<=y.a)) {t:St σ} (h:Inv M p t) (hc:∀j,j<t.next->aOf p j<=t.now) (j:Nat) (hj:j<p.length):
 j<(comeL M t.now (p.drop t.next) t.next t.s).1 ↔ aOf p j<=t.now:=by
 obtain ⟨_,hlt2⟩:=yF hM t.now (p.drop t.next) t.next t.s rfl h.toC
 have hge:=ah7 M t.now (p.drop t.next) t.next t.s
 have hle:=amX M p t.now (p.drop t.next) t.next t.s rfl
 generalize comeL M t.now (p.drop t.next) t.next t.s=q at hlt2 hge hle
 refine ⟨λh1=>?_,λh1=>?_⟩
 ·by_cases h9:j<t.next
  ·exact hc j h9
  ·exact hle j zO h1
 ·refine Nat.lt_of_not_le λh2=>?_
  have h3:=hlt2 zO
  have:=uL hs h2 hj
  omega
structure a15 (p:List Pk) (key:Nat->Int) (prev:List Sn) (x:Sn):Prop where
 pos:0<=x.p
 lt:x.p.toNat<p.length
 fresh:∀y∈prev,y.p≠x.p
 came:aOf p x.p.toNat<=x.f
 least:∀j,j<p.length->(∀y∈prev,y.p≠j)->aOf p j<=x.f->key x.p.toNat<=key j/\(key j=key x.p.toNat->x.p.toNat<=j)
structure aiE (p:List Pk) (key:Nat->Int) (t:St (List Nat)):Prop where
 came:∀j,j<t.next->aOf p j<=t.now
 all:∀i (h:i<t.out.length),a15 p key (t.out.take i) t.out[i]
theorem ajA {p:List Pk} {per:Int} {key:Nat->Int} (hp:∀x∈p,zg x) (hs:p.Pairwise (λx y=>x.a<=y.a)) (h0:1<=per) (t:St (List Nat)) (h:Inv (leastM key) p t) (hlt:t.out.length<p.length) (hj:aiE p key t):aiE p key (yG (leastM key) p per t):=by
 obtain ⟨hc,hlt2⟩:=yF (xu key _) t.now (p.drop t.next) t.next t.s rfl h.toC
 have hall:=jZ (xu key _) hs h hj.came
 unfold yG
 generalize comeL (leastM key) t.now (p.drop t.next) t.next t.s=q at hc hlt2 hall
 cases hpk:(leastM key).pick q.2 with
 |none=>
  have hid:=hc.idle (xu key _) hpk
  refine ⟨λj hjj=>?_,hj.all⟩
  show aOf p j<=aOf p q.1
  exact uL hs (Nat.le_of_lt hjj) zO
 |some ks=>
  obtain ⟨k,s'⟩:=ks
  have hk:k<q.1:=hc.aa6 (xu key _) hpk
  have hkl:k<p.length:=zAG hk hc.k_le
  have hok:=hp _ (zd hkl)
  have m1:0<=per*sOf p k:=zAY zO (by rw [yA hkl];have:=hok.2.2.1;omega)
  have hnd:((t.out.map λx=>x.p.toNat)++q.2).Nodup:=(hc.perm.nodup_iff).2 List.nodup_range
  have hokw:=hc.ok.2
  simp only [leastM] at hpk hokw
  split at hpk
  ·cases hpk
  ·rename_i hne
   simp only [zAC,Prod.mk.injEq] at hpk
   obtain ⟨hk1,hs1⟩:=hpk
   have hb:=aa1 key q.2 zO
   have hbl:=hb.lt
   have hkm:k∈q.2:=by rw [<-hk1];simp [List.getD,hbl]
   refine ⟨λj hjj=>?_,λi hi=>?_⟩
   ·show aOf p j<=t.now+per*sOf p k
    have hjj':j<q.1:=hjj
    have:=(hall j (zAG hjj' hc.k_le)).1 hjj'
    omega
   ·simp only [zAP,zAL,zAg] at hi
    rcases Nat.lt_or_ge i t.out.length with h9|h9
    ·have:=hj.all i h9
     simp only
     rw [List.take_append_of_le_length (Nat.le_of_lt h9),List.getElem_append_left h9]
     exact this
    ·obtain rfl:i=t.out.length:=by omega
     simp only
     rw [List.take_left',List.getElem_concat_length rfl]
     ·refine ⟨zAf _,hkl,λy hy e=>?_,(hall k hkl).1 hk,λj hjl hfr hja=>?_⟩
      ·have h1:y.p.toNat=k:=by simp only at e;omega
       exact (List.nodup_append.1 hnd).2.2 _ (zAT.2 ⟨y,hy,rfl⟩) _ hkm h1
      ·have hjq:=(hall j hjl).2 hja
       have hjm:j∈q.2:=by
        rcases zAQ.1 (hc.perm.mem_iff.2 (List.mem_range.2 hjq)) with h1|h1
        ·obtain ⟨y,hy,e⟩:=zAT.1 h1
         have:=h.pos y hy
         exact zAv (show y.p=(j:Int) by omega) (hfr y hy)
        ·exact h1
       obtain ⟨a,ha,rfl⟩:=List.getElem_of_mem hjm
       have e1:q.2.getD a 0=q.2[a]:=by simp [List.getD,ha]
       have e2:q.2.getD (bestI key q.2) 0=q.2[bestI key q.2]:=by simp [List.getD,hbl]
       have h1:=hb.le a ha
       simp only [zAX]
       rw [hk1,e1] at h1
       refine ⟨h1,λe=>?_⟩
       rcases Nat.lt_or_ge a (bestI key q.2) with h2|h2
       ·have:=hb.first a h2
        rw [hk1,e1] at this
        omega
       ·rw [<-hk1,e2]
        rcases Nat.eq_or_lt_of_le h2 with h3|h3
        ·simp only [h3];exact zD _
        ·exact Nat.le_of_lt (List.pairwise_iff_getElem.1 hokw _ _ hbl ha h3)
     ·rfl
def xR (p:List Pk) (per:Int) (key:Nat->Int):List Sn:=(serveS (leastM key) p per []).out
theorem abW (p:List Pk) (key:Nat->Int):Inv (leastM key) p ⟨[],0,0,[]⟩:=wh p rfl ⟨by simp,List.Pairwise.nil⟩
def dnB (out:List Sn) (j:Nat):Bool:=out.any λy=>y.p==(j:Int)
theorem acH {out:List Sn} {j:Nat}:dnB out j=true ↔ ∃y∈out,y.p=(j:Int):=by
 unfold dnB
 simp [List.any_eq_true]
theorem aaJ {out:List Sn} {j:Nat}:dnB out j=false ↔ ∀y∈out,y.p≠(j:Int):=by
 rw [<-Bool.not_eq_true,acH]
 exact ⟨λh y hy e=>h ⟨y,hy,e⟩,λh ⟨y,hy,e⟩=>h y hy e⟩
theorem aeA (out:List Sn) (x:Sn) (j:Nat):dnB (out++[x]) j=(dnB out j||x.p==(j:Int)):=by simp [dnB]
def xN (p:List Pk) (key:Nat->Int) (now:Int) (out:List Sn) (i:Nat) (best:Int):Prop:=
 (best=-1/\∀j,j<i->dnB out j=false->now<aOf p j)\/
 ∃b:Nat,b<i/\best=b/\dnB out b=false/\aOf p b<=now/\∀j,j<i->dnB out j=false->aOf p j<=now->key b<=key j/\(key j=key b->b<=j)
def vC (out:List Sn) (i:Nat) (first:Int):Prop:=
 (first=-1/\∀j,j<i->dnB out j=true)\/∃f:Nat,f<i/\first=f/\dnB out f=false/\∀j,j<f->dnB out j=true
section
variable {p:List Pk} {key:Nat->Int} {now:Int} {out:List Sn} {i:Nat} {best first:Int}
theorem a0U:xN p key now out 0 (-1):=.inl ⟨rfl,λ_ h=>zAv h (Nat.not_lt_zero _)⟩
theorem aw4:vC out 0 (-1):=.inl ⟨rfl,λ_ h=>zAv h (Nat.not_lt_zero _)⟩
theorem xN.skip (h:xN p key now out i best) (hs:dnB out i=true\/now<aOf p i):xN p key now out (i+1) best:=by
 rcases h with ⟨e,h⟩|⟨b,hb,e,h1,h2,h3⟩
 ·refine .inl ⟨e,λj hj hd=>?_⟩
  rcases zAn.1 hj with h9|rfl
  ·exact h j h9 hd
  ·rcases hs with hs|hs
   ·rw [hs] at hd;cases hd
   ·exact hs
 ·refine .inr ⟨b,by omega,e,h1,h2,λj hj hd ha=>?_⟩
  rcases zAn.1 hj with h9|rfl
  ·exact h3 j h9 hd ha
  ·rcases hs with hs|hs
   ·rw [hs] at hd;cases hd
   ·omega
theorem xN.keep (h:xN p key now out i best) (hb:0<=best) (hk:key best.toNat<=key i):xN p key now out (i+1) best:=by
 rcases h with ⟨e,h⟩|⟨b,hb,e,h1,h2,h3⟩
 ·omega
 ·have e2:best.toNat=b:=by omega
  rw [e2] at hk
  refine .inr ⟨b,by omega,e,h1,h2,λj hj hd ha=>?_⟩
  rcases zAn.1 hj with h9|rfl
  ·exact h3 j h9 hd ha
  ·exact ⟨hk,λ_=>by omega⟩
theorem xN.zU (h:xN p key now out i best) (hd:dnB out i=false) (ha:aOf p i<=now) (hk:best<0\/(0<=best/\key i<key best.toNat)):xN p key now out (i+1) i:=by
 refine .inr ⟨i,by omega,rfl,hd,ha,λj hj hdj haj=>?_⟩
 rcases zAn.1 hj with h9|rfl
 ·rcases h with ⟨e,h⟩|⟨b,hb,e,h1,h2,h3⟩
  ·have:=h j h9 hdj;omega
  ·have e2:best.toNat=b:=by omega
   rw [e2] at hk
   have:=h3 j h9 hdj haj
   omega
 ·exact ⟨zAV _,λ_=>zD _⟩
theorem vC.skip (h:vC out i first) (hs:dnB out i=true\/0<=first):vC out (i+1) first:=by
 rcases h with ⟨e,h⟩|⟨f,hf,e,h1,h2⟩
 ·refine .inl ⟨e,λj hj=>?_⟩
  rcases zAn.1 hj with h9|rfl
  ·exact h j h9
  ·rcases hs with hs|hs
   ·exact hs
   ·omega
 ·exact .inr ⟨f,by omega,e,h1,h2⟩
theorem vC.zU (h:vC out i first) (hd:dnB out i=false) (hf:first<0):vC out (i+1) i:=by
 rcases h with ⟨e,h⟩|⟨f,hf,e,h1,h2⟩
 ·exact .inr ⟨i,by omega,rfl,hd,h⟩
 ·omega
theorem xN.lt (h:xN p key now out i best):best=-1\/(0<=best/\best<i):=zFq
theorem vC.lt (h:vC out i first):first=-1\/(0<=first/\first<i):=zFq
end
theorem alC {p:List Pk} {key:Nat->Int} (hs:p.Pairwise (λx y=>x.a<=y.a)) {t:St (List Nat)} (h:Inv (leastM key) p t) (hj:aiE p key t) (j:Nat) (hl:j<p.length):
 j∈(comeL (leastM key) t.now (p.drop t.next) t.next t.s).2 ↔ (dnB t.out j=false/\aOf p j<=t.now):=by
 obtain ⟨hc,_⟩:=yF (xu key _) t.now (p.drop t.next) t.next t.s rfl h.toC
 have hall:=jZ (xu key _) hs h hj.came j hl
 generalize comeL (leastM key) t.now (p.drop t.next) t.next t.s=q at hc hall
 have hnd:((t.out.map λx=>x.p.toNat)++q.2).Nodup:=(hc.perm.nodup_iff).2 List.nodup_range
 have hm:∀j,(j∈(t.out.map λx=>x.p.toNat)\/j∈q.2) ↔ j<q.1:=λj=>(List.mem_append.symm).trans ((hc.perm.mem_iff).trans List.mem_range)
 rw [<-hall,aaJ]
 refine ⟨λh1=>⟨λy hy e=>?_,(hm j).1 (.inr h1)⟩,λ⟨h1,h2⟩=>?_⟩
 ·exact (List.nodup_append.1 hnd).2.2 _ (zAT.2 ⟨y,hy,by omega⟩) _ h1 rfl
 ·exact zEr
theorem alN {p:List Pk} {per:Int} {key:Nat->Int} (hs:p.Pairwise (λx y=>x.a<=y.a)) {t:St (List Nat)} (h:Inv (leastM key) p t) (hj:aiE p key t) (hlt:t.out.length<p.length) {best first:Int}
 (hb:xN p key t.now t.out p.length best) (hf:vC t.out p.length first) (hn:best<0):
 ∃(f:Nat) (n:Nat) (s:List Nat),first=f/\f<p.length/\yG (leastM key) p per t=⟨t.out,aOf p f,n,s⟩:=by
 have hw:=alC hs h hj
 obtain ⟨hc,hlt2⟩:=yF (xu key _) t.now (p.drop t.next) t.next t.s rfl h.toC
 have hst:∀{k s},comeL (leastM key) t.now (p.drop t.next) t.next t.s=(k,s)->(leastM key).pick s=none->yG (leastM key) p per t=⟨t.out,aOf p k,k,(leastM key).rest s⟩:=λh1 h2=>uQ h1 h2
 generalize comeL (leastM key) t.now (p.drop t.next) t.next t.s=q at hc hlt2 hw hst
 have hq2:q.2=[]:=by
  refine List.eq_nil_iff_forall_not_mem.2 λj hjm=>?_
  have hjl:j<p.length:=zAG (hc.ab8 hjm) hc.k_le
  obtain ⟨h1,h2⟩:=(hw j hjl).1 hjm
  exact zFe
 have hpk:(leastM key).pick q.2=none:=by rw [hq2];rfl
 have hid:=hc.idle (xu key _) hpk
 have hm:∀j,j∈(t.out.map λx=>x.p.toNat) ↔ j<q.1:=λj=>by
  have:=(hc.perm.mem_iff (a:=j)).trans List.mem_range
  rw [show (leastM key).wait q.2=[] from hq2,zAo] at this
  exact this
 have hfq:first=(q.1:Int):=by
  have hdq:dnB t.out q.1=false:=aaJ.2 λy hy e=>by
   have:=(hm q.1).1 (zAT.2 ⟨y,hy,by omega⟩)
   omega
  have hdl:∀j,j<q.1->dnB t.out j=true:=λj hjq=>by
   exact zFN
  rcases hf with ⟨e,hf⟩|⟨f,hfl,e,h1,h2⟩
  ·have:=hf q.1 zO
   rw [hdq] at this;cases this
  ·exact zEu
 exact ⟨q.1,q.1,_,hfq,by omega,hst rfl hpk⟩
theorem alM {p:List Pk} {per:Int} {key:Nat->Int} (hs:p.Pairwise (λx y=>x.a<=y.a)) {t:St (List Nat)} (h:Inv (leastM key) p t) (hj:aiE p key t) {best:Int}
 (hb:xN p key t.now t.out p.length best) (hn:0<=best):
 ∃(k n:Nat) (s:List Nat),best=k/\k<p.length/\dnB t.out k=false/\yG (leastM key) p per t=⟨t.out++[⟨k,t.now,t.now+per*sOf p k⟩],t.now+per*sOf p k,n,s⟩:=by
 have hw:=alC hs h hj
 obtain ⟨hc,hlt2⟩:=yF (xu key _) t.now (p.drop t.next) t.next t.s rfl h.toC
 have hst:∀{k j:Nat} {s s'},comeL (leastM key) t.now (p.drop t.next) t.next t.s=(k,s)->(leastM key).pick s=some (j,s')->yG (leastM key) p per t=⟨t.out++[⟨j,t.now,t.now+per*sOf p j⟩],t.now+per*sOf p j,k,s'⟩:=λh1 h2=>vS h1 h2
 generalize comeL (leastM key) t.now (p.drop t.next) t.next t.s=q at hc hlt2 hw hst
 rcases hb with ⟨e,hb⟩|⟨b,hbl,e,h1,h2,h3⟩
 ·omega
 ·have hbm:=(hw b hbl).2 ⟨h1,h2⟩
  have hne:q.2.length≠0:=λh9=>by rw [zAm h9] at hbm;cases hbm
  have hB:=aa1 key q.2 zO
  have hBl:=hB.lt
  have eg:q.2.getD (bestI key q.2) 0=q.2[bestI key q.2]:=by simp [List.getD,hBl]
  have hk2:q.2[bestI key q.2]∈q.2:=zd _
  have hkl:q.2[bestI key q.2]<p.length:=zAG (hc.ab8 hk2) hc.k_le
  obtain ⟨g1,g2⟩:=(hw _ hkl).1 hk2
  have h4:=h3 _ hkl g1 g2
  obtain ⟨a,ha,ea⟩:=List.getElem_of_mem hbm
  have e1:q.2.getD a 0=b:=by simp [List.getD,ha,ea]
  have h5:=hB.le a ha
  rw [e1,eg] at h5
  have heq:key b=key q.2[bestI key q.2]:=zO
  have hbk:b=q.2[bestI key q.2]:=by
   refine Nat.le_antisymm (h4.2 heq.symm) ?_
   rcases Nat.lt_or_ge a (bestI key q.2) with h6|h6
   ·have:=hB.first a h6
    rw [e1,eg] at this
    omega
   ·rcases Nat.eq_or_lt_of_le h6 with h7|h7
    ·subst ea
     simp only [h7];exact zD _
    ·have:=List.pairwise_iff_getElem.1 hc.ok.2 _ _ hBl ha h7
     omega
  have hpk:(leastM key).pick q.2=some (b,q.2.eraseIdx (bestI key q.2)):=by
   show (if q.2.length=0 then none else _)=_
   rw [z6 hne,eg,<-hbk]
  exact ⟨b,q.1,_,e,hbl,h1,hst rfl hpk⟩
def flS (p:List Pk) (x:Sn):Nat:=(fOf p x.p.toNat).toNat
def wtB (p:List Pk) (f:Nat) (s:Sn) (r:List Sn):Bool:=r.any λy=>decide (flS p y=f/\aOf p y.p.toNat<=s.f)
def cnt (p:List Pk) (qa qb:Int) (a b:Nat) (s:Sn):Int:=(if flS p s=a then sOf p s.p.toNat*qb else 0) - (if flS p s=b then sOf p s.p.toNat*qa else 0)
structure Tr (p:List Pk) (qa qb:Int) (a b:Nat) (lo hi:Int) (l:List Sn) (P Q:Nat->Int):Prop where
 all:∀i (h:i<l.length),wtB p a l[i] (l.drop (i+1))=true->wtB p b l[i] (l.drop (i+1))=true→
  lo<=P i/\P i<=hi/\lo<=Q i/\Q i<=hi/\Q i=P i - cnt p qa qb a b l[i]/\(i+1<l.length->P (i+1)=Q i)
def WtP (p:List Pk) (f:Nat) (prev:List Sn) (x:Sn):Prop:=∃j,j<p.length/\(fOf p j).toNat=f/\aOf p j<=x.f/\(∀y∈prev,y.p≠j)/\x.p≠j
structure RS where
 q:Nat->List Nat
 c:Nat->Int
 row:List Nat
 sv:Option Nat
def upd {α:Type} (f:Nat->α) (g:Nat) (x:α):Nat->α:=λh=>if h=g then x else f h
theorem upd_same {α:Type} (f:Nat->α) (g:Nat) (x:α):upd f g x g=x:=zp rfl
theorem qx {α:Type} (f:Nat->α) {g h:Nat} (x:α) (hne:h≠g):upd f g x h=f h:=z6 hne
def flN (p:List Pk) (k:Nat):Nat:=(fOf p k).toNat
def qu (l:List Int) (g:Nat):Int:=l.getD g 0
def lst (s:RS):List Nat:=match s.sv with
 |some g=>g::s.row
 |none=>s.row
def uf (p:List Pk) (s:RS) (k:Nat):RS:=
 {s with row:=if flN p k∈lst s then s.row else s.row++[flN p k],q:=upd s.q (flN p k) (s.q (flN p k)++[k])}
def vM (qs:List Int) (s:RS):Option (Nat × RS):=match s.sv with
 |some g=>some (g,s)
 |none=>match s.row with
  |[]=>none
  |g::r=>some (g,{s with row:=r,sv:=some g,c:=upd s.c g (s.c g+qu qs g)})
def yH (s:RS) (g:Nat):Nat:=(s.q g).headD 0
def wY (p:List Pk) (s:RS) (g:Nat):RS:=
 if (s.q g).tail=[] then {s with q:=upd s.q g [],c:=upd s.c g 0,sv:=none} else {s with q:=upd s.q g (s.q g).tail,c:=upd s.c g (s.c g - sOf p (yH s g))}
def rEnd (s:RS) (g:Nat):RS:={s with row:=s.row++[g],sv:=none}
def wF (p:List Pk) (qs:List Int):Nat->RS->Option (Nat × RS)
 |0,_=>none
 |f+1,s=>match vM qs s with
  |none=>none
  |some (g,s1)=>if sOf p (yH s1 g)<=s1.c g then some (yH s1 g,wY p s1 g) else wF p qs f (rEnd s1 g)
def anR (f:Nat->Nat):Nat:=((List.range 8).map f).sum
theorem avG (f:Nat->Nat) (g x:Nat) (hg:g<8):anR (upd f g x)+f g=anR f+x:=by
 have h:g=0\/g=1\/g=2\/g=3\/g=4\/g=5\/g=6\/g=7:=zO
 have e:∀f:Nat->Nat,anR f=f 0+(f 1+(f 2+(f 3+(f 4+(f 5+(f 6+(f 7+0))))))):=λf=>rfl
 rw [e,e]
 rcases h with rfl|rfl|rfl|rfl|rfl|rfl|rfl|rfl<;>simp [upd]<;>omega
def lack (s:RS) (g:Nat):Nat:=(1500 - s.c g).toNat
def rMu (s:RS):Nat:=2*anR (lack s)+(if s.sv=none then 0 else 1)+1
def wX (s:RS):List Nat:=(List.range 8).flatMap s.q
structure RI (p:List Pk) (qs:List Int) (m:Nat) (s:RS):Prop where
 le:m<=p.length
 fl:∀g,∀j∈s.q g,j<m/\flN p j=g
 nd:(lst s).Nodup
 mem:∀g,g∈lst s ↔ s.q g≠[]
 pos:∀g,0<=s.c g
 out:∀g,s.sv≠some g->s.c g=0\/∃k r,s.q g=k::r/\s.c g<sOf p k
 in_:∀g,s.sv=some g->s.c g<=qu qs g\/∃j,j<p.length/\s.c g<sOf p j+qu qs g
 so:∀g,(s.q g).Pairwise (·< ·)
theorem ahX {p:List Pk} (hp:∀x∈p,zg x) {k:Nat} (hk:k<p.length):flN p k<8:=by
 have:=hp _ (zd hk)
 unfold flN
 rw [vR hk]
 have h1:=this.1
 have h2:=this.2.1
 omega
section
variable {p:List Pk} {qs:List Int} {m:Nat} {s s1:RS} {g:Nat}
theorem RI.g8 (hp:∀x∈p,zg x) (h:RI p qs m s) (hg:s.q g≠[]):g<8:=by
 obtain ⟨j,hj⟩:=List.exists_mem_of_ne_nil _ hg
 obtain ⟨h1,h2⟩:=h.fl g j hj
 rw [<-h2]
 exact ahX hp zCt
theorem jV (h:s.q g≠[]):s.q g=yH s g::(s.q g).tail:=by
 unfold yH
 cases hq:s.q g with
 |nil=>exact zAv hq h
 |cons k r=>rfl
theorem RI.head (h:RI p qs m s) (hg:s.q g≠[]):yH s g<m/\flN p (yH s g)=g:=by
 refine h.fl g _ ?_
 have e:=jV hg
 rw [e]
 exact zAD
theorem rTurn_none (h:vM qs s=none):lst s=[]:=by
 unfold vM at h
 unfold lst
 split at h
 ·cases h
 ·split at h
  ·assumption
  ·cases h
theorem RI.turn (h:RI p qs m s) (hq:∀g,0<=qu qs g) (ht:vM qs s=some (g,s1)):
 RI p qs m s1/\s1.sv=some g/\s1.q=s.q/\lst s1=lst s/\s.q g≠[]/\((s.sv=some g/\s1=s)\/(s.sv=none/\s1.c=upd s.c g (s.c g+qu qs g))):=by
 unfold vM at ht
 split at ht
 ·rename_i g' h1
  simp only [zAC,Prod.mk.injEq] at ht
  obtain ⟨rfl,rfl⟩:=ht
  exact ⟨h,h1,rfl,rfl,(h.mem _).1 (by unfold lst;rw [h1];exact zAD),.inl ⟨h1,rfl⟩⟩
 ·rename_i h1
  split at ht
  ·cases ht
  ·rename_i g' r h2
   simp only [zAC,Prod.mk.injEq] at ht
   obtain ⟨rfl,rfl⟩:=ht
   have hl:lst s=g'::r:=by unfold lst;rw [h1];exact h2
   have hqg:s.q g'≠[]:=(h.mem _).1 (by rw [hl];exact zAD)
   refine ⟨⟨h.le,h.fl,?_,?_,?_,?_,?_,h.so⟩,rfl,rfl,hl.symm,hqg,.inr ⟨h1,rfl⟩⟩
   ·show (g'::r).Nodup
    rw [<-hl];exact h.nd
   ·intro x
    show x∈g'::r ↔ _
    rw [<-hl];exact h.mem x
   ·intro x
    show 0<=upd s.c g' _ x
    by_cases hx:x=g'
    ·rw [hx,upd_same];have:=h.pos g';have:=hq g';omega
    ·rw [qx _ _ hx];exact h.pos x
   ·intro x hx
    have hxg:x≠g':=λe=>hx (by rw [e])
    show upd s.c g' _ x=0\/∃k r,s.q x=k::r/\upd s.c g' _ x<sOf p k
    rw [qx _ _ hxg]
    exact h.out x (by rw [h1];simp)
   ·intro x hx
    have hxg:g'=x:=by injection hx
    subst hxg
    show upd s.c g' _ g'<=_\/_
    rw [upd_same]
    rcases h.out g' (by rw [h1];simp) with h9|⟨k,r',h9,h8⟩
    ·rw [h9];exact .inl zO
    ·refine .inr ⟨k,?_,?_⟩
     ·have:=(h.fl g' k (by rw [h9];exact zAD)).1
      have:=h.le
      omega
     ·show upd s.c g' _ g'<_
      rw [upd_same];omega
theorem RI.agB (h:RI p qs m s) (hs:s.sv=some g) (hc:¬sOf p (yH s g)<=s.c g):RI p qs m (rEnd s g)/\(lst (rEnd s g)).Perm (lst s)/\lst s=g::s.row:=by
 have hl:lst s=g::s.row:=by unfold lst;rw [hs]
 have hl2:lst (rEnd s g)=s.row++[g]:=rfl
 have hpm:(lst (rEnd s g)).Perm (lst s):=by rw [hl,hl2];exact List.perm_append_comm (l₂:=[g])
 have hqg:s.q g≠[]:=(h.mem _).1 (by rw [hl];exact zAD)
 refine ⟨⟨h.le,h.fl,hpm.nodup_iff.2 h.nd,λx=>(hpm.mem_iff).trans (h.mem x),h.pos,λx _=>?_,(λx hx=>by cases hx),h.so⟩,hpm,hl⟩
 by_cases hx:x=g
 ·subst hx
  exact .inr ⟨yH s x,(s.q x).tail,jV hqg,by show s.c x<sOf p (yH s x);omega⟩
 ·exact h.out x (by rw [hs];intro e;injection e with e;exact hx e.symm)
theorem RI.send (hp:∀x∈p,zg x) (h:RI p qs m s) (hs:s.sv=some g) (hc:sOf p (yH s g)<=s.c g):RI p qs m (wY p s g):=by
 have hl:lst s=g::s.row:=by unfold lst;rw [hs]
 have hqg:s.q g≠[]:=(h.mem _).1 (by rw [hl];exact zAD)
 have hh:=jV hqg
 have hnd:=h.nd
 rw [hl] at hnd
 obtain ⟨hn1,hn2⟩:=List.nodup_cons.1 hnd
 have hsz:1<=sOf p (yH s g):=by
  have:=(h.head hqg).1
  have hk:yH s g<p.length:=zCt
  rw [yA hk]
  exact (hp _ (zd hk)).2.2.1
 unfold wY
 by_cases ht:(s.q g).tail=[]
 ·rw [zp ht]
  refine ⟨h.le,?_,hn2,?_,?_,?_,(λx hx=>by cases hx),λx=>?_⟩
  ·intro x j hj
   by_cases hx:x=g
   ·subst hx;simp only [upd_same] at hj;simp at hj
   ·simp only [qx _ _ hx] at hj;exact h.fl x j hj
  ·intro x
   show x∈s.row ↔ upd s.q g [] x≠[]
   by_cases hx:x=g
   ·subst hx;rw [upd_same];simp [hn1]
   ·rw [qx _ _ hx,<-h.mem x,hl];simp [hx]
  ·intro x
   show 0<=upd s.c g 0 x
   exact zFX
  ·intro x _
   show upd s.c g 0 x=0\/∃k r,upd s.q g [] x=k::r/\upd s.c g 0 x<sOf p k
   by_cases hx:x=g
   ·subst hx;exact .inl (upd_same _ _ _)
   ·rw [qx _ _ hx,qx _ _ hx];exact h.out x (by rw [hs];intro e;injection e with e;exact hx e.symm)
  ·show (upd s.q g [] x).Pairwise (·< ·)
   by_cases hx:x=g
   ·subst hx;rw [upd_same];exact List.Pairwise.nil
   ·rw [qx _ _ hx];exact h.so x
 ·rw [z6 ht]
  have hl2:lst {s with q:=upd s.q g (s.q g).tail,c:=upd s.c g (s.c g - sOf p (yH s g))}=lst s:=rfl
  refine ⟨h.le,?_,h.nd,?_,?_,?_,?_,λx=>?_⟩
  ·intro x j hj
   by_cases hx:x=g
   ·subst hx;simp only [upd_same] at hj;exact h.fl x j (List.mem_of_mem_tail hj)
   ·simp only [qx _ _ hx] at hj;exact h.fl x j hj
  ·intro x
   rw [hl2]
   show _ ↔ upd s.q g (s.q g).tail x≠[]
   by_cases hx:x=g
   ·subst hx;rw [upd_same,h.mem x];exact ⟨λ_=>ht,λ_=>hqg⟩
   ·rw [qx _ _ hx];exact h.mem x
  ·intro x
   show 0<=upd s.c g _ x
   exact zFX
  ·intro x hx
   have hxg:x≠g:=λe=>hx (by rw [e];exact hs)
   show upd s.c g _ x=0\/∃k r,upd s.q g _ x=k::r/\upd s.c g _ x<sOf p k
   rw [qx _ _ hxg,qx _ _ hxg]
   exact h.out x hx
  ·intro x hx
   have hx':s.sv=some x:=hx
   have hxg:g=x:=by rw [hs] at hx';injection hx'
   subst hxg
   show upd s.c g _ g<=_\/∃j,j<p.length/\upd s.c g _ g<_
   rw [upd_same]
   rcases h.in_ g hs with h9|⟨j,h9,h8⟩
   ·exact .inl zO
   ·exact .inr ⟨j,h9,by omega⟩
  ·show (upd s.q g (s.q g).tail x).Pairwise (·< ·)
   by_cases hx:x=g
   ·subst hx;rw [upd_same];exact (h.so x).sublist (List.tail_sublist _)
   ·rw [qx _ _ hx];exact h.so x
theorem akN (hq1:1<=qu qs g) (hg:g<8) (ht:vM qs s=some (g,s1)) (h1:s1.sv=some g) (hc:s1.c g<1500) (ho:(s.sv=some g/\s1=s)\/(s.sv=none/\s1.c=upd s.c g (s.c g+qu qs g))):rMu (rEnd s1 g)<rMu s:=by
 have e0:rMu (rEnd s1 g)=2*anR (lack s1)+0+1:=rfl
 rcases ho with ⟨h2,rfl⟩|⟨h2,h3⟩
 ·rw [e0]
  unfold rMu
  rw [h2]
  simp
 ·rw [e0]
  unfold rMu
  rw [h2]
  have e:lack s1=upd (lack s) g (1500 - (s.c g+qu qs g)).toNat:=by
   funext x
   unfold lack
   rw [h3]
   by_cases hx:x=g
   ·subst hx;rw [upd_same,upd_same]
   ·rw [qx _ _ hx,qx _ _ hx]
  have h4:=avG (lack s) g (1500 - (s.c g+qu qs g)).toNat hg
  rw [<-e] at h4
  have h5:s1.c g=s.c g+qu qs g:=by rw [h3,upd_same]
  have h6:lack s g=(1500 - s.c g).toNat:=rfl
  simp only [if_true]
  omega
end
theorem afX (q:Nat->List Nat):(List.range 8).flatMap q=q 0++(q 1++(q 2++(q 3++(q 4++(q 5++(q 6++(q 7++[]))))))):=rfl
theorem abD (q:Nat->List Nat) (n g:Nat) (hg:g<n):((List.range n).flatMap q).Perm (q g++(List.range n).flatMap (upd q g [])):=by
 induction n with
 |zero=>omega
 |succ n ih=>
  rw [List.range_succ,List.flatMap_append,List.flatMap_append]
  by_cases h:g=n
  ·subst h
   have e:(List.range g).flatMap (upd q g [])=(List.range g).flatMap q:=by
    unfold List.flatMap
    rw [List.map_congr_left]
    intro x hx
    exact qx _ _ (by have:=List.mem_range.1 hx;omega)
   rw [e]
   simp only [List.flatMap_cons,List.flatMap_nil,zAo,upd_same]
   exact List.perm_append_comm
  ·have h1:=ih zO
   simp only [List.flatMap_cons,List.flatMap_nil,zAo]
   rw [qx _ _ (show n≠g from λe=>h e.symm),<-zAi]
   exact h1.append_right _
theorem agF {α:Type} (f:Nat->α) (g:Nat) (x y:α):upd (upd f g x) g y=upd f g y:=by
 funext h
 unfold upd
 split<;>rfl
theorem al4 (p:List Pk) (s:RS) (k:Nat):lst (uf p s k)=if flN p k∈lst s then lst s else lst s++[flN p k]:=by
 obtain ⟨q,c,row,sv⟩:=s
 unfold uf
 cases sv with
 |none=>
  show (if flN p k∈row then row else row++[flN p k])=if flN p k∈row then row else row++[flN p k]
  rfl
 |some g=>
  show g::(if flN p k∈g::row then row else row++[flN p k])=if flN p k∈g::row then g::row else g::row++[flN p k]
  split<;>rfl
theorem RI.come {p:List Pk} {qs:List Int} {s:RS} {k:Nat} (h:RI p qs k s) (hk:k<p.length):RI p qs (k+1) (uf p s k):=by
 have hq0:s.q (flN p k)=[]\/s.q (flN p k)≠[]:=by cases s.q (flN p k)<;>simp
 refine ⟨hk,?_,?_,?_,h.pos,?_,?_,λx=>?_⟩
 ·intro x j hj
  show j<k+1/\_
  have hj':j∈upd s.q (flN p k) (s.q (flN p k)++[k]) x:=hj
  by_cases hx:x=flN p k
  ·subst hx
   rw [upd_same] at hj'
   rcases zAQ.1 hj' with h1|h1
   ·have:=h.fl _ j h1;exact ⟨by omega,this.2⟩
   ·rw [zAW.1 h1];exact ⟨by omega,rfl⟩
  ·rw [qx _ _ hx] at hj'
   have:=h.fl x j hj'
   exact ⟨by omega,this.2⟩
 ·rw [al4]
  by_cases hm:flN p k∈lst s
  ·rw [zp hm];exact h.nd
  ·rw [z6 hm]
   exact List.nodup_append.2 ⟨h.nd,zA1,λa ha b hb=>by rw [zAW.1 hb];intro e;exact hm (e▸ha)⟩
 ·intro x
  have hl:x∈lst (uf p s k) ↔ x∈lst s\/x=flN p k:=by
   rw [al4]
   by_cases hm:flN p k∈lst s
   ·rw [zp hm]
    exact ⟨λh1=>.inl h1,λh1=>by rcases h1 with h1|rfl;exact h1;exact hm⟩
   ·rw [z6 hm]
    simp
  rw [hl]
  show _ ↔ upd s.q (flN p k) (s.q (flN p k)++[k]) x≠[]
  by_cases hx:x=flN p k
  ·subst hx;rw [upd_same];simp
  ·rw [qx _ _ hx,h.mem x];simp [hx]
 ·intro x hx
  have hx':s.sv≠some x:=hx
  show s.c x=0\/∃k' r,upd s.q (flN p k) (s.q (flN p k)++[k]) x=k'::r/\s.c x<sOf p k'
  rcases h.out x hx' with h1|⟨k',r,h1,h2⟩
  ·exact .inl h1
  ·by_cases hxk:x=flN p k
   ·subst hxk;rw [upd_same,h1];exact .inr ⟨k',r++[k],rfl,h2⟩
   ·rw [qx _ _ hxk];exact .inr ⟨k',r,h1,h2⟩
 ·intro x hx
  exact h.in_ x hx
 ·show (upd s.q (flN p k) (s.q (flN p k)++[k]) x).Pairwise (·< ·)
  by_cases hx:x=flN p k
  ·subst hx
   rw [upd_same]
   exact List.pairwise_append.2 ⟨h.so _,by simp,λa ha b hb=>by rw [zAW.1 hb];exact (h.fl _ a ha).1⟩
  ·rw [qx _ _ hx];exact h.so x
theorem auL {p:List Pk} (s:RS) (k:Nat) (hg:flN p k<8):(wX (uf p s k)).Perm (k::wX s):=by
 have h1:=abD (upd s.q (flN p k) (s.q (flN p k)++[k])) 8 (flN p k) hg
 have h2:=abD s.q 8 (flN p k) hg
 rw [agF,upd_same] at h1
 refine h1.trans ?_
 rw [zAi]
 exact (List.perm_middle (l₁:=s.q (flN p k)) (a:=k) (l₂:=(List.range 8).flatMap (upd s.q (flN p k) []))).trans (List.Perm.cons k h2.symm)
theorem ay1 (p:List Pk) (s:RS) (g:Nat):(wY p s g).q=upd s.q g (s.q g).tail:=by
 unfold wY
 split
 ·rename_i h;rw [h]
 ·rfl
theorem ar5 {p:List Pk} (s:RS) (g:Nat) (hg:g<8) (hq:s.q g≠[]):(wX s).Perm (yH s g::wX (wY p s g)):=by
 have h1:=abD s.q 8 g hg
 have h2:=abD (upd s.q g (s.q g).tail) 8 g hg
 rw [agF,upd_same] at h2
 have e:=jV hq
 unfold wX
 rw [ay1]
 refine h1.trans ?_
 rw [e]
 exact List.Perm.cons _ h2.symm
section
variable {p:List Pk} {qs:List Int}
theorem ag6 (hp:∀x∈p,zg x) (hq:∀g,0<=qu qs g) (f:Nat) (s:RS) (m k:Nat) (s':RS) (h:RI p qs m s) (hk:wF p qs f s=some (k,s')):RI p qs m s'/\(wX s).Perm (k::wX s'):=by
 induction f generalizing s with
 |zero=>cases hk
 |succ f ih=>
  unfold wF at hk
  split at hk
  ·cases hk
  ·rename_i g s1 ht
   obtain ⟨h1,h2,h3,h4,h5,_⟩:=h.turn hq ht
   have h5':s1.q g≠[]:=by rw [h3];exact h5
   split at hk
   ·rename_i hc
    simp only [zAC,Prod.mk.injEq] at hk
    obtain ⟨rfl,rfl⟩:=hk
    refine ⟨h1.send hp h2 hc,?_⟩
    have:=ar5 (p:=p) s1 g (h1.g8 hp h5') h5'
    unfold wX at this ⊢
    rw [h3] at this
    exact this
   ·rename_i hc
    have:=ih _ (h1.agB h2 hc).1 hk
    refine ⟨this.1,?_⟩
    have hw:wX (rEnd s1 g)=wX s:=by unfold wX rEnd;rw [<-h3]
    rw [<-hw]
    exact this.2
theorem acV (hp:∀x∈p,zg x) (hq:∀g,0<=qu qs g) (hq1:∀g,g<8->1<=qu qs g) (f:Nat) (s:RS) (m:Nat) (h:RI p qs m s) (hf:rMu s<=f) (hk:wF p qs f s=none):lst s=[]:=by
 induction f generalizing s with
 |zero=>unfold rMu at hf;omega
 |succ f ih=>
  unfold wF at hk
  split at hk
  ·rename_i ht;exact rTurn_none ht
  ·rename_i g s1 ht
   obtain ⟨h1,h2,h3,h4,h5,h6⟩:=h.turn hq ht
   have h5':s1.q g≠[]:=by rw [h3];exact h5
   split at hk
   ·cases hk
   ·rename_i hc
    have hg:=h1.g8 hp h5'
    have hh:=(h1.head h5').1
    have hk':yH s1 g<p.length:=by have:=h1.le;omega
    have hz:=(hp _ (zd hk')).2.2.2.1
    rw [yA hk'] at hc
    have hc2:¬sOf p (yH s1 g)<=s1.c g:=by rw [yA hk'];exact hc
    have hmu:=akN (hq1 g hg) hg ht h2 zO h6
    have:=ih _ (h1.agB h2 hc2).1 zO hk
    have hp2:=(h1.agB h2 hc2).2.1
    rw [this] at hp2
    rw [<-h4]
    exact (List.nil_perm.1 hp2)
theorem av9 {m:Nat} {s:RS} (h:RI p qs m s) (hl:lst s=[]):wX s=[]:=by
 have:∀g,s.q g=[]:=λg=>by
  by_cases hg:s.q g=[]
  ·exact hg
  ·exact zAv ((h.mem g).2 hg) (by rw [hl];simp)
 unfold wX
 rw [afX]
 simp [this]
def yn (p:List Pk) (qs:List Int):Pol RS where
 come:=uf p
 pick s:=wF p qs (rMu s) s
 rest s:=s
 wait:=wX
 ok:=RI p qs
theorem aa5 (hp:∀x∈p,zg x) (hq:∀g,0<=qu qs g) (hq1:∀g,g<8->1<=qu qs g):wL (yn p qs) p.length where
 ok_come:=λs k h hk=>h.come hk
 ok_pick:=λs m k s' h hk=>(ag6 hp hq _ s m k s' h hk).1
 ok_rest:=λs m h _=>h
 w_come:=λs k h hk=>auL s k (ahX hp hk)
 w_none:=λs m h hk=>av9 h (acV hp hq hq1 _ s m h (zD _) hk)
 w_some:=λs m k s' h hk=>(ag6 hp hq _ s m k s' h hk).2
 w_rest:=λs m _ h=>h
end
def rs0:RS:=⟨λ_=>[],λ_=>0,[],none⟩
theorem akE (p:List Pk) (qs:List Int):RI p qs 0 rs0:=
 ⟨zAK _,by intro g j hj;simp [rs0] at hj,List.nodup_nil,λg=>by simp [rs0,lst],λg=>zAV _,λg _=>.inl rfl,(λg h=>by cases h),λg=>List.Pairwise.nil⟩
theorem ag4:wX rs0=[]:=by unfold wX;rw [afX];rfl
def acU (p:List Pk) (per:Int) (qs:List Int):List Sn:=(serveS (yn p qs) p per rs0).out
def ahd (a b:Nat):List Nat->Int
 |[]=>0
 |x::r=>if x=a then 1 else if x=b then 0 else ahd a b r
def rD (qs:List Int) (s:RS) (f:Nat):Int:=s.c f - if s.sv=some f then qu qs f else 0
def a3Q (qs:List Int) (a b:Nat) (s:RS):Int:=rD qs s a*qu qs b - rD qs s b*qu qs a+ahd a b (lst s)*(qu qs a*qu qs b)
section
variable {p:List Pk} {qs:List Int} {m:Nat} {s s1 s':RS} {g a b:Nat}
end
structure RoundJ (p:List Pk) (qs:List Int) (a b:Nat) (lo hi:Int) (t:St RS):Prop where
 came:∀j,j<t.next->aOf p j<=t.now
 fr:∀i (h:i<t.out.length),t.out[i].f<=t.now
 tr:∃P Q:Nat->Int,∀i (h:i<t.out.length),WtP p a (t.out.take i) t.out[i]->WtP p b (t.out.take i) t.out[i]→
  (lo<=P i/\P i<=hi/\lo<=Q i/\Q i<=hi/\Q i=P i - cnt p (qu qs a) (qu qs b) a b t.out[i])/\(i+1<t.out.length->P (i+1)=Q i)/\(i+1=t.out.length->Q i=a3Q qs a b t.s/\a∈lst t.s/\b∈lst t.s)
theorem alF {σ:Type} {M:Pol σ} {p:List Pk} {per:Int} {s0:σ} (hM:wL M p.length) (hp:∀x∈p,zg x) (h0:1<=per) (h1:per<=1000) (hw:M.wait s0=[]) (ho:M.ok 0 s0):
 (serveS M p per s0).out.length=p.length/\(∀x∈(serveS M p per s0).out,0<=x.p)/\(∀x∈(serveS M p per s0).out,x.p.toNat<p.length)/\((serveS M p per s0).out.map λx=>x.p.toNat).Nodup:=by
 obtain ⟨hi,hl⟩:=adI hM hp h0 h1 (2*p.length+1) _ (wh p hw ho) (uI p _) (zAK _)
 have hpm:=hi.perm
 have hnd:=hpm.nodup_iff.2 List.nodup_range
 refine ⟨hl,hi.pos,λx hx=>?_,(List.nodup_append.1 hnd).1⟩
 have:=List.mem_range.1 (hpm.mem_iff.1 (List.mem_append_left _ (zAT.2 ⟨x,hx,rfl⟩)))
 have:=hi.next_le
 exact zAG ‹_› this
structure FS where
 w:List Nat
 tg:Nat->Int
 last:Nat->Int
 v:Int
def ad8 (p:List Pk) (ws:List Int) (k:Nat):Int:=(sOf p k*12) / qu ws (flN p k)
def jR (p:List Pk) (ws:List Int) (s:FS) (k:Nat):Int:=max s.v (s.last (flN p k))+ad8 p ws k
def yQ (p:List Pk) (ws:List Int) (s:FS) (k:Nat):FS:=
 {s with w:=s.w++[k],tg:=upd s.tg k (jR p ws s k),last:=upd s.last (flN p k) (jR p ws s k)}
def xw (s:FS):Nat:=s.w.getD (bestI s.tg s.w) 0
def ad6 (s:FS):Option (Nat × FS):=
 if s.w.length=0 then none else some (xw s,{s with w:=s.w.eraseIdx (bestI s.tg s.w),v:=s.tg (xw s)})
def fRest (s:FS):FS:={s with v:=0,last:=λ_=>0}
def Ch (tg inc:Nat->Int):Int->List Nat->Int->Prop
 |s,[],e=>s=e
 |s,k::r,e=>tg k=s+inc k/\Ch tg inc (tg k) r e
def fQ (p:List Pk) (f:Nat) (w:List Nat):List Nat:=w.filter (λk=>decide (flN p k=f))
structure FB (m:Nat) (s:FS):Prop where
 t:∀j∈s.w,s.tg j<=18000*(m:Int)
 l:∀f,0<=s.last f/\s.last f<=18000*(m:Int)
 v:0<=s.v/\s.v<=18000*(m:Int)
structure FI (p:List Pk) (ws:List Int) (m:Nat) (s:FS):Prop where
 lt:∀j∈s.w,j<m
 asc:s.w.Pairwise (·< ·)
 le:m<=p.length
 ge:∀j∈s.w,s.v<=s.tg j
 ch:∀f,∃x,x<=s.v/\Ch s.tg (ad8 p ws) x (fQ p f s.w) (s.last f)
 bd:FB m s
section
variable {tg tg' inc:Nat->Int}
theorem Ch.congr {s e:Int} {l:List Nat} (h:Ch tg inc s l e) (hc:∀j∈l,tg' j=tg j):Ch tg' inc s l e:=by
 induction l generalizing s with
 |nil=>exact h
 |cons k r ih=>
  obtain ⟨h1,h2⟩:=h
  have e1:=hc k zAD
  refine ⟨by rw [e1];exact h1,?_⟩
  rw [e1]
  exact ih h2 λj hj=>hc j (zAJ _ hj)
theorem Ch.app {s e:Int} {l:List Nat} {k:Nat} (h:Ch tg inc s l e) (hk:tg k=e+inc k):Ch tg inc s (l++[k]) (tg k):=by
 induction l generalizing s with
 |nil=>exact ⟨by rw [show s=e from h];exact hk,rfl⟩
 |cons x r ih=>exact ⟨h.1,ih h.2⟩
theorem Ch.ge {s e v:Int} {l:List Nat} (h:Ch tg inc s l e) (hl:l≠[]) (hv:∀j∈l,v<=tg j):v<=e:=by
 induction l generalizing s with
 |nil=>exact zAv rfl hl
 |cons k r ih=>
  cases r with
  |nil=>
   have h2:tg k=e:=h.2
   have:=hv k zAD
   omega
  |cons x r=>exact ih h.2 zA1 λj hj=>hv j (zAJ _ hj)
theorem Ch.lt {s e:Int} {l:List Nat} (h:Ch tg inc s l e) (hi:∀j∈l,1<=inc j):∀j∈l,s<tg j:=by
 induction l generalizing s with
 |nil=>simp
 |cons k r ih=>
  have h0:=hi k zAD
  have h1:=h.1
  intro j hj
  rcases zAM.1 hj with rfl|hj
  ·omega
  ·have:=ih h.2 (λj hj=>hi j (zAJ _ hj)) j hj
   omega
end
theorem afA {p:List Pk} {f j:Nat} {w:List Nat}:j∈fQ p f w ↔ j∈w/\flN p j=f:=by simp [fQ]
theorem ak1 (p:List Pk) (f:Nat) (w r:List Nat):fQ p f (w++r)=fQ p f w++fQ p f r:=List.filter_append _ _
theorem apN (p:List Pk) (f k:Nat) (r:List Nat):fQ p f (k::r)=if flN p k=f then k::fQ p f r else fQ p f r:=by
 unfold fQ
 rw [List.filter_cons]
 by_cases h:flN p k=f<;>simp [h]
def wOk (ws:List Int):Prop:=∀g,g<8->1<=qu ws g/\qu ws g ∣ 12
theorem amQ {p:List Pk} {ws:List Int} (hp:∀x∈p,zg x) (hw:wOk ws) {k:Nat} (hk:k<p.length):ad8 p ws k*qu ws (flN p k)=sOf p k*12:=by
 obtain ⟨h1,h2⟩:=hw _ (ahX hp hk)
 exact Int.ediv_mul_cancel (Int.dvd_trans h2 (Int.dvd_mul_left _ _))
theorem ad7 {p:List Pk} {ws:List Int} (hp:∀x∈p,zg x) (hw:wOk ws) {k:Nat} (hk:k<p.length):1<=ad8 p ws k:=by
 have h1:=(hw _ (ahX hp hk)).1
 have h2:=amQ hp hw hk
 have h3:1<=sOf p k:=by rw [yA hk];exact (hp _ (zd hk)).2.2.1
 refine Int.not_lt.1 λh4=>?_
 have:ad8 p ws k*qu ws (flN p k)<=0:=Int.mul_nonpos_of_nonpos_of_nonneg zO zO
 omega
section
variable {p:List Pk} {ws:List Int} {m:Nat} {s s':FS}
theorem az2 (hp:∀x∈p,zg x) (hw:wOk ws) {k:Nat} (hk:k<p.length):s.v<=jR p ws s k/\s.last (flN p k)<=jR p ws s k:=by
 have:=ad7 hp hw hk
 unfold jR
 omega
theorem az3 (hp:∀x∈p,zg x) (hw:wOk ws) {k:Nat} (hk:k<p.length):ad8 p ws k<=18000:=by
 have h1:=(hw _ (ahX hp hk)).1
 have h2:=amQ hp hw hk
 have h4:=ad7 hp hw hk
 have h3:sOf p k<=1500:=by rw [yA hk];exact (hp _ (zd hk)).2.2.2.1
 have h5:ad8 p ws k*1<=ad8 p ws k*qu ws (flN p k):=Int.mul_le_mul_of_nonneg_left h1 zO
 omega
theorem agK (hp:∀x∈p,zg x) (hw:wOk ws) {k m:Nat} (h:FB m s) (hk:k<p.length):0<=jR p ws s k/\jR p ws s k<=18000*((m+1:Nat):Int):=by
 have h1:=ad7 hp hw hk
 have h2:=az3 hp hw hk
 have h3:=h.v
 have h4:=h.l (flN p k)
 unfold jR
 omega
theorem FI.come (hp:∀x∈p,zg x) (hw:wOk ws) {k:Nat} (h:FI p ws k s) (hk:k<p.length):FI p ws (k+1) (yQ p ws s k):=by
 have hne:∀j∈s.w,j≠k:=λj hj e=>by have:=h.lt j hj;omega
 refine ⟨λj hj=>?_,?_,hk,λj hj=>?_,λf=>?_,⟨λj hj=>?_,λf=>?_,?_⟩⟩
 ·rcases zAQ.1 hj with h1|h1
  ·have:=h.lt j h1;omega
  ·rw [zAW.1 h1];omega
 ·exact List.pairwise_append.2 ⟨h.asc,List.pairwise_singleton _ _,λa ha b hb=>by rw [zAW.1 hb];exact h.lt a ha⟩
 ·show s.v<=upd s.tg k _ j
  rcases zAQ.1 hj with h1|h1
  ·rw [qx _ _ (hne j h1)];exact h.ge j h1
  ·rw [zAW.1 h1,upd_same];exact (az2 hp hw hk).1
 ·obtain ⟨x,h1,h2⟩:=h.ch f
  show ∃x,x<=s.v/\Ch (upd s.tg k _) (ad8 p ws) x (fQ p f (s.w++[k])) (upd s.last (flN p k) _ f)
  have hq:∀j∈fQ p f s.w,upd s.tg k (jR p ws s k) j=s.tg j:=λj hj=>qx _ _ (hne j (afA.1 hj).1)
  rw [ak1,apN]
  by_cases hf:flN p k=f
  ·rw [zp hf]
   subst hf
   rw [upd_same]
   by_cases hn:fQ p (flN p k) s.w=[]
   ·rw [hn] at h2 ⊢
    have h3:x=s.last (flN p k):=h2
    refine ⟨s.v,zAV _,?_,?_⟩
    ·rw [upd_same];unfold jR;omega
    ·exact upd_same _ _ _
   ·have h3:=h2.ge hn (v:=s.v) λj hj=>h.ge j (afA.1 hj).1
    refine ⟨x,h1,?_⟩
    have h4:=(h2.congr hq).app (k:=k) (by rw [upd_same];unfold jR;omega)
    rw [upd_same] at h4
    exact h4
  ·rw [z6 hf,qx _ _ (λe=>hf e.symm)]
   refine ⟨x,h1,?_⟩
   show Ch _ _ x (fQ p f s.w++[]) _
   rw [zAo]
   exact h2.congr hq
 ·show upd s.tg k _ j<=_
  rcases zAQ.1 hj with h1|h1
  ·rw [qx _ _ (hne j h1)];have:=h.bd.t j h1;omega
  ·rw [zAW.1 h1,upd_same];exact (agK hp hw h.bd hk).2
 ·show 0<=upd s.last _ _ f/\upd s.last _ _ f<=_
  by_cases hf:f=flN p k
  ·subst hf;rw [upd_same];exact agK hp hw h.bd hk
  ·rw [qx _ _ hf];have:=h.bd.l f;omega
 ·show 0<=s.v/\s.v<=_
  have:=h.bd.v
  omega
theorem amR (hs:0<s.w.length):∃w1 w2,s.w=w1++xw s::w2/\s.w.eraseIdx (bestI s.tg s.w)=w1++w2/\(∀j∈s.w,s.tg (xw s)<=s.tg j)/\(∀j∈w1,s.tg (xw s)<s.tg j):=by
 have hb:=aa1 s.tg s.w hs
 have hlt:=hb.lt
 have e:xw s=s.w[bestI s.tg s.w]:=by unfold xw;simp [List.getD,hlt]
 refine ⟨s.w.take (bestI s.tg s.w),s.w.drop (bestI s.tg s.w+1),?_,List.eraseIdx_eq_take_drop_succ _ _,λj hj=>?_,λj hj=>?_⟩
 ·rw [e,<-zAE hlt,List.take_append_drop]
 ·obtain ⟨i,hi,rfl⟩:=List.mem_iff_getElem.1 hj
  have:=hb.le i hi
  simp only [List.getD,zAR hi,Option.getD_some] at this
  exact this
 ·obtain ⟨i,hi,rfl⟩:=List.mem_iff_getElem.1 hj
  have hi2:i<bestI s.tg s.w:=by
   have:=hi;rw [zAh] at this;omega
  have:=hb.first i hi2
  rw [List.getElem_take]
  simp only [List.getD,zAR (show i<s.w.length by omega),Option.getD_some] at this
  exact this
theorem ah3 (hp:∀x∈p,zg x) (hw:wOk ws) (h:FI p ws m s) {w1 w2:List Nat} (hs:s.w=w1++xw s::w2) (hl:∀j∈s.w,s.tg (xw s)<=s.tg j):fQ p (flN p (xw s)) w1=[]:=by
 obtain ⟨x,h1,h2⟩:=h.ch (flN p (xw s))
 have hinc:∀j∈s.w,1<=ad8 p ws j:=λj hj=>ad7 hp hw (by have:=h.lt j hj;have:=h.le;omega)
 cases hq:fQ p (flN p (xw s)) w1 with
 |nil=>rfl
 |cons k r=>
  have hk:k∈w1:=(afA.1 (show k∈fQ p (flN p (xw s)) w1 by rw [hq];exact zAD)).1
  have hkw:k∈s.w:=by rw [hs];exact List.mem_append_left _ hk
  rw [hs,ak1,apN,zp rfl,hq,List.cons_append] at h2
  have:=h2.2.lt (λj hj=>hinc j ?_) (xw s) (List.mem_append_right _ zAD)
  ·have:=hl k hkw
   omega
  ·rw [hs]
   rcases zAQ.1 hj with h9|h9
   ·exact List.mem_append_left _ (afA.1 (show j∈fQ p (flN p (xw s)) w1 by rw [hq];exact zAJ _ h9)).1
   ·rcases zAM.1 h9 with rfl|h9
    ·exact List.mem_append_right _ zAD
    ·exact List.mem_append_right _ (zAJ _ (afA.1 h9).1)
theorem ah2 {k:Nat} (hk:ad6 s=some (k,s')):0<s.w.length/\k=xw s/\s'={s with w:=s.w.eraseIdx (bestI s.tg s.w),v:=s.tg (xw s)}:=by
 unfold ad6 at hk
 split at hk
 ·cases hk
 ·simp only [zAC,Prod.mk.injEq] at hk
  exact ⟨by omega,hk.1.symm,hk.2.symm⟩
theorem FI.pick (hp:∀x∈p,zg x) (hw:wOk ws) (h:FI p ws m s) {k:Nat} (hk:ad6 s=some (k,s')):
 FI p ws m s'/\s.v<=s'.v/\s'.v=s.tg k/\s'.tg=s.tg/\s.w.Perm (k::s'.w)/\(∀f,fQ p f s.w=if flN p k=f then k::fQ p f s'.w else fQ p f s'.w):=by
 obtain ⟨h0,rfl,rfl⟩:=ah2 hk
 obtain ⟨w1,w2,e1,e2,e3,e4⟩:=amR h0
 have hh:=ah3 hp hw h e1 e3
 have hv:=h.ge (xw s) (by rw [e1];exact List.mem_append_right _ zAD)
 have hsub:∀j∈w1++w2,j∈s.w:=λj hj=>by
  rw [e1]
  rcases zAQ.1 hj with h9|h9
  ·exact List.mem_append_left _ h9
  ·exact List.mem_append_right _ (zAJ _ h9)
 have hQ:∀f,fQ p f s.w=if flN p (xw s)=f then xw s::fQ p f (w1++w2) else fQ p f (w1++w2):=λf=>by
  rw [e1,ak1,apN,ak1]
  by_cases hf:flN p (xw s)=f
  ·rw [zp hf]
   rw [hf] at hh
   rw [hh,zAa,zAa,zp hf]
  ·rw [z6 hf,z6 hf]
 refine ⟨⟨λj hj=>?_,?_,h.le,λj hj=>?_,λf=>?_,⟨λj hj=>?_,h.bd.l,?_⟩⟩,hv,rfl,rfl,?_,λf=>?_⟩
 ·simp only [e2] at hj
  exact h.lt j (hsub j hj)
 ·exact h.asc.sublist (List.eraseIdx_sublist _ _)
 ·simp only [e2] at hj
  exact e3 j (hsub j hj)
 ·obtain ⟨x,h1,h2⟩:=h.ch f
  rw [hQ] at h2
  show ∃x,x<=s.tg (xw s)/\Ch s.tg (ad8 p ws) x (fQ p f (s.w.eraseIdx (bestI s.tg s.w))) (s.last f)
  rw [e2]
  by_cases hf:flN p (xw s)=f
  ·rw [zp hf] at h2
   exact ⟨_,zAV _,h2.2⟩
  ·rw [z6 hf] at h2
   exact ⟨x,by omega,h2⟩
 ·simp only [e2] at hj
  exact h.bd.t j (hsub j hj)
 ·show 0<=s.tg (xw s)/\s.tg (xw s)<=_
  exact ⟨by have:=h.bd.v;omega,h.bd.t _ (by rw [e1];exact List.mem_append_right _ zAD)⟩
 ·show s.w.Perm (xw s::s.w.eraseIdx _)
  rw [e2]
  have e5:s.w.Perm (w1++xw s::w2):=by rw [<-e1]
  exact e5.trans List.perm_middle
 ·rw [e2];exact hQ f
theorem FI.rest (h:FI p ws m s) (hs:s.w=[]):FI p ws m (fRest s):=
 ⟨h.lt,h.asc,h.le,λj hj=>by have hj':j∈s.w:=hj;rw [hs] at hj';simp at hj',λf=>⟨0,zAV _,by show Ch _ _ _ (fQ p f s.w) _;rw [hs];rfl⟩,⟨h.bd.t,λf=>⟨zAV _,by show (0:Int)<=_;omega⟩,by show (0:Int)<=0/\(0:Int)<=_;omega⟩⟩
end
def fairM (p:List Pk) (ws:List Int):Pol FS where
 come:=yQ p ws
 pick:=ad6
 rest:=fRest
 wait s:=s.w
 ok:=FI p ws
theorem ab3 {p:List Pk} {ws:List Int} (hp:∀x∈p,zg x) (hw:wOk ws):wL (fairM p ws) p.length where
 ok_come:=λs k h hk=>h.come hp hw hk
 ok_pick:=λs m k s' h hk=>(h.pick hp hw hk).1
 ok_rest:=λs m h hs=>h.rest hs
 w_come:=λs k _ _=>List.perm_append_comm (l₂:=[k])
 w_none:=λs m _ hk=>by
  simp only [fairM] at hk ⊢
  unfold ad6 at hk
  split at hk
  ·rename_i h;exact zAm h
  ·cases hk
 w_some:=λs m k s' h hk=>(h.pick hp hw hk).2.2.2.2.1
 w_rest:=λs m _ h=>h
def fs0:FS:=⟨[],λ_=>0,λ_=>0,0⟩
theorem apE (p:List Pk) (ws:List Int):FI p ws 0 fs0:=
 ⟨by simp [fs0],List.Pairwise.nil,zAK _,by simp [fs0],λf=>⟨0,zAV _,rfl⟩,⟨by simp [fs0],λf=>by simp [fs0],by simp [fs0]⟩⟩
def ah1 (p:List Pk) (per:Int) (ws:List Int):List Sn:=(serveS (fairM p ws) p per fs0).out
def a0T (p:List Pk) (per:Int) (ws:List Int):Nat->Int:=(serveS (fairM p ws) p per fs0).s.tg
def aw8 (p:List Pk) (ws:List Int) (s:FS) (f:Nat):Int:=match fQ p f s.w with
 |[]=>0
 |k::_=>s.tg k - ad8 p ws k
def a3Z (p:List Pk) (ws:List Int) (a b:Nat) (s:FS):Int:=(aw8 p ws s b - aw8 p ws s a)*(qu ws a*qu ws b)
section
variable {p:List Pk} {ws:List Int} {m:Nat} {s s':FS} {a b:Nat}
end
structure FairJ (p:List Pk) (ws:List Int) (a b:Nat) (lo hi:Int) (t:St FS):Prop where
 came:∀j,j<t.next->aOf p j<=t.now
 fr:∀i (h:i<t.out.length),t.out[i].f<=t.now
 to_:∀i (h:i<t.out.length),t.out[i].t<=t.now
 lv:∀i (h:i<t.out.length),i+1=t.out.length->t.now=t.out[i].t->t.s.tg t.out[i].p.toNat<=t.s.v
 mono:∀i (h:i+1<t.out.length),t.out[i+1].f=t.out[i].t->t.s.tg t.out[i].p.toNat<=t.s.tg t.out[i+1].p.toNat
 tr:∃P Q:Nat->Int,∀i (h:i<t.out.length),WtP p a (t.out.take i) t.out[i]->WtP p b (t.out.take i) t.out[i]→
  (lo<=P i/\P i<=hi/\lo<=Q i/\Q i<=hi/\Q i=P i - cnt p (12*qu ws a) (12*qu ws b) a b t.out[i])/\(i+1<t.out.length->P (i+1)=Q i)/\(i+1=t.out.length->Q i=a3Z p ws a b t.s/\fQ p a t.s.w≠[]/\fQ p b t.s.w≠[])
section
variable {σ:Type} {M:Pol σ} {p:List Pk} {per:Int} {t:St σ}
theorem ac2 (hM:wL M p.length) (hp:∀x∈p,zg x) (hs:p.Pairwise (λx y=>x.a<=y.a)) (h0:1<=per) (h:Inv M p t) (hlt:t.out.length<p.length) (hc:∀j,j<t.next->aOf p j<=t.now):∀j,j<(yG M p per t).next->aOf p j<=(yG M p per t).now:=by
 obtain ⟨hci,hlt2⟩:=yF hM t.now (p.drop t.next) t.next t.s rfl h.toC
 have hall:=jZ hM hs h hc
 unfold yG
 generalize comeL M t.now (p.drop t.next) t.next t.s=q at hci hlt2 hall
 cases hpk:M.pick q.2 with
 |none=>
  have hid:=hci.idle hM hpk
  intro j hj
  exact uL hs (Nat.le_of_lt hj) (by simp only at hj;omega)
 |some ks=>
  obtain ⟨k,s'⟩:=ks
  have hk:k<q.1:=hci.aa6 hM hpk
  have hkl:k<p.length:=zAG hk hci.k_le
  intro j hj
  have h1:=(hall j (zAG hj hci.k_le)).1 hj
  show aOf p j<=t.now+per*sOf p k
  have h2:=(hp _ (zd hkl)).2.2.1
  rw [yA hkl]
  have:0<=per*p[k].s:=zAY zO zO
  omega
theorem acG (hM:wL M p.length) (hs:p.Pairwise (λx y=>x.a<=y.a)) (h:Inv M p t) (hc:∀j,j<t.next->aOf p j<=t.now) (j:Nat) (hl:j<p.length):
 j∈M.wait (comeL M t.now (p.drop t.next) t.next t.s).2 ↔ (dnB t.out j=false/\aOf p j<=t.now):=by
 obtain ⟨hci,_⟩:=yF hM t.now (p.drop t.next) t.next t.s rfl h.toC
 have hall:=jZ hM hs h hc j hl
 generalize comeL M t.now (p.drop t.next) t.next t.s=q at hci hall
 have hnd:((t.out.map λx=>x.p.toNat)++M.wait q.2).Nodup:=(hci.perm.nodup_iff).2 List.nodup_range
 have hm:∀j,(j∈(t.out.map λx=>x.p.toNat)\/j∈M.wait q.2) ↔ j<q.1:=λj=>(List.mem_append.symm).trans ((hci.perm.mem_iff).trans List.mem_range)
 rw [<-hall,aaJ]
 refine ⟨λh1=>⟨λy hy e=>?_,(hm j).1 (.inr h1)⟩,λ⟨h1,h2⟩=>?_⟩
 ·exact (List.nodup_append.1 hnd).2.2 _ (zAT.2 ⟨y,hy,by omega⟩) _ h1 rfl
 ·exact zEr
theorem a1J (hM:wL M p.length) (h:Inv M p t) (hlt:t.out.length<p.length) {first:Int} (hf:vC t.out p.length first) (hpk:M.pick (comeL M t.now (p.drop t.next) t.next t.s).2=none):
 first=((comeL M t.now (p.drop t.next) t.next t.s).1:Int)/\(comeL M t.now (p.drop t.next) t.next t.s).1<p.length:=by
 obtain ⟨hc,hlt2⟩:=yF hM t.now (p.drop t.next) t.next t.s rfl h.toC
 generalize comeL M t.now (p.drop t.next) t.next t.s=q at hc hlt2 hpk
 have hid:=hc.idle hM hpk
 have hw:=hM.w_none _ _ hc.ok hpk
 have hm:∀j,j∈(t.out.map λx=>x.p.toNat) ↔ j<q.1:=λj=>by
  have:=(hc.perm.mem_iff (a:=j)).trans List.mem_range
  rw [hw,zAo] at this
  exact this
 have hdq:dnB t.out q.1=false:=aaJ.2 λy hy e=>by
  have:=(hm q.1).1 (zAT.2 ⟨y,hy,by omega⟩)
  omega
 have hdl:∀j,j<q.1->dnB t.out j=true:=λj hjq=>by
  exact zFN
 refine ⟨?_,by omega⟩
 rcases hf with ⟨e,hf⟩|⟨f,hfl,e,h1,h2⟩
 ·have:=hf q.1 zO
  rw [hdq] at this;cases this
 ·exact zEu
structure CAt (M:Pol σ) (p:List Pk) (t:St σ) (i k:Nat) (s:σ):Prop where
 run:comeL M t.now (p.drop t.next) t.next t.s=comeL M t.now (p.drop k) k s
 inv:abO M p t.out k s
 ge:t.next<=k
 at_:k<=i\/k=t.next
 iff:∀j,j<i->(j<k ↔ aOf p j<=t.now)
theorem CAt.start (h:Inv M p t):CAt M p t 0 t.next t.s:=⟨rfl,h.toC,zD _,.inr rfl,λ_ h=>zAv h (Nat.not_lt_zero _)⟩
theorem CAt.old {i k:Nat} {s:σ} (h:CAt M p t i k s) (hc:∀j,j<t.next->aOf p j<=t.now) (hi:i<k):CAt M p t (i+1) k s/\aOf p i<=t.now:=by
 have hk:k=t.next:=by rcases h.at_ with h1|h1<;>omega
 have ha:aOf p i<=t.now:=hc i zO
 refine ⟨⟨h.run,h.inv,h.ge,.inr hk,λj hj=>?_⟩,ha⟩
 rcases zAn.1 hj with h9|rfl
 ·exact h.iff j h9
 ·exact ⟨λ_=>ha,λ_=>hi⟩
theorem CAt.late {i k:Nat} {s:σ} (h:CAt M p t i k s) (hi:k<=i) (ha:t.now<aOf p i):CAt M p t (i+1) k s:=by
 refine ⟨h.run,h.inv,h.ge,.inl zO,λj hj=>?_⟩
 rcases zAn.1 hj with h9|rfl
 ·exact h.iff j h9
 ·exact ⟨λ_=>by omega,λ_=>by omega⟩
theorem CAt.a2L {i k:Nat} {s:σ} (h:CAt M p t i k s) (hs:p.Pairwise (λx y=>x.a<=y.a)) (hi:k<=i) (hil:i<p.length) (ha:aOf p i<=t.now):k=i:=by
 rcases Nat.eq_or_lt_of_le hi with h9|h9
 ·exact h9
 ·have h1:=h.iff k h9
  have h2:=uL hs (Nat.le_of_lt h9) hil
  omega
theorem CAt.come {i:Nat} {s:σ} (h:CAt M p t i i s) (hM:wL M p.length) (hil:i<p.length) (ha:aOf p i<=t.now):CAt M p t (i+1) (i+1) (M.come s i):=by
 refine ⟨?_,h.inv.come hM hil,by have:=h.ge;omega,.inl (zD _),λj hj=>?_⟩
 ·rw [h.run,zAE hil]
  rw [zy hil] at ha
  exact zp ha
 ·rcases zAn.1 hj with h9|rfl
  ·have:=h.iff j h9
   exact ⟨λ_=>this.1 h9,λ_=>hj⟩
  ·exact ⟨λ_=>ha,λ_=>hj⟩
theorem CAt.agB {k:Nat} {s:σ} (h:CAt M p t p.length k s):comeL M t.now (p.drop t.next) t.next t.s=(k,s):=by
 rw [h.run]
 refine afE M p t.now k s λhk=>?_
 have:=h.iff k hk
 omega
theorem CAt.av3 {i k:Nat} {s:σ} (h:CAt M p t i k s) (hpos:∀x∈t.out,0<=x.p) {j:Nat} (hj:k<=j):dnB t.out j=false:=aaJ.2 λy hy e=>by
 have h1:y.p.toNat∈(t.out.map λx=>x.p.toNat)++M.wait s:=List.mem_append_left _ (zAT.2 ⟨y,hy,rfl⟩)
 have:=List.mem_range.1 ((h.inv.perm.mem_iff).1 h1)
 omega
end
theorem xN.congr {p:List Pk} {key key':Nat->Int} {now:Int} {out:List Sn} {i:Nat} {best:Int} (h:xN p key now out i best) (hk:∀j,j<i->key' j=key j):xN p key' now out i best:=by
 rcases h with ⟨e,h⟩|⟨b,hb,e,h1,h2,h3⟩
 ·exact .inl ⟨e,h⟩
 ·refine .inr ⟨b,hb,e,h1,h2,λj hj hd ha=>?_⟩
  rw [hk j hj,hk b hb]
  exact h3 j hj hd ha
section
variable {p:List Pk} {per:Int} {ws:List Int} {t:St FS}
theorem auD (hp:∀x∈p,zg x) (hw:wOk ws) (hs:p.Pairwise (λx y=>x.a<=y.a)) (h:Inv (fairM p ws) p t) (hc:∀j,j<t.next->aOf p j<=t.now) (hlt:t.out.length<p.length) {k:Nat} {s:FS} (hq:CAt (fairM p ws) p t p.length k s) {best first:Int}
 (hb:xN p s.tg t.now t.out p.length best) (hf:vC t.out p.length first) (hn:best<0):
 first=(k:Int)/\k<p.length/\yG (fairM p ws) p per t=⟨t.out,aOf p k,k,fRest s⟩:=by
 have hM:=ab3 hp hw
 have hwt:=acG hM hs h hc
 have hfi:=λx=>a1J hM h hlt hf x
 have hst:∀{k s},comeL (fairM p ws) t.now (p.drop t.next) t.next t.s=(k,s)->(fairM p ws).pick s=none->yG (fairM p ws) p per t=⟨t.out,aOf p k,k,(fairM p ws).rest s⟩:=λh1 h2=>uQ h1 h2
 rw [hq.agB] at hwt hfi
 have hq2:s.w=[]:=by
  refine List.eq_nil_iff_forall_not_mem.2 λj hjm=>?_
  have hjl:j<p.length:=zAG (hq.inv.ab8 hjm) hq.inv.k_le
  obtain ⟨h1,h2⟩:=(hwt j hjl).1 hjm
  exact zFe
 have hpk:(fairM p ws).pick s=none:=zp (by rw [hq2];rfl)
 obtain ⟨f1,f2⟩:=hfi hpk
 exact ⟨f1,f2,hst hq.agB hpk⟩
theorem auC (hp:∀x∈p,zg x) (hw:wOk ws) (hs:p.Pairwise (λx y=>x.a<=y.a)) (h:Inv (fairM p ws) p t) (hc:∀j,j<t.next->aOf p j<=t.now) {k:Nat} {s:FS} (hq:CAt (fairM p ws) p t p.length k s) {best:Int}
 (hb:xN p s.tg t.now t.out p.length best) (hn:0<=best):
 ∃(b:Nat) (w':List Nat),best=b/\b<p.length/\dnB t.out b=false/\yG (fairM p ws) p per t=⟨t.out++[⟨b,t.now,t.now+per*sOf p b⟩],t.now+per*sOf p b,k,{s with w:=w',v:=s.tg b}⟩:=by
 have hM:=ab3 hp hw
 have hwt:=acG hM hs h hc
 have hst:∀{k j:Nat} {s s'},comeL (fairM p ws) t.now (p.drop t.next) t.next t.s=(k,s)->(fairM p ws).pick s=some (j,s')->yG (fairM p ws) p per t=⟨t.out++[⟨j,t.now,t.now+per*sOf p j⟩],t.now+per*sOf p j,k,s'⟩:=λh1 h2=>vS h1 h2
 rw [hq.agB] at hwt
 rcases hb with ⟨e,hb⟩|⟨b,hbl,e,h1,h2,h3⟩
 ·omega
 ·have hbm:b∈s.w:=(hwt b hbl).2 ⟨h1,h2⟩
  have hne:s.w.length≠0:=λh9=>by rw [zAm h9] at hbm;cases hbm
  have hB:=aa1 s.tg s.w zO
  have hBl:=hB.lt
  have eg:s.w.getD (bestI s.tg s.w) 0=s.w[bestI s.tg s.w]:=by simp [List.getD,hBl]
  have hk2:s.w[bestI s.tg s.w]∈s.w:=zd _
  have hkl:s.w[bestI s.tg s.w]<p.length:=zAG (hq.inv.ab8 hk2) hq.inv.k_le
  obtain ⟨g1,g2⟩:=(hwt _ hkl).1 hk2
  have h4:=h3 _ hkl g1 g2
  obtain ⟨a,ha,ea⟩:=List.getElem_of_mem hbm
  have e1:s.w.getD a 0=b:=by simp [List.getD,ha,ea]
  have h5:=hB.le a ha
  rw [e1,eg] at h5
  have heq:s.tg b=s.tg s.w[bestI s.tg s.w]:=zO
  have hok:FI p ws k s:=hq.inv.ok
  have hbk:b=s.w[bestI s.tg s.w]:=by
   refine Nat.le_antisymm (h4.2 heq.symm) ?_
   rcases Nat.lt_or_ge a (bestI s.tg s.w) with h6|h6
   ·have:=hB.first a h6
    rw [e1,eg] at this
    omega
   ·rcases Nat.eq_or_lt_of_le h6 with h7|h7
    ·subst ea
     simp only [h7];exact zD _
    ·have:=List.pairwise_iff_getElem.1 hok.asc _ _ hBl ha h7
     omega
  have hfb:xw s=b:=by unfold xw;rw [eg,<-hbk]
  have hpk:(fairM p ws).pick s=some (b,{s with w:=s.w.eraseIdx (bestI s.tg s.w),v:=s.tg b}):=by
   show ad6 s=_
   unfold ad6
   rw [z6 hne,hfb]
  exact ⟨b,_,e,hbl,h1,hst hq.agB hpk⟩
end
theorem ayK {z q:Int} (h:q ∣ 12):z*12 / q=z*(12 / q):=Int.mul_ediv_assoc z h
theorem alW {d P:Nat->Bool} (m k:Nat) (h:∀j,k<=j->j<k+m->d j=false->P j=false):aqN d P m k=false:=by
 induction m generalizing k with
 |zero=>rfl
 |succ m ih=>
  show (!d k&&P k||aqN d P m (k+1))=false
  rw [ih (k+1) λj h1 h2=>h j zO zO,Bool.or_false]
  cases hd:d k
  ·rw [h k (zD _) zO hd];rfl
  ·rfl
theorem ae0 {n:Nat} {d P:Nat->Bool} (h:∀j,j<n->d j=false->P j=false):oth n d P=false:=alW n 0 λj _ h2=>h j zO
def ab7 {σ:Type} (M:Pol σ) (p:List Pk):Prop:=∀m s k s',m<=p.length->M.ok m s->M.pick s=some (k,s')->∀j∈M.wait s,j<k->fOf p j≠fOf p k
def lastT (l:List Sn):Int:=l.foldl (λ_ x=>x.t) 0
theorem ae6 (l:List Sn) (x:Sn):lastT (l++[x])=x.t:=by simp [lastT]
theorem axL (out:List Sn) (x:Sn) (hx:0<=x.p):a1O (dnB out) x.p.toNat=dnB (out++[x]):=by
 funext j
 unfold a1O
 rw [aeA]
 congr 1
 rw [Bool.eq_iff_iff,beq_iff_eq,beq_iff_eq]
 omega
structure AJ (p:List Pk) (per:Int) {σ:Type} (t:St σ):Prop where
 go:∀r,aeG p per (λ_=>false) 0 (t.out++r) 0=aeG p per (dnB t.out) (lastT t.out) r t.out.length
 le:lastT t.out<=t.now
 idle:t.now=lastT t.out\/∀j,j<p.length->dnB t.out j=false->t.now<=aOf p j
 cm:∀j,j<t.next->aOf p j<=t.now
section
variable {σ:Type} {M:Pol σ} {p:List Pk} {per:Int}
theorem ax3 (hM:wL M p.length) (hT:ab7 M p) (hp:∀x∈p,zg x) (hs:p.Pairwise (λx y=>x.a<=y.a)) (h0:1<=per) (t:St σ) (h:Inv M p t) (hlt:t.out.length<p.length) (hj:AJ p per t):AJ p per (yG M p per t):=by
 have hcm:=ac2 hM hp hs h0 h hlt hj.cm
 have hwt:=acG hM hs h hj.cm
 have hall:=jZ hM hs h hj.cm
 obtain ⟨hc,hlt2⟩:=yF hM t.now (p.drop t.next) t.next t.s rfl h.toC
 obtain ⟨q,hq⟩:∃q,q=comeL M t.now (p.drop t.next) t.next t.s:=⟨_,rfl⟩
 rw [<-hq] at hwt hall hc hlt2
 cases hpk:M.pick q.2 with
 |none=>
  have e:=uQ (M:=M) (p:=p) (per:=per) (t:=t) (k:=q.1) (s:=q.2) hq.symm hpk
  have hid:=hc.idle hM hpk
  have hkl:q.1<p.length:=zO
  have hnow:=hlt2 hkl
  have hw:=hM.w_none _ _ hc.ok hpk
  rw [e] at hcm ⊢
  refine ⟨hj.go,by have:=hj.le;show lastT t.out<=aOf p q.1;omega,.inr λj hjl hd=>?_,hcm⟩
  show aOf p q.1<=aOf p j
  refine uL hs (Nat.not_lt.1 λh9=>?_) hjl
  have h8:=(hwt j hjl).2 ⟨hd,(hall j hjl).1 h9⟩
  rw [hw] at h8
  cases h8
 |some ks=>
  obtain ⟨k,s'⟩:=ks
  have e:=vS (M:=M) (p:=p) (per:=per) (t:=t) (k:=q.1) (s:=q.2) hq.symm hpk
  have hk:k<q.1:=hc.aa6 hM hpk
  have hkl:k<p.length:=zAG hk hc.k_le
  have hkw:k∈M.wait q.2:=(hM.w_some _ _ _ _ hc.ok hpk).mem_iff.2 zAD
  obtain ⟨hd,ha⟩:=(hwt k hkl).1 hkw
  have hau:aiC p per (dnB t.out) (lastT t.out) ⟨k,t.now,t.now+per*sOf p k⟩=0:=by
   unfold aiC
   have hle:=hj.le
   simp only [zAX]
   rw [z6 (by rw [hd];simp;omega),z6 zO,z6 zA1,z6 ?_,z6 ?_]
   ·rw [ae0 (λj hjl hdj=>?_)]
    ·simp
    ·by_cases hjk:j<k
     ·have hw:j∈M.wait q.2:=(hwt j hjl).2 ⟨hdj,by have:=uL hs (Nat.le_of_lt hjk) hkl;omega⟩
      have:=hT _ _ _ _ hc.k_le hc.ok hpk j hw hjk
      unfold avM
      rw [zAH this,Bool.and_false]
     ·rw [zAH hjk,Bool.false_and]
   ·rintro ⟨h1,h2⟩
    rcases hj.idle with h3|h3
    ·omega
    ·rw [ae0 (λj hjl hdj=>zAH (by have:=h3 j hjl hdj;omega))] at h2
     cases h2
  rw [e] at hcm ⊢
  refine ⟨λr=>?_,?_,.inl ?_,hcm⟩
  ·show aeG p per _ 0 ((t.out++[_])++r) 0=aeG p per (dnB (t.out++[_])) (lastT (t.out++[_])) r (t.out++[_]).length
   rw [zAi,hj.go,List.singleton_append,aeG,z6 (by rw [hau];simp),axL _ _ (zAf k),ae6,zAP]
   rfl
  ·show lastT (t.out++[_])<=_
   rw [ae6]
   exact zAV _
  ·show _=lastT (t.out++[_])
   rw [ae6]
theorem afV {s0:σ} (hM:wL M p.length) (hT:ab7 M p) (hp:∀x∈p,zg x) (hs:p.Pairwise (λx y=>x.a<=y.a)) (h0:1<=per) (h1:per<=1000) (hw0:M.wait s0=[]) (ho:M.ok 0 s0):
 aeG p per (λ_=>false) 0 (serveS M p per s0).out 0=(0,-1):=by
 have hJ:=acA hM hp h0 h1 (AJ p per) (λt x y z=>ax3 hM hT hp hs h0 t x y z) (2*p.length+1) _ (wh p hw0 ho)
  ⟨λr=>by show aeG p per _ 0 ([]++r) 0=aeG p per (dnB []) (lastT []) r 0;rfl,zAV _,.inl rfl,λj hj=>zAv hj (Nat.not_lt_zero _)⟩
 obtain ⟨hi,hl⟩:=adI hM hp h0 h1 (2*p.length+1) _ (wh p hw0 ho) (uI p _) (zAK _)
 have h9:=hJ.go []
 rw [zAo] at h9
 show aeG p per _ 0 (runS M p per (2*p.length+1) ⟨[],0,0,s0⟩).out 0=_
 rw [h9]
 have hcnt:=hi.toC.cnt
 have hnl:=hi.next_le
 have hw:M.wait (runS M p per (2*p.length+1) ⟨[],0,0,s0⟩).s=[]:=zAm zO
 have hpm:=hi.perm
 rw [hw,zAo] at hpm
 rw [aeG,z6]
 rw [ae0 (λj hjl hd=>?_)]
 ·simp
 ·exfalso
  have h8:=(hpm.mem_iff (a:=j)).2 (List.mem_range.2 zO)
  obtain ⟨y,hy,e⟩:=zAT.1 h8
  have:=hi.pos y hy
  exact aaJ.1 hd y hy zO
end
theorem at0 (p:List Pk):ab7 fifoM p:=λm s k s' _ ⟨h1,h2⟩ hk j hj hlt=>by
 simp only [fifoM] at hk hj
 split at hk
 ·cases hk
 ·simp only [zAC,Prod.mk.injEq] at hk
  have:=(List.mem_range'_1.1 hj).1
  omega
theorem ahK {p:List Pk} {key:Nat->Int} (hk:∀i j,i<j->j<p.length->fOf p i=fOf p j->key i<=key j):ab7 (leastM key) p:=λm s k s' hm ⟨h1,h2⟩ hpk j hj hlt hf=>by
 simp only [leastM] at hpk hj
 split at hpk
 ·cases hpk
 ·rename_i hne
  simp only [zAC,Prod.mk.injEq] at hpk
  have hB:=aa1 key s zO
  have hBl:=hB.lt
  have eg:s.getD (bestI key s) 0=s[bestI key s]:=by simp [List.getD,hBl]
  rw [eg] at hpk
  obtain ⟨a,ha,ea⟩:=List.getElem_of_mem hj
  have e1:s.getD a 0=j:=by simp [List.getD,ha,ea]
  have hab:a<bestI key s:=by
   refine Nat.not_le.1 λh9=>?_
   rcases Nat.eq_or_lt_of_le h9 with h7|h7
   ·have:s[bestI key s]=j:=by rw [<-ea];simp only [h7]
    omega
   ·have:=List.pairwise_iff_getElem.1 h2 _ _ hBl ha h7
    omega
  have h5:=hB.first a hab
  rw [e1,eg,hpk.1] at h5
  have hkm:k<m:=by rw [<-hpk.1];exact h1 _ (zd hBl)
  have:=hk j k hlt zO hf
  omega
theorem an4 {p:List Pk} {qs:List Int} (hp:∀x∈p,zg x) (hq:∀g,0<=qu qs g) (f:Nat) (s:RS) (m k:Nat) (s':RS) (h:RI p qs m s) (hk:wF p qs f s=some (k,s')):∃g,s.q g=k::(s.q g).tail:=by
 induction f generalizing s with
 |zero=>cases hk
 |succ f ih=>
  unfold wF at hk
  split at hk
  ·cases hk
  ·rename_i g s1 ht
   obtain ⟨h1,h2,h3,h4,h5,_⟩:=h.turn hq ht
   split at hk
   ·rename_i hc
    simp only [zAC,Prod.mk.injEq] at hk
    obtain ⟨e1,_⟩:=hk
    have h6:=jV (s:=s1) (g:=g) (by rw [h3];exact h5)
    rw [e1,h3] at h6
    exact ⟨g,h6⟩
   ·rename_i hc
    obtain ⟨h6,_⟩:=h1.agB h2 hc
    obtain ⟨g',h7⟩:=ih (rEnd s1 g) h6 hk
    have e:(rEnd s1 g).q=s.q:=by show s1.q=s.q;exact h3
    rw [e] at h7
    exact ⟨g',h7⟩
theorem an3 {p:List Pk} {qs:List Int} (hp:∀x∈p,zg x) (hq:∀g,0<=qu qs g):ab7 (yn p qs) p:=λm s k s' _ hok hpk j hj hlt hf=>by
 have h:RI p qs m s:=hok
 obtain ⟨g,hg⟩:=an4 hp hq _ s m k s' h hpk
 obtain ⟨g',_,hj'⟩:=List.mem_flatMap.1 (show j∈wX s from hj)
 have h1:=(h.fl g' j hj').2
 have h2:=(h.fl g k (by rw [hg];exact zAD)).2
 have h3:g'=g:=by rw [<-h1,<-h2];unfold flN;rw [hf]
 subst h3
 have hso:=h.so g'
 rw [hg] at hso hj'
 rcases zAM.1 hj' with h4|h4
 ·omega
 ·have:=(zAd.1 hso).1 j h4
  omega
theorem auB {p:List Pk} {ws:List Int} (hp:∀x∈p,zg x) (hw:wOk ws):ab7 (fairM p ws) p:=λm s k s' _ hok hpk j hj hlt hf=>by
 have h:FI p ws m s:=hok
 obtain ⟨h0,hkb,_⟩:=ah2 (show ad6 s=some (k,s') from hpk)
 obtain ⟨w1,w2,e1,e2,e3,e4⟩:=amR h0
 have hh:=ah3 hp hw h e1 e3
 rw [<-hkb] at hh e1
 have hj1:j∈s.w:=hj
 have hasc:=h.asc
 rw [e1] at hj1 hasc
 rcases zAQ.1 hj1 with h4|h4
 ·have h5:j∈fQ p (flN p k) w1:=afA.2 ⟨h4,by unfold flN;rw [hf]⟩
  rw [hh] at h5
  cases h5
 ·rcases zAM.1 h4 with h5|h5
  ·omega
  ·have:=(zAd.1 (List.pairwise_append.1 hasc).2.1).1 j h5
   omega
end Go.Proofs.YtoomffajodheaaaGreatDoor
