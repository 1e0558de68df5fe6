/- The proof of ScriptPlays, part PkM. Conditions: in each statement. -/
import Derived.Test.YtoomffajodheaaaGreatDoorZBaseM
import Derived.WalkLawsBesides
import Derived.WalkSpells
import Derived.BigQuiet
set_option linter.all false
namespace Go.Proofs.YtoomffajodheaaaGreatDoor
open Go.RowKit
set_option maxRecDepth 100000
theorem zCE{p:Prop}(h:p:=by rw [e1];have:=hok.2.2.1;omega):p:=h
theorem zCO{p:Prop}(h:p:=by rw [hbad];exact (zp Hx.o).trans (zp hlast)):p:=h
theorem zCP{p:Prop}(h:p:=by rw [hbad];exact (zp Hx.o).trans (z6 hlast)):p:=h
theorem zCq{p:Prop}(h:p:=by rw [hbad];exact z6 hx):p:=h
theorem zCy{p:Prop}(h:p:=by rw [Hc.o]):p:=h
theorem zEz{p:Prop}(h:p:=by
 have:=zAu List.length hr
 simp at this
 omega):p:=h
theorem RdP.get {w:World} {B:Nat} {A:Option Addr} {l:List Pk} (h:RdP w B A l) {i:Nat} (hi:i<l.length):
 ∃b o,A=some ⟨b,o,none⟩/\b<B/\w.cell? ⟨b,o+i*3,none⟩=some (.int .i64 l[i].f)/\w.cell? ⟨b,o+i*3+1,none⟩=some (.int .i64 l[i].s)/\w.cell? ⟨b,o+i*3+2,none⟩=some (.int .i64 l[i].a):=by
 obtain ⟨b,o,e,hb,hc⟩:=h.at_ hi
 exact ⟨b,o,e,hb,hc 0 _ rfl,hc 1 _ rfl,hc 2 _ rfl⟩
def zg (x:Pk):Prop:=0<=x.f/\x.f<8/\1<=x.s/\x.s<=1500/\0<=x.a/\x.a<=1099511627776
instance (x:Pk):Decidable (zg x):=by unfold zg;infer_instance
def yO:List Pk->Int->Nat->Nat × Int
 |[],_,_=>(0,-1)
 |x::r,last,k=>if zg x then (if x.a<last then (5,(k:Int)) else yO r x.a (k+1)) else (2,(k:Int))
def qj (l:List Pk):Nat × Int:=if 300<l.length then (2,-1) else yO l 0 0
set_option maxHeartbeats 1000000 in
theorem vk (A:Option Addr) (c:Nat) (l:List Pk) (S:Nat->Addr) (w:World) (B:Nat) (hB:B<=w.heap.size) (h:RdP w B A l) (hS:Snt w B S [2,5]) (hl:l.length<=9223372036854775807):
 Calls Tryz.prog 97 #[.slice A l.length c] w (aiH S (qj l).1 (qj l).2 w):=by
 by_cases h1:300<l.length
 ·have g2:w.cell? ⟨G 2,0,none⟩=some (sv S 2):=(hS 2 zA1).2.2
  simp only [G,sv] at g2
  have Hf:=zM (qj l=(2,-1)) (zp h1)
  go_enter Tryz.func97,Tryz.ntmps97
  go_wp2
  go_ret
  rw [Hf.o]
  exact ⟨_,rfl,.bare 2 zO zO,zAA _ _⟩
 ·have Hf:=zM (qj l=yO l 0 0) (z6 h1)
  have h2:l.length<=300:=zO
  clear h1
  go_enter Tryz.func97,Tryz.ntmps97
  go_wp2
  go_loopw [3,12] (λt i wr=>∃(k:Nat) (m:Int),k<=l.length/\i=.int .i64 k/\t=.int .i64 m/\qj l=yO (l.drop k) m k/\Below w.heap.size w wr) (λ_ i _=>l.length - (intOf i).toNat)
  case atStart=>exact ⟨0,0,zAK _,rfl,rfl,Hf.o,zAA _ _⟩
  case round=>
   obtain ⟨k,m,hk,rfl,rfl,hbad,hbw⟩:=hrel
   clear Hf
   by_cases hlt:k<l.length
   ·obtain ⟨b,o,rfl,hb,d0,d1,d2⟩:=RdP.get (h.below (hbw.mono hB)) hlt
    have hd:l.drop k=l[k]::l.drop (k+1):=zAE hlt
    rw [hd] at hbad
    have g2:wr.cell? ⟨G 2,0,none⟩=some (sv S 2):=((hS.below (hbw.mono hB)) 2 zA1).2.2
    have g5:wr.cell? ⟨G 5,0,none⟩=some (sv S 5):=((hS.below (hbw.mono hB)) 5 zA1).2.2
    have l2:=zAU wr _ g2
    have l5:=zAU wr _ g5
    simp only [G,sv] at g2 g5 l2 l5
    have hz:=hbw.size
    by_cases hx:zg l[k]
    ·have Hx:=zL hx
     obtain ⟨x1,x2,x3,x4,x5,x6⟩:=hx
     by_cases hlast:l[k].a<m
     ·have Hb:=zM (qj l=(5,(k:Int))) zCO
      clear hbad hd
      go_wp2
      go_ret
      rw [Hb.o]
      exact ⟨_,rfl,.fault 5 zO zO _ _ zA1 (qN _ _ _),(hbw.alloc hz _).alloc zA7 _⟩
     ·have Hb:=zM (qj l=yO (l.drop (k+1)) l[k].a (k+1)) zCP
      clear hbad hd
      have hlast':m<=l[k].a:=zO
      clear hlast
      go_wp2
      go_roundw
      case rel=>exact ⟨k+1,_,by omega,by go_num,rfl,Hb.o,hbw.alloc hz _⟩
      case measure=>simp [intOf];omega
    ·have Hb:=zM (qj l=(2,(k:Int))) zCq
     clear hbad hd
     have hx':l[k].f<0\/(0<=l[k].f/\8<=l[k].f)\/(0<=l[k].f/\l[k].f<8/\l[k].s<1)\/(0<=l[k].f/\l[k].f<8/\1<=l[k].s/\1500<l[k].s)\/(0<=l[k].f/\l[k].f<8/\1<=l[k].s/\l[k].s<=1500/\l[k].a<0)\/(0<=l[k].f/\l[k].f<8/\1<=l[k].s/\l[k].s<=1500/\0<=l[k].a/\1099511627776<l[k].a):=by
            unfold zg at hx
            omega
     clear hx
     rcases hx' with x1|⟨x1,x2⟩|⟨x1,x2,x3⟩|⟨x1,x2,x3,x4⟩|⟨x1,x2,x3,x4,x5⟩|⟨x1,x2,x3,x4,x5,x6⟩
     all_goals
            go_wp2
            go_ret
            rw [Hb.o]
            exact ⟨_,rfl,.fault 2 zO zO _ _ zA1 (qN _ _ _),(hbw.alloc hz _).alloc zA7 _⟩
   ·rw [zAO zO] at hbad
    have Hb:=zL hbad
    clear hbad
    go_wp2
    go_ret
    rw [Hb.o]
    exact ⟨_,rfl,.nil,hbw⟩
def qm (l:List Pk) (per:Int):Nat × Int:=if (qj l).1≠0 then qj l else if per<1\/1000<per then (2,-1) else (0,-1)
theorem aoM {l:List Pk} {m:Int} {k:Nat} (h:(yO l m k).1=0):(yO l m k).2=-1:=by
 induction l generalizing m k with
 |nil=>rfl
 |cons x r ih=>
  unfold yO at h ⊢
  split at h
  ·rename_i h1
   rw [zp h1]
   split at h
   ·simp at h
   ·rename_i h2
    rw [z6 h2]
    exact ih h
  ·simp at h
theorem uU {l:List Pk} (h:(qj l).1=0):qj l=(0,-1):=by
 unfold qj at h ⊢
 by_cases h1:300<l.length
 ·rw [zp h1] at h;simp at h
 ·rw [z6 h1] at h ⊢
  exact Prod.ext h (aoM h)
theorem alR {l:List Pk} {m:Int} {k:Nat} (h:(yO l m k).1=0):∀x∈l,zg x:=by
 induction l generalizing m k with
 |nil=>simp
 |cons x r ih=>
  unfold yO at h
  split at h
  ·rename_i h1
   split at h
   ·simp at h
   ·intro y hy
    rcases zAM.1 hy with rfl|hy
    ·exact h1
    ·exact ih h y hy
  ·simp at h
theorem xC {l:List Pk} (h:(qj l).1=0):∀x∈l,zg x:=by
 unfold qj at h
 by_cases h1:300<l.length
 ·rw [zp h1] at h;simp at h
 ·rw [z6 h1] at h;exact alR h
set_option maxHeartbeats 400000 in
theorem xK (A:Option Addr) (c:Nat) (l:List Pk) (per:Int) (S:Nat->Addr) (w:World) (B:Nat) (hB:B<=w.heap.size) (h:RdP w B A l) (hS:Snt w B S [2,5]) (hl:l.length<=9223372036854775807):
 Calls Tryz.prog 170 #[.slice A l.length c,.int .i64 per] w (aiH S (qm l per).1 (qm l per).2 w):=by
 by_cases h1:(qj l).1=0
 ·have Hc:=zL (uU h1)
  clear h1
  by_cases h2:per<1\/1000<per
  ·have Hf:=zM (qm l per=(2,-1)) (by unfold qm;rw [Hc.o];exact zp h2)
   have h3:per<1\/(1<=per/\1000<per):=zO
   clear h2
   have G2:=zM (∀w1,Below w.heap.size w w1->w1.cell? ⟨G 2,0,none⟩=some (sv S 2)) (λw1 hb1=>((hS.below (hb1.mono hB)) 2 zA1).2.2)
   rcases h3 with h3|⟨h3,h4⟩
   all_goals
    go_enter Tryz.func170,Tryz.ntmps170
    go_wp2_with (go_at_call 97;refine (vk A c l S _ B hB h hS hl).mono ?_;rintro e w1 ⟨v,rfl,hv,hb1⟩;have g2:=G2.o w1 hb1;simp only [G,sv] at g2;obtain rfl:=hv.qK zCy)
    go_ret
    rw [Hf.o]
    exact ⟨_,rfl,.bare 2 zO zO,hb1⟩
  ·have Hf:=zM (qm l per=(0,-1)) (by unfold qm;rw [Hc.o];exact z6 h2)
   have h3:1<=per:=zO
   have h4:per<=1000:=zO
   clear h2
   go_enter Tryz.func170,Tryz.ntmps170
   go_wp2_with (go_at_call 97;refine (vk A c l S _ B hB h hS hl).mono ?_;rintro e w1 ⟨v,rfl,hv,hb1⟩;obtain rfl:=hv.qK zCy)
   go_ret
   rw [Hf.o]
   exact ⟨_,rfl,.nil,hb1⟩
 ·have Hf:=zM (qm l per=qj l) (zp h1)
  have H1:=zL h1
  clear h1
  go_enter Tryz.func170,Tryz.ntmps170
  go_wp2_with (go_at_call 97;refine (vk A c l S _ B hB h hS hl).mono ?_;rintro e w1 ⟨v,rfl,hv,hb1⟩;obtain ⟨T,a,rfl⟩:=hv.qW H1.o)
  go_ret
  rw [Hf.o]
  exact ⟨_,rfl,hv,hb1⟩
structure Pol (σ:Type) where
 come:σ->Nat->σ
 pick:σ->Option (Nat × σ)
 rest:σ->σ
 wait:σ->List Nat
 ok:Nat->σ->Prop
structure wL {σ:Type} (M:Pol σ) (n:Nat):Prop where
 ok_come:∀s k,M.ok k s->k<n->M.ok (k+1) (M.come s k)
 ok_pick:∀s m k s',M.ok m s->M.pick s=some (k,s')->M.ok m s'
 ok_rest:∀s m,M.ok m s->M.wait s=[]->M.ok m (M.rest s)
 w_come:∀s k,M.ok k s->k<n->(M.wait (M.come s k)).Perm (k::M.wait s)
 w_none:∀s m,M.ok m s->M.pick s=none->M.wait s=[]
 w_some:∀s m k s',M.ok m s->M.pick s=some (k,s')->(M.wait s).Perm (k::M.wait s')
 w_rest:∀s m,M.ok m s->M.wait s=[]->M.wait (M.rest s)=[]
def aOf (p:List Pk) (k:Nat):Int:=(p.getD k ⟨0,0,0⟩).a
def sOf (p:List Pk) (k:Nat):Int:=(p.getD k ⟨0,0,0⟩).s
def fOf (p:List Pk) (k:Nat):Int:=(p.getD k ⟨0,0,0⟩).f
theorem ad1 {p:List Pk} {k:Nat} (h:k<p.length):p.getD k ⟨0,0,0⟩=p[k]:=by simp [List.getD,h]
theorem zy {p:List Pk} {k:Nat} (h:k<p.length):aOf p k=p[k].a:=by unfold aOf;rw [ad1 h]
theorem yA {p:List Pk} {k:Nat} (h:k<p.length):sOf p k=p[k].s:=by unfold sOf;rw [ad1 h]
theorem vR {p:List Pk} {k:Nat} (h:k<p.length):fOf p k=p[k].f:=by unfold fOf;rw [ad1 h]
def comeL {σ:Type} (M:Pol σ) (now:Int):List Pk->Nat->σ->Nat × σ
 |[],k,s=>(k,s)
 |x::r,k,s=>if x.a<=now then comeL M now r (k+1) (M.come s k) else (k,s)
structure St (σ:Type) where
 out:List Sn
 now:Int
 next:Nat
 s:σ
def yG {σ:Type} (M:Pol σ) (p:List Pk) (per:Int) (t:St σ):St σ:=
 match M.pick (comeL M t.now (p.drop t.next) t.next t.s).2 with
 |none=>{out:=t.out,now:=aOf p (comeL M t.now (p.drop t.next) t.next t.s).1,next:=(comeL M t.now (p.drop t.next) t.next t.s).1,s:=M.rest (comeL M t.now (p.drop t.next) t.next t.s).2}
 |some (k,s')=>{out:=t.out++[⟨k,t.now,t.now+per*sOf p k⟩],now:=t.now+per*sOf p k,next:=(comeL M t.now (p.drop t.next) t.next t.s).1,s:=s'}
def runS {σ:Type} (M:Pol σ) (p:List Pk) (per:Int):Nat->St σ->St σ
 |0,t=>t
 |f+1,t=>if t.out.length<p.length then runS M p per f (yG M p per t) else t
def serveS {σ:Type} (M:Pol σ) (p:List Pk) (per:Int) (s0:σ):St σ:=runS M p per (2*p.length+1) ⟨[],0,0,s0⟩
structure Inv {σ:Type} (M:Pol σ) (p:List Pk) (t:St σ):Prop where
 next_le:t.next<=p.length
 perm:((t.out.map λx=>x.p.toNat)++M.wait t.s).Perm (List.range t.next)
 pos:∀x∈t.out,0<=x.p
 now0:0<=t.now
 now1:t.now<=1099511627776+1500000*t.out.length
 ok:M.ok t.next t.s
def muV (p:List Pk) (n:Nat) (now:Int):Nat:=2*(p.length - n)+if now<aOf p n then 1 else 0
def mu {σ:Type} (p:List Pk) (t:St σ):Nat:=muV p t.out.length t.now
structure abO {σ:Type} (M:Pol σ) (p:List Pk) (out:List Sn) (k:Nat) (s:σ):Prop where
 k_le:k<=p.length
 perm:((out.map λx=>x.p.toNat)++M.wait s).Perm (List.range k)
 ok:M.ok k s
theorem abO.ab8 {σ:Type} {M:Pol σ} {p:List Pk} {out:List Sn} {k:Nat} {s:σ} (h:abO M p out k s) {j:Nat} (hj:j∈M.wait s):j<k:=
 List.mem_range.1 (h.perm.mem_iff.1 (List.mem_append_right _ hj))
theorem abO.come {σ:Type} {M:Pol σ} {p:List Pk} {out:List Sn} {k:Nat} {s:σ} (hM:wL M p.length) (h:abO M p out k s) (hk:k<p.length):abO M p out (k+1) (M.come s k):=by
 refine ⟨hk,?_,hM.ok_come s k h.ok hk⟩
 rw [List.range_succ]
 refine ((hM.w_come s k h.ok hk).append_left _).trans ?_
 refine (List.perm_middle).trans ?_
 exact (List.Perm.cons k h.perm).trans (List.perm_append_comm (l₁:=[k]))
theorem yF {σ:Type} {M:Pol σ} {p:List Pk} (hM:wL M p.length) {out:List Sn} (now:Int) (r:List Pk) (k:Nat) (s:σ) (hr:p.drop k=r) (h:abO M p out k s):
 abO M p out (comeL M now r k s).1 (comeL M now r k s).2/\((comeL M now r k s).1<p.length->now<aOf p (comeL M now r k s).1):=by
 induction r generalizing k s with
 |nil=>
  have:p.length<=k:=by have:=zAu List.length hr;simp at this;omega
  exact ⟨h,λh2=>zAv h2 (by simp only [comeL];omega)⟩
 |cons x r ih=>
  have hk:k<p.length:=zEz
  have hd:=zAE hk
  rw [hr] at hd
  injection hd with hx hr'
  unfold comeL
  by_cases hc:x.a<=now
  ·rw [zp hc]
   exact ih (k+1) (M.come s k) hr'.symm (h.come hM hk)
  ·rw [z6 hc]
   refine ⟨h,λ_=>?_⟩
   rw [zy hk,<-hx]
   omega
theorem Inv.toC {σ:Type} {M:Pol σ} {p:List Pk} {t:St σ} (h:Inv M p t):abO M p t.out t.next t.s:=⟨h.next_le,h.perm,h.ok⟩
theorem abO.cnt {σ:Type} {M:Pol σ} {p:List Pk} {out:List Sn} {k:Nat} {s:σ} (h:abO M p out k s):out.length+(M.wait s).length=k:=by
 have:=h.perm.length_eq
 simpa using this
theorem abO.aa6 {σ:Type} {M:Pol σ} {p:List Pk} (hM:wL M p.length) {out:List Sn} {k:Nat} {s:σ} (h:abO M p out k s) {j:Nat} {s':σ} (hp:M.pick s=some (j,s')):j<k:=
 h.ab8 ((hM.w_some s _ j s' h.ok hp).mem_iff.2 zAD)
theorem abO.idle {σ:Type} {M:Pol σ} {p:List Pk} (hM:wL M p.length) {out:List Sn} {k:Nat} {s:σ} (h:abO M p out k s) (hp:M.pick s=none):out.length=k:=by
 have h1:=h.cnt
 rw [hM.w_none s _ h.ok hp] at h1
 simpa using h1
theorem kF {σ:Type} {M:Pol σ} {p:List Pk} {per:Int} (hM:wL M p.length) (hp:∀x∈p,zg x) (h0:1<=per) (h1:per<=1000) {t:St σ} (h:Inv M p t) (hl:t.out.length<p.length):
 Inv M p (yG M p per t)/\mu p (yG M p per t)<mu p t:=by
 obtain ⟨hc,hlt⟩:=yF hM t.now (p.drop t.next) t.next t.s rfl h.toC
 unfold yG
 generalize comeL M t.now (p.drop t.next) t.next t.s=q at hc hlt
 cases hpk:M.pick q.2 with
 |none=>
  have hid:=hc.idle hM hpk
  have hq:q.1<p.length:=zO
  have hw:=hM.w_none _ _ hc.ok hpk
  have hok:=hp _ (zd hq)
  have ha:=hlt hq
  refine ⟨⟨hc.k_le,?_,h.pos,?_,?_,hM.ok_rest _ _ hc.ok hw⟩,?_⟩
  ·rw [hM.w_rest _ _ hc.ok hw,<-hw];exact hc.perm
  ·show 0<=aOf p q.1
   rw [zy hq];exact hok.2.2.2.2.1
  ·show aOf p q.1<=_
   rw [zy hq];have:=hok.2.2.2.2.2;simp only;omega
  ·unfold mu muV
   simp only
   rw [hid,z6 zO,zp ha]
   omega
 |some ks=>
  obtain ⟨k,s'⟩:=ks
  have hk:k<q.1:=hc.aa6 hM hpk
  have hkl:k<p.length:=zAG hk hc.k_le
  have hok:=hp _ (zd hkl)
  have e1:=yA hkl
  have m1:0<=per*sOf p k:=zAY zO zCE
  have m2:per*sOf p k<=1500000:=by
   have:=Int.mul_le_mul h1 (by rw [e1];exact hok.2.2.2.1:sOf p k<=1500) zCE (by omega:(0:Int)<=1000)
   omega
  have n0:=h.now0
  have n1:=h.now1
  refine ⟨⟨hc.k_le,?_,?_,?_,?_,hM.ok_pick _ _ _ _ hc.ok hpk⟩,?_⟩
  ·have hperm:=hc.perm
   have hw:=hM.w_some _ _ _ _ hc.ok hpk
   simp only [List.map_append,List.map_cons,List.map_nil,zAX]
   rw [zAi]
   exact ((hw.symm).append_left _).trans hperm
  ·intro x hx
   rcases zAQ.1 hx with hx|hx
   ·exact h.pos x hx
   ·rw [zAW.1 hx];exact zAf _
  ·simp only;omega
  ·simp only [zAP,zAL,zAg];omega
  ·unfold mu muV
   simp only [zAP,zAL,zAg]
   split<;>split<;>omega
theorem afE {σ:Type} (M:Pol σ) (p:List Pk) (now:Int) (k:Nat) (s:σ) (h:k<p.length->now<aOf p k):comeL M now (p.drop k) k s=(k,s):=by
 by_cases hk:k<p.length
 ·rw [zAE hk]
  unfold comeL
  have:=h hk
  rw [zy hk] at this
  rw [z6 zO]
 ·rw [zAO zO]
  rfl
theorem uQ {σ:Type} {M:Pol σ} {p:List Pk} {per:Int} {t:St σ} {k:Nat} {s:σ} (hq:comeL M t.now (p.drop t.next) t.next t.s=(k,s)) (hp:M.pick s=none):yG M p per t=⟨t.out,aOf p k,k,M.rest s⟩:=by
 unfold yG
 rw [hq,hp]
theorem vS {σ:Type} {M:Pol σ} {p:List Pk} {per:Int} {t:St σ} {k j:Nat} {s s':σ} (hq:comeL M t.now (p.drop t.next) t.next t.s=(k,s)) (hp:M.pick s=some (j,s')):
 yG M p per t=⟨t.out++[⟨j,t.now,t.now+per*sOf p j⟩],t.now+per*sOf p j,k,s'⟩:=by
 unfold yG
 rw [hq,hp]
theorem wh {σ:Type} {M:Pol σ} (p:List Pk) {s0:σ} (hw:M.wait s0=[]) (ho:M.ok 0 s0):Inv M p ⟨[],0,0,s0⟩:=
 ⟨zAK _,by simp [hw],by simp,zAV _,by simp,ho⟩
theorem uI {σ:Type} (p:List Pk) (s0:σ):mu p (⟨[],0,0,s0⟩:St σ)<=2*p.length+1:=by
 unfold mu muV
 simp only [zAg]
 split<;>omega
theorem acB {σ:Type} (M:Pol σ) (p:List Pk) (per:Int) (f:Nat) (t:St σ) (h:¬t.out.length<p.length):runS M p per f t=t:=by
 cases f with
 |zero=>rfl
 |succ f=>unfold runS;rw [z6 h]
theorem jU {σ:Type} (M:Pol σ) (p:List Pk) (per:Int) (f:Nat) (t:St σ) (h:t.out.length<p.length) (hf:mu p t<=f):runS M p per f t=runS M p per (f - 1) (yG M p per t):=by
 cases f with
 |zero=>unfold mu muV at hf;omega
 |succ f=>show (if _ then _ else _)=_;rw [zp h];rfl
theorem adI {σ:Type} {M:Pol σ} {p:List Pk} {per:Int} (hM:wL M p.length) (hp:∀x∈p,zg x) (h0:1<=per) (h1:per<=1000) (f:Nat) (t:St σ) (h:Inv M p t) (hf:mu p t<=f) (hl:t.out.length<=p.length):
 Inv M p (runS M p per f t)/\(runS M p per f t).out.length=p.length:=by
 induction f generalizing t with
 |zero=>
  unfold mu muV at hf
  refine ⟨h,?_⟩
  show t.out.length=_
  omega
 |succ f ih=>
  by_cases hlt:t.out.length<p.length
  ·obtain ⟨h2,h3⟩:=kF hM hp h0 h1 h hlt
   unfold runS
   rw [zp hlt]
   refine ih _ h2 zO ?_
   have hc:=h2.toC.cnt
   have:=h2.next_le
   omega
  ·unfold runS
   rw [z6 hlt]
   exact ⟨h,by omega⟩
theorem acA {σ:Type} {M:Pol σ} {p:List Pk} {per:Int} (hM:wL M p.length) (hp:∀x∈p,zg x) (h0:1<=per) (h1:per<=1000) (J:St σ->Prop) (hJ:∀t,Inv M p t->t.out.length<p.length->J t->J (yG M p per t)) (f:Nat) (t:St σ) (h:Inv M p t) (hj:J t):J (runS M p per f t):=by
 induction f generalizing t with
 |zero=>exact hj
 |succ f ih=>
  unfold runS
  by_cases hlt:t.out.length<p.length
  ·rw [zp hlt]
   exact ih _ (kF hM hp h0 h1 h hlt).1 (hJ t h hlt hj)
  ·rw [z6 hlt]
   exact hj
end Go.Proofs.YtoomffajodheaaaGreatDoor
