/- The proof of ScriptPlays, part ScPl. Conditions: in each statement. -/
import Derived.Test.YtoomffajodheaaaGreatDoorZKpM
set_option linter.all false
namespace Go.Proofs.YtoomffajodheaaaGreatDoor
set_option maxRecDepth 100000
theorem zEe{p:Prop}(h:p:=by
 repeat' split
 all_goals (first |exact h|simp [okC])):p:=h
theorem zFp{p:Prop}(h:p:=by
 rcases zAM.1 h9 with h9|h9
 ·exact hc h9.symm
 ·exact h h9):p:=h
def sp:List UInt8->List (List UInt8)
 |[]=>[[]]
 |c::r=>if c=32 then []::sp r else match sp r with
  |[]=>[[c]]
  |w::ws=>(c::w)::ws
theorem aqE (c:UInt8) (r:List UInt8):sp (c::r)=if c=32 then []::sp r else match sp r with
 |[]=>[[c]]
 |w::ws=>(c::w)::ws:=rfl
theorem sp_ne (s:List UInt8):sp s≠[]:=by
 cases s with
 |nil=>simp [sp]
 |cons c r=>
  unfold sp
  split
  ·simp
  ·split<;>simp
theorem aqD {a:List UInt8} (h:(32:UInt8) ∉ a):sp a=[a]:=by
 induction a with
 |nil=>rfl
 |cons c r ih=>
  have h1:c≠32:=λe=>h (by rw [e];exact zAD)
  unfold sp
  rw [z6 h1,ih (λe=>h (zAJ _ e))]
theorem avI {a:List UInt8} (b:List UInt8) (h:(32:UInt8) ∉ a):sp (a++32::b)=a::sp b:=by
 induction a with
 |nil=>rw [zAa,aqE,zp rfl]
 |cons c r ih=>
  have h1:c≠32:=λe=>h (by rw [e];exact zAD)
  rw [List.cons_append,aqE,z6 h1,ih (λe=>h (zAJ _ e))]
theorem sp_cases (s:List UInt8):(32:UInt8) ∉ s\/∃a b,s=a++32::b/\(32:UInt8) ∉ a:=by
 induction s with
 |nil=>left;simp
 |cons c r ih=>
  by_cases hc:c=32
  ·right;exact ⟨[],r,by rw [hc];rfl,by simp⟩
  ·rcases ih with h|⟨a,b,e,h⟩
   ·left
    intro h9
    exact zFp
   ·right
    refine ⟨c::a,b,by rw [e];rfl,λh9=>?_⟩
    exact zFp
theorem occ_one (s:List UInt8) (c:UInt8) (i:Nat):Lib.occAt s [c] i=true ↔ s[i]?=some c:=by
 unfold Lib.occAt
 have e:s[i]?=(s.drop i).head?:=by rw [List.head?_drop]
 rw [e]
 cases s.drop i with
 |nil=>simp [List.isPrefixOf]
 |cons x r=>
  have e2:[c].isPrefixOf (x::r)=(c==x&&true):=rfl
  rw [e2,Bool.and_true,List.head?_cons]
  constructor
  ·intro h;rw [beq_iff_eq.1 h]
  ·intro h
   injection h with h
   rw [h]
   exact beq_self_eq_true _
theorem aiU {s:List UInt8} (h:(32:UInt8) ∉ s):Lib.index s [32]=-1:=by
 refine Lib.index_none λj _=>?_
 rw [Bool.eq_false_iff]
 intro h9
 rw [occ_one] at h9
 exact h (List.mem_of_getElem? h9)
theorem awS {a:List UInt8} (b:List UInt8) (h:(32:UInt8) ∉ a):Lib.index (a++32::b) [32]=a.length:=by
 refine Lib.index_first zA1 ?_ λj hj=>?_
 ·rw [occ_one];simp
 ·rw [Bool.eq_false_iff]
  intro h9
  rw [occ_one,List.getElem?_append_left hj] at h9
  exact h (List.mem_of_getElem? h9)
theorem ar1:∀(n:Nat) (s:List UInt8),s.length<=n->Lib.splitK [32] 0 (Lib.count s [32]) s=sp s:=by
 intro n
 induction n with
 |zero=>
  intro s hs
  obtain rfl:s=[]:=List.length_eq_zero_iff.1 zO
  rfl
 |succ n ih=>
  intro s hs
  rcases sp_cases s with h|⟨a,b,rfl,h⟩
  ·rw [Lib.count_miss (aiU h),aqD h]
   rfl
  ·have hi:=awS b h
   have hd:(a++32::b).drop (a.length+[(32:UInt8)].length)=b:=by
    rw [List.drop_append]
    simp
   rw [Lib.count_hit zA1 hi,hd,Nat.add_comm,avI b h]
   unfold Lib.splitK
   rw [z6 (by rw [hi,beq_iff_eq];omega),hi,zAX,hd,ih b (by simp at hs;omega)]
   simp
def spJ (w:List UInt8) (ws:List (List UInt8)):List UInt8:=w++ws.flatMap (λx=>32::x)
theorem ayS {w:List UInt8} {ws:List (List UInt8)} (hw:(32:UInt8) ∉ w) (hws:∀x∈ws,(32:UInt8) ∉ x):sp (spJ w ws)=w::ws:=by
 induction ws generalizing w with
 |nil=>unfold spJ;rw [List.flatMap_nil,zAo];exact aqD hw
 |cons y ys ih=>
  have e:spJ w (y::ys)=w++32::spJ y ys:=by unfold spJ;simp
  rw [e,avI _ hw,ih (hws y zAD) λx hx=>hws x (zAJ _ hx)]
theorem avJ (w:List UInt8) (ws:List (List UInt8)) (x:List UInt8):spJ w (ws++[x])=spJ w ws++32::x:=by
 unfold spJ
 simp
def numW (s:List UInt8):Option Int:=match Lib.atoiAll s with
 |.ok n=>if s.length<=7/\0<=n/\Lib.itoa n=s then some n else none
 |_=>none
theorem asZ {s:List UInt8} {n:Int} (h:numW s=some n):Lib.atoiAll s=.ok n/\s.length<=7/\0<=n/\Lib.itoa n=s:=by
 unfold numW at h
 split at h
 ·rename_i v hv
  split at h
  ·rename_i h2
   injection h with h
   subst h
   exact ⟨hv,h2⟩
  ·cases h
 ·cases h
theorem asU {acc v:Nat} {l:List UInt8} (r:List UInt8) (h:Lib.parseUint10 acc l=.ok v):Lib.parseUint10 acc (l++r)=Lib.parseUint10 v r:=by
 induction l generalizing acc with
 |nil=>
  simp only [Lib.parseUint10] at h
  injection h with h
  rw [h];rfl
 |cons c l ih=>
  simp only [Lib.parseUint10,List.cons_append] at h ⊢
  split at h
  ·rename_i h1
   rw [zp h1]
   split at h
   ·cases h
   ·rename_i h2
    rw [z6 h2]
    split at h
    ·cases h
    ·rename_i h3
     rw [z6 h3]
     exact ih h
  ·cases h
theorem agL (d:Nat) (h:d<10):(UInt8.ofNat (48+d)).toNat=48+d:=by
 rw [UInt8.toNat_ofNat']
 omega
theorem asT (u:Nat) (h:u<1844674407370955162):Lib.parseUint10 0 (Lib.decDigits u)=.ok u:=by
 induction u using Nat.strongRecOn with
 |_ u ih=>
  rw [Lib.decDigits]
  by_cases hu:u<10
  ·rw [dif_pos hu]
   simp only [Lib.parseUint10,agL u hu]
   rw [zp zO,z6 zO,z6 zO]
   congr 1
   omega
  ·rw [dif_neg hu,asU _ (ih (u / 10) zO zO)]
   simp only [Lib.parseUint10,agL (u % 10) zO]
   rw [zp zO,z6 zO,z6 zO]
   congr 1
   omega
theorem aj0 (u:Nat):∀c∈Lib.decDigits u,48<=c.toNat/\c.toNat<=57:=by
 induction u using Nat.strongRecOn with
 |_ u ih=>
  intro c hc
  rw [Lib.decDigits] at hc
  by_cases hu:u<10
  ·rw [dif_pos hu] at hc
   rw [zAW.1 hc,agL u hu]
   omega
  ·rw [dif_neg hu] at hc
   rcases zAQ.1 hc with hc|hc
   ·exact ih (u / 10) zO c hc
   ·rw [zAW.1 hc,agL (u % 10) zO]
    omega
theorem a1N (u:Nat):Lib.decDigits u≠[]:=by
 rw [Lib.decDigits]
 split<;>simp
theorem axJ (u:Nat):(32:UInt8) ∉ Lib.decDigits u:=λh=>by
 have:=aj0 u _ h
 simp at this
theorem aq8 (k u:Nat) (h:u<10 ^ (k+1)):(Lib.decDigits u).length<=k+1:=by
 induction k generalizing u with
 |zero=>
  rw [Lib.decDigits,dif_pos (by simpa using h)]
  simp
 |succ k ih=>
  rw [Lib.decDigits]
  by_cases hu:u<10
  ·rw [dif_pos hu];simp
  ·rw [dif_neg hu,zAP]
   have:=ih (u / 10) (by rw [Nat.pow_succ] at h;omega)
   simp only [zAL,zAg]
   omega
theorem av0 (u:Nat) (h:u<=9999999):numW (Lib.decDigits u)=some (u:Int):=by
 have hp:=asT u zO
 have hne:=a1N u
 have hl:=aq8 6 u zA7
 have hit:Lib.itoa (u:Int)=Lib.decDigits u:=by unfold Lib.itoa;rw [z6 zO,zAX]
 have ha:Lib.atoiAll (Lib.decDigits u)=.ok (u:Int):=by
  have hd:=aj0 u
  cases hx:Lib.decDigits u with
  |nil=>exact zAv hx hne
  |cons c r=>
   rw [hx] at hp hd
   have hc:=hd c zAD
   unfold Lib.atoiAll
   simp only
   rw [z6 zO]
   unfold Lib.parseMag
   rw [z6 zA1,hp]
   simp only
   rw [z6 zO,z6 zO,z6 zO]
 unfold numW
 rw [ha]
 simp only
 rw [zp ⟨hl,by omega,hit⟩]
structure Sc where
 cs:List (List Ln)
 K:ByteArray
 per:Int
 ns:List Int
 p:List Pk
def Sc.ok (s:Sc):Prop:=(qF s.cs (qg s.K) s.per s.ns).1=0/\(qj s.p).1=0
def okT:ByteArray:=⟨#[111,107]⟩
def noT:ByteArray:=⟨#[110,111,116,104,105,110,103]⟩
def qH:ByteArray:=⟨#[99,117,114,118,101]⟩
def qJ:ByteArray:=⟨#[110,117,109,98,101,114,115]⟩
def qz:ByteArray:=⟨#[112,97,99,107,101,116]⟩
def wAt:ByteArray:=⟨#[97,116]⟩
def zm:ByteArray:=⟨#[99,108,101,97,114]⟩
def xG:ByteArray:=⟨#[114,117,110]⟩
def qZ:ByteArray:=⟨#[119,111,114,115,116]⟩
def ze:ByteArray:=⟨#[98,111,117,110,100]⟩
def qY:ByteArray:=⟨#[108,105,110,107]⟩
def a4A:Nat->List UInt8
 |1=>[116,101,120,116]
 |2=>[98,111,117,110,100]
 |3=>[115,104,97,112,101]
 |4=>[110,111,110,101]
 |5=>[111,108,100]
 |6=>[111,118,101,114]
 |7=>[105,100,108,101]
 |8=>[116,117,114,110]
 |_=>[107,105,110,100]
def abN (k:Nat):ByteArray:=⟨([102,108,111,111,100,103,97,116,101,58,32]++a4A k).toArray⟩
def outT (r:Nat × ByteArray):ByteArray:=if r.1=0 then r.2 else abN r.1
def itT (n:Int):ByteArray:=⟨(Lib.itoa n).toArray⟩
abbrev Rs:=(Nat × ByteArray) × Sc
def yC (s g:Sc):Rs:=if (qF g.cs (qg g.K) g.per g.ns).1=0 then ((0,okT),{g with p:=s.p}) else (((qF g.cs (qg g.K) g.per g.ns).1,okT),s)
def aaX (s:Sc) (K:ByteArray) (per:Int):Rs:=yC s ⟨s.cs,K,per,if qg K=0 then [] else List.replicate 8 1,s.p⟩
def pairsL:List Int->List Ln
 |b::r::t=>⟨b,r⟩::pairsL t
 |_=>[]
def curveS (s:Sc) (n:List Int):Rs:=
 if n.length % 2=0\/8<=n.getD 0 0 then ((1,okT),s)
 else if pairsL (n.drop 1)≠[]/\(qh (pairsL (n.drop 1))).1≠0 then (((qh (pairsL (n.drop 1))).1,okT),s)
 else ((0,okT),{s with cs:=s.cs.set (n.getD 0 0).toNat (pairsL (n.drop 1))})
def vJ (s:Sc) (n:List Int):Rs:=
 if (qj (s.p++[⟨n.getD 0 0,n.getD 1 0,n.getD 2 0⟩])).1=0 then ((0,okT),{s with p:=s.p++[⟨n.getD 0 0,n.getD 1 0,n.getD 2 0⟩]}) else (((qj (s.p++[⟨n.getD 0 0,n.getD 1 0,n.getD 2 0⟩])).1,okT),s)
def afJ (s:Sc) (n:List Int):Rs:=
 if 8<=n.getD 0 0 then ((1,okT),s) else (((jC (s.cs.getD (n.getD 0 0).toNat []) (n.getD 1 0)).1,itT (jM (s.cs.getD (n.getD 0 0).toNat []) (n.getD 1 0))),s)
def scQ (s:Sc):List Pk:=uR s.cs (qg s.K) s.per s.ns s.p
def scL (s:Sc):List Sn:=uS s.cs (qg s.K) s.per s.ns s.p
def scE (s:Sc):Nat × Int:=zq s.cs (qg s.K) s.per s.ns s.p
def vZ (x:Sn):List UInt8:=Lib.itoa x.p++58::(Lib.itoa x.f++45::Lib.itoa x.t)
def runT (l:List Sn):ByteArray:=if l=[] then noT else ⟨(Lib.join (l.map vZ) [32]).toArray⟩
def vW:List Int->Int->Int
 |[],m=>m
 |x::r,m=>vW r (if m<x then x else m)
def aeO (s:Sc):ByteArray:=itT (vW (delL (scQ s) (scL s)) 0)
def abR (s:Sc):Rs:=(((scE s).1,runT (scL s)),s)
def aaM (s:Sc):Rs:=(((scE s).1,aeO s),s)
def uu (s:Sc):Rs:=(((uj s.cs (qg s.K) s.per s.ns).1,itT (ac7 s.cs (qg s.K) s.per s.ns)),s)
def noS (s:Sc):Rs:=((1,okT),s)
def uE (s:Sc) (w:ByteArray):Rs:=
 if w=zm then ((0,okT),{s with p:=[]}) else if w=xG then abR s else if w=qZ then aaM s else if w=ze then uu s else noS s
def zA (s:Sc) (w:ByteArray) (n:List Int):Rs:=
 if w=qH/\0<n.length/\n.getD 0 0<10 then curveS s n
 else if w=qJ/\n.length=8 then yC s {s with ns:=n}
 else if w=qz/\n.length=3/\n.getD 0 0<10 then vJ s n
 else if w=wAt/\n.length=2/\n.getD 0 0<10 then afJ s n
 else if 0<n.length then noS s
 else uE s w
def numsW:List ByteArray->Option (List Int)
 |[]=>some []
 |w::r=>match numW w.data.toList with
  |none=>none
  |some n=>match numsW r with
   |none=>none
   |some l=>some (n::l)
def spW:ByteArray:=⟨#[32]⟩
def wordsL (t:ByteArray):List ByteArray:=Lib.splitB spW 0 (Lib.countB t spW) t
def aa8 (s:Sc) (ws:List ByteArray):Rs:=
 if ws.getD 0 spW=qY/\ws.length=3 then
  match numW (ws.getD 2 spW).data.toList with
  |none=>noS s
  |some per=>if qg (ws.getD 1 spW)<5 then aaX s (ws.getD 1 spW) per else noS s
 else match numsW (ws.drop 1) with
  |none=>noS s
  |some n=>zA s (ws.getD 0 spW) n
def zx (s:Sc) (t:ByteArray):Rs:=aa8 s (wordsL t)
def goS:Sc->List ByteArray->List ByteArray
 |_,[]=>[]
 |s,t::r=>outT (zx s t).1::goS (zx s t).2 r
def jS:Sc->List ByteArray->Sc
 |s,[]=>s
 |s,t::r=>jS (zx s t).2 r
def xm:Sc:=⟨List.replicate 8 [],yS,1,[],[]⟩
theorem aq3 (s:Sc) (a b:List ByteArray):goS s (a++b)=goS s a++goS (jS s a) b:=by
 induction a generalizing s with
 |nil=>rfl
 |cons t r ih=>
  show outT _::goS _ (r++b)=_
  rw [ih]
  rfl
theorem akY (s:Sc) (a:List ByteArray):(goS s a).length=a.length:=by
 induction a generalizing s with
 |nil=>rfl
 |cons t r ih=>show (goS _ r).length+1=_;rw [ih];rfl
theorem axO {cs:List (List Ln)} (h:adB cs) (i:Nat):(yR cs i).1=0:=by
 induction cs generalizing i with
 |nil=>rfl
 |cons l r ih=>
  have hr:=ih (λx hx=>h x (zAJ _ hx)) (i+1)
  unfold yR
  by_cases h0:l.length=0
  ·rw [zp h0];exact hr
  ·rw [z6 h0,z6 (λh9=>h9 ((h l zAD).resolve_left (λe=>h0 (by rw [e];rfl))))]
   exact hr
theorem ahQ {cs:List (List Ln)} {n:Nat} {per:Int} {ns:List Int} (h8:cs.length=8) (hc:adB cs) (hl:(qE n [] per ns).1=0):(qF cs n per ns).1=0:=by
 unfold qF
 rw [zp h8,z6 (λh9=>h9 (axO hc 0))]
 exact hl
theorem adB.qi {cs:List (List Ln)} (h:adB cs) (k:Nat) {l:List Ln} (hl:l=[]\/(qh l).1=0):adB (cs.set k l):=λx hx=>by
 rcases List.mem_or_eq_of_mem_set hx with h9|h9
 ·exact h x h9
 ·rw [h9];exact hl
theorem aqR:xm.ok:=by
 refine ⟨ahQ rfl (λl hl=>.inl (List.eq_of_mem_replicate hl)) ?_,rfl⟩
 decide
theorem aj9 {s g:Sc} (h:s.ok):(yC s g).2.ok:=by
 unfold yC
 by_cases h1:(qF g.cs (qg g.K) g.per g.ns).1=0
 ·rw [zp h1];exact ⟨h1,h.2⟩
 ·rw [z6 h1];exact h
theorem auK {s:Sc} (h:s.ok) (n:List Int):(curveS s n).2.ok:=by
 unfold curveS
 split
 ·exact h
 ·split
  ·exact h
  ·rename_i h2
   obtain ⟨h8,hc,hl,-⟩:=xL h.1
   refine ⟨ahQ (by simpa using h8) (hc.qi _ ?_) hl,h.2⟩
   by_cases h3:pairsL (n.drop 1)=[]
   ·exact .inl h3
   ·right
    exact Classical.byContradiction λh4=>h2 ⟨h3,h4⟩
theorem aoQ {s:Sc} (h:s.ok) (n:List Int):(vJ s n).2.ok:=by
 unfold vJ
 split
 ·rename_i h1;exact ⟨h.1,h1⟩
 ·exact h
theorem avU {s:Sc} (h:s.ok) (w:ByteArray) (n:List Int):(zA s w n).2.ok:=by
 unfold zA
 split
 ·exact auK h n
 ·split
  ·exact aj9 h
  ·split
   ·exact aoQ h n
   ·split
    ·unfold afJ;split<;>exact h
    ·split
     ·exact h
     ·unfold uE
      split
      ·exact ⟨h.1,rfl⟩
      ·split
       ·exact h
       ·split
        ·exact h
        ·split<;>exact h
theorem al8 {s:Sc} (h:s.ok) (t:ByteArray):(zx s t).2.ok:=by
 unfold zx aa8
 split
 ·split
  ·exact h
  ·split
   ·exact aj9 h
   ·exact h
 ·split
  ·exact h
  ·exact avU h _ _
theorem alY {ws:List ByteArray} {n:List Int} (h:numsW ws=some n):n.length=ws.length/\∀x∈n,0<=x:=by
 induction ws generalizing n with
 |nil=>
  simp only [numsW,zAC] at h
  subst h
  exact ⟨rfl,by simp⟩
 |cons w r ih=>
  unfold numsW at h
  split at h
  ·cases h
  ·rename_i x hx
   split at h
   ·cases h
   ·rename_i l hl
    injection h with h
    subst h
    obtain ⟨i1,i2⟩:=ih hl
    refine ⟨by simp [i1],λy hy=>?_⟩
    rcases zAM.1 hy with rfl|hy
    ·exact (asZ hx).2.2.1
    ·exact i2 y hy
theorem toList_inj {a b:ByteArray} (h:a.data.toList=b.data.toList):a=b:=by
 obtain ⟨⟨a⟩⟩:=a
 obtain ⟨⟨b⟩⟩:=b
 simp only at h
 rw [h]
theorem afQ (t:ByteArray):(wordsL t).map (·.data.toList)=sp t.data.toList:=by
 unfold wordsL
 rw [Lib.splitB_data]
 exact ar1 _ _ (zD _)
theorem av8 {l l':List ByteArray} (h:l.map (·.data.toList)=l'.map (·.data.toList)):l=l':=by
 induction l generalizing l' with
 |nil=>cases l' with
  |nil=>rfl
  |cons _ _=>simp at h
 |cons x r ih=>cases l' with
  |nil=>simp at h
  |cons y r'=>
   simp only [List.map_cons,List.cons.injEq] at h
   rw [toList_inj h.1,ih h.2]
theorem ak9 {w:ByteArray} {ws:List ByteArray} {t:ByteArray} (hw:(32:UInt8) ∉ w.data.toList) (hws:∀x∈ws,(32:UInt8) ∉ x.data.toList) (ht:t.data.toList=spJ w.data.toList (ws.map (·.data.toList))):wordsL t=w::ws:=by
 apply av8
 rw [afQ,ht,ayS hw (λx hx=>by obtain ⟨y,hy,rfl⟩:=zAT.1 hx;exact hws y hy)]
 rfl
structure Cm where
 w:ByteArray
 k:ByteArray
 n:List Int
def jc (c:Cm):Bool:=
 if c.w=qH then c.n.length % 2==1
 else if c.w=qY then c.n.length==1&&decide (qg c.k<5)
 else if c.w=qJ then c.n.length==8
 else if c.w=qz then c.n.length==3
 else if c.w=wAt then c.n.length==2
 else if c.w=zm\/c.w=xG\/c.w=qZ\/c.w=ze then c.n.length==0
 else false
def wR (w:ByteArray):Int:=if w=qz\/w=wAt\/w=qH then 9 else 9999999
def inB (m:Int):List Int->Prop
 |[]=>True
 |x::r=>(0<=x/\x<=m)/\∀y∈r,0<=y/\y<=9999999
def amZ (c:Cm):Prop:=jc c=true/\inB (wR c.w) c.n
def axR (c:Cm):List ByteArray:=(if c.w=qY then [c.k] else [])++c.n.map itT
def cmT (c:Cm):List UInt8:=spJ c.w.data.toList ((axR c).map (·.data.toList))
def xx (s:Sc) (c:Cm):Rs:=if c.w=qY then aaX s c.k (c.n.getD 0 0) else zA s c.w c.n
theorem aqZ {m:Int} (hm:m<=9999999) {l:List Int} (h:inB m l):∀x∈l,0<=x/\x<=9999999:=by
 cases l with
 |nil=>simp
 |cons y r=>
  intro x hx
  rcases zAM.1 hx with rfl|hx
  ·exact ⟨h.1.1,by have:=h.1.2;omega⟩
  ·exact h.2 x hx
theorem ajH (w:ByteArray):wR w<=9999999:=by unfold wR;split<;>omega
theorem jm {x:Int} (h:0<=x):Lib.itoa x=Lib.decDigits x.toNat:=by unfold Lib.itoa;rw [z6 zO]
theorem aqP {x:Int} (h:0<=x/\x<=9999999):numW (itT x).data.toList=some x:=by
 show numW (Lib.itoa x)=_
 rw [jm h.1,av0 _ zO]
 congr 1
 omega
theorem azU {x:Int} (h:0<=x):(32:UInt8) ∉ (itT x).data.toList:=by
 show (32:UInt8) ∉ Lib.itoa x
 rw [jm h]
 exact axJ _
theorem avZ {l:List Int} (h:∀x∈l,0<=x/\x<=9999999):numsW (l.map itT)=some l:=by
 induction l with
 |nil=>rfl
 |cons x r ih=>
  rw [List.map_cons]
  unfold numsW
  rw [aqP (h x zAD),ih (λy hy=>h y (zAJ _ hy))]
theorem atG {k:ByteArray} (h:qg k<5):(32:UInt8) ∉ k.data.toList:=by
 unfold qg at h
 split at h
 ·rename_i e;rw [e];decide
 ·split at h
  ·rename_i e;rw [e];decide
  ·split at h
   ·rename_i e;rw [e];decide
   ·split at h
    ·rename_i e;rw [e];decide
    ·split at h
     ·rename_i e;rw [e];decide
     ·omega
theorem arL {c:Cm} (h:jc c=true):(32:UInt8) ∉ c.w.data.toList:=by
 unfold jc at h
 split at h
 ·rename_i e;rw [e];decide
 ·split at h
  ·rename_i e;rw [e];decide
  ·split at h
   ·rename_i e;rw [e];decide
   ·split at h
    ·rename_i e;rw [e];decide
    ·split at h
     ·rename_i e;rw [e];decide
     ·split at h
      ·rename_i e
       rcases e with e|e|e|e<;>(rw [e];decide)
      ·cases h
theorem afF {c:Cm} (h:jc c=true) (hl:c.w=qY):c.n.length=1/\qg c.k<5:=by
 unfold jc at h
 rw [z6 (by rw [hl];decide),zp hl] at h
 simpa using h
theorem al9 {c:Cm} (h:amZ c) (s:Sc) {t:ByteArray} (ht:t.data.toList=cmT c):zx s t=xx s c:=by
 obtain ⟨h1,h2⟩:=h
 have hall:=aqZ (ajH _) h2
 have hw:=ak9 (w:=c.w) (ws:=axR c) (t:=t) (arL h1) (λx hx=>by
  unfold axR at hx
  rcases zAQ.1 hx with hx|hx
  ·by_cases hl:c.w=qY
   ·rw [zp hl] at hx
    rw [zAW.1 hx]
    exact atG (afF h1 hl).2
   ·rw [z6 hl] at hx;simp at hx
  ·obtain ⟨y,hy,rfl⟩:=zAT.1 hx
   exact azU (hall y hy).1) ht
 unfold zx
 rw [hw]
 unfold aa8 xx axR
 by_cases hl:c.w=qY
 ·obtain ⟨hn,hk⟩:=afF h1 hl
  obtain ⟨x,hx⟩:∃x,c.n=[x]:=by
   match hc:c.n with
   |[]=>rw [hc] at hn;simp at hn
   |[x]=>exact ⟨x,rfl⟩
   |_::_::_=>rw [hc] at hn;simp at hn
  rw [zp hl,zp hl,hx]
  rw [hx] at hall
  simp only [List.map_cons,List.map_nil,List.cons_append,zAa,List.getD_cons_zero,List.getD_cons_succ,zAL,zAg]
  rw [zp ⟨hl,trivial⟩,aqP (hall x zA1)]
  simp only
  rw [zp hk]
 ·rw [z6 hl,z6 hl,z6 (λh9=>hl (by simpa using h9.1))]
  simp only [zAa,List.drop_succ_cons,List.drop_zero,List.getD_cons_zero]
  rw [avZ hall]
def cmB (c:Cm):ByteArray:=⟨(cmT c).toArray⟩
theorem aq6 {s:Sc} (h:s.ok) (l:List ByteArray):(jS s l).ok:=by
 induction l generalizing s with
 |nil=>exact h
 |cons t r ih=>exact ih (al8 h t)
theorem amS (s:Sc) (a b:List ByteArray):jS s (a++b)=jS (jS s a) b:=by
 induction a generalizing s with
 |nil=>rfl
 |cons c r ih=>exact ih _
def wordIs (w:ByteArray):Prop:=w=qH\/w=qY\/w=qJ\/w=qz\/w=wAt\/w=zm\/w=xG\/w=qZ\/w=ze
theorem ayY (l:List Sn):(runT l).data.toList≠[]:=by
 unfold runT
 split
 ·decide
 ·rename_i h
  cases l with
  |nil=>exact zAv rfl h
  |cons x r=>
   show Lib.join ((x::r).map vZ) [32]≠[]
   intro h9
   have h8:(Lib.join ((x::r).map vZ) [32]).length=0:=by rw [h9];rfl
   rw [List.map_cons,Lib.join_length] at h8
   simp only [Lib.lens,List.map_cons,List.sum_cons] at h8
   unfold vZ at h8
   simp at h8
theorem apS (l:List Ln) (per:Int) (hl:0<l.length):0<=wS l per/\wS l per<=35184372088832000:=by
 by_cases h:(yf l per).1=0
 ·obtain ⟨hc,p0,p1,ht,e,-⟩:=axI h
  obtain ⟨c1,c2,hok,-⟩:=crvErr_ok hc
  rw [e]
  have h1:=auF p0 hok hl ht (T:=0) zO zO
  have h2:=acS hl hok (t:=0) zO
  have h3:=zAY (show 0<=per by omega) (show 0<=qP l 0 by omega)
  obtain ⟨s1,s2,s3,s4,s5,s6,s7,s8,s9⟩:=uB (per:=per) hok
  obtain ⟨⟨q1,q2⟩,q3⟩:=ac3 p0 hok ht
  obtain ⟨y,hy,e2⟩:=auI (per:=per) (l:=l)
  have hyr:y<=xM l:=zO
  have hr:xM l<=35184372088832:=by
   rcases s8 with h9|⟨x,hx,-,h9⟩
   ·omega
   ·have:=hok x hx;unfold yL at this;omega
  have h5:=uV y (xJ per l++flatL per l)
  have h6:per*y<=1000*35184372088832:=by
   by_cases hy0:0<=y
   ·exact Int.mul_le_mul p1 zO hy0 zO
   ·have:=zAY (show 0<=per by omega) (show 0≤-y by omega)
    rw [Int.mul_neg] at this
    omega
  refine ⟨by omega,?_⟩
  rw [e2]
  unfold afD xB
  omega
 ·unfold wS
  rw [z6 h]
  omega
theorem auO (l:List Ln) (per:Int):0<=uD l per/\uD l per<=1099511627776:=by
 by_cases h:(yT l per).1=0
 ·by_cases hk:(xS l per).1=0
  ·obtain ⟨h1,h2,h3⟩:=a0E hk h
   omega
  ·unfold yT at h
   rw [zp hk] at h
   exact zAv h hk
 ·unfold uD
  rw [z6 h]
  omega
theorem aiB (cs:List (List Ln)) (n:Nat) (per:Int) (ns:List Int):0<=ac7 cs n per ns/\ac7 cs n per ns<=35184372088832000:=by
 by_cases h:(uj cs n per ns).1=0
 ·obtain ⟨hg,all,ha,hl,he,e,-⟩:=a1Y h
  rw [e]
  unfold adY
  split
  ·exact apS all per hl
  ·have:=auO all per;omega
 ·unfold ac7
  by_cases hg:(qF cs n per ns).1≠0
  ·rw [zp hg];omega
  ·rw [z6 hg]
   unfold uj at h
   rw [z6 hg] at h
   cases ha:bndAll cs with
   |none=>rw [ha] at h;unfold acK;simp
   |some al=>
    rw [ha] at h
    show 0<=(if (xA n per (some al)).1=0 then adY n al per else 0)/\(if (xA n per (some al)).1=0 then adY n al per else 0)<=_
    rw [z6 h]
    omega
theorem aeC (cs:List (List Ln)) (n:Nat) (per:Int) (ns:List Int):-9223372036854775808<=ac7 cs n per ns/\ac7 cs n per ns<=9223372036854775807:=by
 have:=aiB cs n per ns
 omega
def okC (k:Nat):Prop:=k=0\/k=1\/k=2\/k=3\/k=4\/k=5\/k=9
theorem aq9 (l:List Ln):okC (qh l).1:=by
 unfold qh okC
 split
 ·simp
 ·split<;>simp
theorem a3T (p:List Pk) (per:Int) (h:okC (qj p).1):okC (qm p per).1:=by
 unfold qm
 repeat' split
 all_goals (first |exact h|(simp [okC]))
theorem ay7 (l:List Pk) (last:Int) (k:Nat):okC (yO l last k).1:=by
 induction l generalizing k last with
 |nil=>simp [yO,okC]
 |cons x r ih=>
  unfold yO
  repeat' split
  all_goals (first |exact ih _ _|simp [okC])
theorem ay6 (l:List Pk):okC (qj l).1:=by
 unfold qj
 split
 ·simp [okC]
 ·exact ay7 _ _ _
theorem a1D (n:Nat) (p:List Pk) (per:Int) (ns:List Int):okC (qE n p per ns).1:=by
 have h:=a3T p per (ay6 p)
 match n with
 |0=>
  show okC (if (qm p per).1≠0 then qm p per else if 0<ns.length then (3,-1) else (0,-1)).1
  exact zEe
 |1=>
  show okC (qM p per ns 100).1
  unfold qM vz
  exact zEe
 |2=>
  show okC (qM p per ns 1099511627776).1
  unfold qM vz
  exact zEe
 |3=>
  show okC (zt p per ns).1
  unfold zt kG
  exact zEe
 |4=>
  show okC (zQ p per ns).1
  unfold zQ um
  exact zEe
 |n+5=>show okC 9;simp [okC]
theorem az8 (cs:List (List Ln)) (i:Nat):okC (yR cs i).1:=by
 induction cs generalizing i with
 |nil=>simp [yR,okC]
 |cons l r ih=>
  unfold yR
  repeat' split
  all_goals (first |exact ih _|exact aq9 l|simp [okC])
theorem akZ (cs:List (List Ln)) (n:Nat) (per:Int) (ns:List Int):okC (qF cs n per ns).1:=by
 unfold qF
 repeat' split
 all_goals (first |exact az8 _ _|exact a1D _ _ _ _|simp [okC])
theorem avN (cs:List (List Ln)) (n:Nat) (per:Int) (ns:List Int) (p:List Pk):okC (zq cs n per ns p).1:=by
 unfold zq
 repeat' split
 all_goals (first |exact akZ _ _ _ _|exact ay6 _|simp [okC])
theorem a3D (cs:List (List Ln)) (n:Nat) (per:Int) (ns:List Int):okC (uj cs n per ns).1:=by
 unfold uj
 split
 ·exact akZ _ _ _ _
 ·cases bndAll cs with
  |none=>simp [xA,okC]
  |some al=>
   show okC (if al.length=0 then (4,-1) else if (vO n al per).1≠0 then (4,-1) else (0,-1):Nat × Int).1
   repeat' split
   all_goals simp [okC]
theorem anB (s g:Sc):okC (yC s g).1.1:=by
 unfold yC
 split
 ·simp [okC]
 ·exact akZ _ _ _ _
theorem a04 (s:Sc) (w:ByteArray) (n:List Int):okC (zA s w n).1.1:=by
 unfold zA
 split
 ·unfold curveS
  repeat' split
  all_goals (first |exact aq9 _|simp [okC])
 ·split
  ·exact anB _ _
  ·split
   ·unfold vJ
    split
    ·simp [okC]
    ·exact ay6 _
   ·split
    ·unfold afJ
     split
     ·simp [okC]
     ·show okC (jC _ _).1
      unfold jC
      repeat' split
      all_goals (first |exact aq9 _|simp [okC])
    ·split
     ·simp [noS,okC]
     ·unfold uE
      split
      ·simp [okC]
      ·split
       ·exact avN _ _ _ _ _
       ·split
        ·exact avN _ _ _ _ _
        ·split
         ·exact a3D _ _ _ _
         ·simp [noS,okC]
theorem a1E (s:Sc) (t:ByteArray):okC (zx s t).1.1:=by
 unfold zx aa8
 repeat' split
 all_goals (first |exact anB _ _|exact a04 _ _ _|simp [noS,okC])
def hT1:ByteArray:=⟨#[108,105,110,107,32,102,105,102,111,32,50]⟩
def hT2:ByteArray:=⟨#[112,97,99,107,101,116,32,48,32,51,32,53]⟩
def hA3:ByteArray:=⟨#[48,58,53,45,49,49]⟩
def hA4:ByteArray:=⟨#[54]⟩
def hIn:List ByteArray:=[hT1,hT2,xG,qZ,ze]
def apC:List ByteArray:=[okT,okT,hA3,hA4,abN 4]
def hS1:Sc:=⟨List.replicate 8 [],yS,2,[],[]⟩
def hS2:Sc:=⟨List.replicate 8 [],yS,2,[],[⟨0,3,5⟩]⟩
theorem a3Y:aaX xm yS 2=((0,okT),hS1):=by
 unfold aaX yC xm
 rw [zp zA4]
 rfl
theorem a3X:vJ hS1 [0,3,5]=((0,okT),hS2):=by
 unfold vJ
 rw [zp zA4]
 rfl
theorem a2T:(scE hS2).1=0/\scL hS2=[⟨0,5,11⟩]/\scQ hS2=[⟨0,3,5⟩]:=⟨rfl,rfl,rfl⟩
theorem apB:Lib.itoa 0=[48]/\Lib.itoa 5=[53]/\Lib.itoa 11=[49,49]/\Lib.itoa 6=[54]/\Lib.itoa 3=[51]/\Lib.itoa 2=[50]:=by
 have h1:∀n,n<10->Lib.decDigits n=[UInt8.ofNat (48+n)]:=λn h=>by rw [Lib.decDigits,dif_pos h]
 have h2:Lib.decDigits 11=[49,49]:=by rw [Lib.decDigits,dif_neg zO,h1 _ zO];rfl
 refine ⟨?_,?_,?_,?_,?_,?_⟩
 ·rw [jm zO,show (0:Int).toNat=0 from rfl,h1 _ zO];rfl
 ·rw [jm zO,show (5:Int).toNat=5 from rfl,h1 _ zO];rfl
 ·rw [jm zO,show (11:Int).toNat=11 from rfl,h2]
 ·rw [jm zO,show (6:Int).toNat=6 from rfl,h1 _ zO];rfl
 ·rw [jm zO,show (3:Int).toNat=3 from rfl,h1 _ zO];rfl
 ·rw [jm zO,show (2:Int).toNat=2 from rfl,h1 _ zO];rfl
theorem a3V:abR hS2=((0,hA3),hS2):=by
 obtain ⟨h1,h2,h3⟩:=a2T
 obtain ⟨i0,i5,i11,-⟩:=apB
 unfold abR
 rw [h1,h2]
 unfold runT
 rw [z6 zA1]
 show ((0,(⟨(Lib.join [vZ ⟨0,5,11⟩] [32]).toArray⟩:ByteArray)),hS2)=_
 unfold vZ
 simp only [i0,i5,i11]
 rfl
theorem a3U:aaM hS2=((0,hA4),hS2):=by
 obtain ⟨h1,h2,h3⟩:=a2T
 obtain ⟨-,-,-,i6,-⟩:=apB
 unfold aaM aeO
 rw [h1,h2,h3]
 show ((0,itT 6),hS2)=_
 unfold itT
 rw [i6]
 rfl
theorem a3W:(uu hS2).1.1=4:=rfl
theorem ab1 {c:Cm} {t:ByteArray} (h1:jc c=true) (h2:inB (wR c.w) c.n) (ht:t.data.toList=cmT c) (s:Sc):zx s t=xx s c:=al9 ⟨h1,h2⟩ s ht
theorem a1I:goS xm hIn=apC:=by
 obtain ⟨i0,i5,i11,i6,i3,i2⟩:=apB
 have l1:zx xm hT1=((0,okT),hS1):=by
  rw [ab1 (c:=⟨qY,yS,[2]⟩) zA4 (by unfold inB wR;decide) (by
   show hT1.data.toList=qY.data.toList++([yS.data.toList,Lib.itoa 2].flatMap (λx=>32::x))
   rw [i2];rfl)]
  exact a3Y
 have l2:zx hS1 hT2=((0,okT),hS2):=by
  rw [ab1 (c:=⟨qz,yS,[0,3,5]⟩) zA4 (by unfold inB wR;decide) (by
   show hT2.data.toList=qz.data.toList++([Lib.itoa 0,Lib.itoa 3,Lib.itoa 5].flatMap (λx=>32::x))
   rw [i0,i3,i5];rfl)]
  show zA hS1 qz [0,3,5]=_
  rw [<-a3X]
  rfl
 have l3:zx hS2 xG=((0,hA3),hS2):=by
  rw [ab1 (c:=⟨xG,yS,[]⟩) zA4 trivial rfl]
  rw [<-a3V]
  rfl
 have l4:zx hS2 qZ=((0,hA4),hS2):=by
  rw [ab1 (c:=⟨qZ,yS,[]⟩) zA4 trivial rfl]
  rw [<-a3U]
  rfl
 have l5:(zx hS2 ze).1.1=4:=by
  rw [ab1 (c:=⟨ze,yS,[]⟩) zA4 trivial rfl]
  rw [<-a3W]
  rfl
 show [outT (zx xm hT1).1,outT (zx (zx xm hT1).2 hT2).1,outT (zx (zx (zx xm hT1).2 hT2).2 xG).1,outT (zx (zx (zx (zx xm hT1).2 hT2).2 xG).2 qZ).1,outT (zx (zx (zx (zx (zx xm hT1).2 hT2).2 xG).2 qZ).2 ze).1]=_
 rw [l1]
 simp only
 rw [l2]
 simp only
 rw [l3]
 simp only
 rw [l4]
 simp only
 have e5:outT (zx hS2 ze).1=abN 4:=by unfold outT;rw [l5];rfl
 rw [e5]
 rfl
end Go.Proofs.YtoomffajodheaaaGreatDoor
