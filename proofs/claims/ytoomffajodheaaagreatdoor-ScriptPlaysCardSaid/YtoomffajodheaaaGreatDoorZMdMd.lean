/- The proof of ScriptPlays, part MdMd. Conditions: in each statement. -/
import Derived.Test.YtoomffajodheaaaGreatDoorZMdMc
set_option linter.all false
namespace Go.Proofs.YtoomffajodheaaaGreatDoor
open Go.RowKit
set_option maxRecDepth 100000
theorem zFC{p:Prop}(h:p:=by
 go_wp2_with fail
 go_ret
 exact ⟨rfl,KW1.o⟩):p:=h
def RdC (w:World) (A:Option Addr) (l:List Cm):Prop:=∀i (h:i<l.length),∃b o a c,A=some ⟨b,o,none⟩/\b<w.heap.size/\w.cell? ⟨b,o+i*3,none⟩=some (.string l[i].w)/\w.cell? ⟨b,o+i*3+1,none⟩=some (.string l[i].k)/\w.cell? ⟨b,o+i*3+2,none⟩=some (.slice a l[i].n.length c)/\RdI w w.heap.size a l[i].n
noncomputable def cmL:List Cm->List ByteArray
 |[]=>[]
 |c::r=>if (kQ c).2=true then (kQ c).1::cmL r else cmL r
theorem az9 (a b:List Cm):cmL (a++b)=cmL a++cmL b:=by
 induction a with
 |nil=>rfl
 |cons c r ih=>
  show (if (kQ c).2=true then (kQ c).1::cmL (r++b) else cmL (r++b))=(if (kQ c).2=true then (kQ c).1::cmL r else cmL r)++cmL b
  rw [ih]
  split<;>rfl
theorem am0 {l:List Cm} {k:Nat} (h:k<l.length):cmL (l.take (k+1))=cmL (l.take k)++(if (kQ l[k]).2=true then [(kQ l[k]).1] else []):=by
 rw [zAN h,az9]
 congr 1
theorem arD (l:List Cm):(cmL l).length<=l.length:=by
 induction l with
 |nil=>exact zD _
 |cons c r ih=>
  show (if (kQ c).2=true then (kQ c).1::cmL r else cmL r).length<=_
  split<;>simp only [zAL]<;>omega
def small (c:Cm):Prop:=c.n.length<=20/\c.w.size<=60/\c.k.size<=60
theorem ao0 {c:Cm} (h:small c) (h64:∀x∈c.n,i64 x):(kQ c).1.size<=1000:=by
 by_cases hc:amZ c
 ·rw [acE hc,<-aj4]
  have:=ah9 h64 h.2.1 h.2.2 (zD c.n.length)
  have:=h.1
  show (jr c c.n.length).size<=1000
  omega
 ·rw [ji hc]
  exact zAK _
theorem axS {l:List Cm} (h:∀c∈l,small c) (h64:∀c∈l,∀x∈c.n,i64 x):∀x∈cmL l,x.size<=1000:=by
 induction l with
 |nil=>intro x hx;simp [cmL] at hx
 |cons c r ih=>
  intro x hx
  have hr:=ih (λc hc=>h c (zAJ _ hc)) (λc hc=>h64 c (zAJ _ hc))
  unfold cmL at hx
  split at hx
  ·rcases zAM.1 hx with hx|hx
   ·rw [hx];exact ao0 (h c zAD) (h64 c zAD)
   ·exact hr x hx
  ·exact hr x hx
section
variable (A:Option Addr) (c:Nat) (l:List Cm) (cut:Int) (S:Nat->Addr) (w:World) (h:RdC w A l) (hS:SX w w.heap.size S) (h64:∀c∈l,∀x∈c.n,i64 x)
include h hS h64
end
theorem awT {m:Int} {n:List Int} (h:inB m n) (h0:0<n.length):0<=n.getD 0 0/\n.getD 0 0<=m:=by
 cases n with
 |nil=>simp at h0
 |cons x r=>exact h.1
theorem cm_cases {w k:ByteArray} {n:List Int} (h:amZ ⟨w,k,n⟩):(w=qH/\n.length % 2=1/\0<=n.getD 0 0/\n.getD 0 0<10)\/(w=qY/\n.length=1)\/(w=qJ/\n.length=8)\/(w=qz/\n.length=3/\n.getD 0 0<10)\/(w=wAt/\n.length=2/\0<=n.getD 0 0/\n.getD 0 0<10/\0<=n.getD 1 0/\n.getD 1 0<=9999999)\/(w=zm/\n.length=0)\/((w=xG\/w=qZ)/\n.length=0)\/(w=ze/\n.length=0):=by
 obtain ⟨h1,h2⟩:=h
 have hin:inB (wR w) n:=h2
 by_cases c1:w=qH
 ·have h3:(n.length % 2==1)=true:=by unfold jc at h1;rw [zp c1] at h1;exact h1
  have h4:n.length % 2=1:=by simpa using h3
  have h5:=awT hin zO
  rw [show wR w=9 by unfold wR;rw [zp (.inr (.inr c1))]] at h5
  exact .inl ⟨c1,h4,h5.1,by omega⟩
 by_cases c2:w=qY
 ·exact .inr (.inl ⟨c2,(afF h1 c2).1⟩)
 by_cases c3:w=qJ
 ·have h3:(n.length==8)=true:=by unfold jc at h1;rw [z6 c1,z6 c2,zp c3] at h1;exact h1
  exact .inr (.inr (.inl ⟨c3,by simpa using h3⟩))
 by_cases c4:w=qz
 ·have h3:(n.length==3)=true:=by unfold jc at h1;rw [z6 c1,z6 c2,z6 c3,zp c4] at h1;exact h1
  have h4:n.length=3:=by simpa using h3
  have h5:=awT hin zO
  rw [show wR w=9 by unfold wR;rw [zp (.inl c4)]] at h5
  exact .inr (.inr (.inr (.inl ⟨c4,h4,by omega⟩)))
 by_cases c5:w=wAt
 ·have h3:(n.length==2)=true:=by unfold jc at h1;rw [z6 c1,z6 c2,z6 c3,z6 c4,zp c5] at h1;exact h1
  have h4:n.length=2:=by simpa using h3
  have h5:=awT hin zO
  have h6:=aqZ (ajH w) hin n[1] (zd zO)
  rw [show wR w=9 by unfold wR;rw [zp (.inr (.inl c5))]] at h5
  rw [show n.getD 1 0=n[1] by simp [List.getD,show 1<n.length by omega]]
  exact .inr (.inr (.inr (.inr (.inl ⟨c5,h4,h5.1,by omega,h6.1,h6.2⟩))))
 unfold jc at h1
 rw [z6 c1,z6 c2,z6 c3,z6 c4,z6 c5] at h1
 split at h1
 ·rename_i hb
  have h4:n.length=0:=by simpa using h1
  rcases hb with hb|hb|hb|hb
  ·exact .inr (.inr (.inr (.inr (.inr (.inl ⟨hb,h4⟩)))))
  ·exact .inr (.inr (.inr (.inr (.inr (.inr (.inl ⟨.inl hb,h4⟩))))))
  ·exact .inr (.inr (.inr (.inr (.inr (.inr (.inl ⟨.inr hb,h4⟩))))))
  ·exact .inr (.inr (.inr (.inr (.inr (.inr (.inr ⟨hb,h4⟩))))))
 ·cases h1
theorem a0H (F:Nat->Prop) (mb gb:Nat) (s:Sc) (w:World) (hm:MM F w mb gb s) (hF:∀b,F b->b<w.heap.size) (hok:s.ok) (word kind:ByteArray) (A':Option Addr) (c':Nat) (n:List Int) (hr:RdI w w.heap.size A' n) (hnb:0<n.length->aaD F mb gb A') (hn20:n.length<=20) (S:Nat->Addr) (hS:Snt w w.heap.size S [2,3,4]) (hc:amZ ⟨word,kind,n⟩):
 Calls Tryz.prog 9 #[.pointer (some ⟨mb,0,none⟩),.agg #[.string word,.string kind,.slice A' n.length c']] w (afO F mb gb (xx s ⟨word,kind,n⟩) w):=by
 rcases cm_cases hc with ⟨h1,h2,h3,h4⟩|⟨h1,h2⟩|⟨h1,h2⟩|⟨h1,h2,h3⟩|⟨h1,h2,h3,h4,h5,h6⟩|⟨h1,h2⟩|⟨h1,h2⟩|⟨h1,h2⟩
 ·exact auW F mb gb s w hm hF hok word kind A' c' n hr hnb hn20 h1 h2 h3 h4
 ·exact ax7 F mb gb s w hm hF hok word kind A' c' n hr h1 h2
 ·exact anG F mb gb s w hm hF hok word kind A' c' n hr hnb hn20 h1 h2
 ·exact ap2 F mb gb s w hm hF hok word kind A' c' n hr h1 h2 h3
 ·exact a13 F mb gb s w hm hF hok word kind A' c' n hr hnb hn20 h1 h2 h3 h4 h5 h6
 ·exact auX F mb gb s w hm hF hok word kind A' c' n hr hnb hn20 h1 h2
 ·exact a0G F mb gb s w hm hF hok word kind A' c' n hr h1 h2
 ·exact auY F mb gb s w hm hF hok word kind A' c' n hr hnb hn20 S hS h1 h2
theorem Rd.gro {F F':Nat->Prop} {α:Type} {w w':World} {mb gb size:Nat} {f:α->List Value} {A:Option Addr} {l:List α} {row:Option Nat} (h:Rd w w.heap.size size f A l) (hn:0<l.length->aaD F mb gb A) (g:w.grownBy w' row) (hr:∀b,row=some b->F b) (hF:∀b,F' b->F b\/w.heap.size<=b):Rd w' w'.heap.size size f A l/\(0<l.length->aaD F' mb gb A):=by
 refine ⟨λh0=>?_,λh0 b o e=>?_⟩
 ·obtain ⟨b,o,e,hlt,hc⟩:=h h0
  refine ⟨b,o,e,zAG hlt g.size,λi x hx j v hv=>?_⟩
  rw [<-hc i x hx j v hv]
  exact zAb (g.block b hlt (λh9=>(hn h0 b o e).2.2 (hr b h9.symm)))
 ·obtain ⟨b',o',e',hlt,-⟩:=h h0
  rw [e] at e'
  simp only [zAC,zAS,and_true] at e'
  obtain ⟨rfl,rfl⟩:=e'
  obtain ⟨n1,n2,n3⟩:=hn h0 b o e
  exact ⟨n1,n2,λh9=>(hF b h9).elim n3 (λh8=>by omega)⟩
theorem MM.grown {F F':Nat->Prop} {w w':World} {mb gb:Nat} {s:Sc} {row:Option Nat} (h:MM F w mb gb s) (g:w.grownBy w' row) (hr:∀b,row=some b->F b/\b≠mb/\b≠gb) (hF:∀b,F' b->F b\/w.heap.size<=b):MM F' w' mb gb s:=by
 obtain ⟨An,cn,Ap,cp,h1,h2,⟨cur,g1,g2,g3⟩,h4,h5,h6,h7⟩:=h
 have hf:∀b,row=some b->F b:=λb h9=>(hr b h9).1
 obtain ⟨a1,a2⟩:=Rd.gro h4 h5 g hf hF
 obtain ⟨b1,b2⟩:=Rd.gro h6 h7 g hf hF
 refine ⟨An,cn,Ap,cp,h1.grown g (λh9=>(hr mb h9.symm).2.1 rfl),h2,⟨cur,g1.grown g (λh9=>(hr gb h9.symm).2.2 rfl),g2,λi hi=>?_⟩,a1,a2,b1,b2⟩
 obtain ⟨a,c,e1,e2,e3⟩:=g3 i hi
 obtain ⟨d1,d2⟩:=Rd.gro e2 e3 g hf hF
 exact ⟨a,c,e1,d1,d2⟩
theorem MM.lts {F:Nat->Prop} {w:World} {mb gb:Nat} {s:Sc} (h:MM F w mb gb s):mb<w.heap.size/\gb<w.heap.size:=by
 obtain ⟨_,_,_,_,h1,-,⟨_,h2,-⟩,-⟩:=h
 exact ⟨h1.lt,h2.lt⟩
theorem aqK {w w':World} {base mb gb sz n:Nat} {e:TypeId} {v:Value} {xs:List Value} (h:w.ownsRow base e sz v n xs) (b:Bu2 mb gb w w') (hne:∀k,v.ownBlock=some k->k≠mb/\k≠gb):w'.ownsRow base e sz v n xs:=by
 obtain ⟨h1,h2|⟨g,cap,cur,hv,hg,hh,r⟩⟩:=h
 ·exact ⟨h1,.inl h2⟩
 ·have hk:=hne g zCv
  exact ⟨h1,.inr ⟨g,cap,cur,hv,hg,(b.blk g (Array.getElem?_eq_some_iff.1 hh).1 hk.1 hk.2).trans hh,r⟩⟩
theorem aqJ {w w':World} {base sz n:Nat} {e:TypeId} {v:Value} {xs:List Value} {row:Option Nat} (h:w.ownsRow base e sz v n xs) (g:w.grownBy w' row) (hne:∀k,v.ownBlock=some k->some k≠row):w'.ownsRow base e sz v n xs:=by
 obtain ⟨h1,h2|⟨b,cap,cur,hv,hg,hh,r⟩⟩:=h
 ·exact ⟨h1,.inl h2⟩
 ·exact ⟨h1,.inr ⟨b,cap,cur,hv,hg,(g.block b (Array.getElem?_eq_some_iff.1 hh).1 (hne b zCv)).trans hh,r⟩⟩
def F2 (v1 v2:Value) (b:Nat):Prop:=v1.ownBlock=some b\/v2.ownBlock=some b
structure Two (base:Nat) (w:World) (mb gb:Nat) (v1 v2:Value) (n1 n2:Nat) (l1 l2:List ByteArray) (s:Sc):Prop where
 r1:w.ownsRow base 9 1 v1 n1 (l1.flatMap bCs)
 r2:w.ownsRow base 9 1 v2 n2 (l2.flatMap bCs)
 d1:∀b,v1.ownBlock=some b->b≠mb/\b≠gb/\v2.ownBlock≠some b
 d2:∀b,v2.ownBlock=some b->b≠mb/\b≠gb
 mm:MM (F2 v1 v2) w mb gb s
section
variable {base mb gb n1 n2:Nat} {w w':World} {v1 v2:Value} {l1 l2:List ByteArray} {s s':Sc}
theorem Two.lt (h:Two base w mb gb v1 v2 n1 n2 l1 l2 s):∀b,F2 v1 v2 b->b<w.heap.size:=λb h9=>h9.elim (aa7 h.r1 b) (aa7 h.r2 b)
theorem Two.below (h:Two base w mb gb v1 v2 n1 n2 l1 l2 s) (k:Below w.heap.size w w'):Two base w' mb gb v1 v2 n1 n2 l1 l2 s:=
 ⟨own_below h.r1 k (zD _),own_below h.r2 k (zD _),h.d1,h.d2,h.mm.below k⟩
theorem Two.bu2 (h:Two base w mb gb v1 v2 n1 n2 l1 l2 s) (k:Bu2 mb gb w w') (hm:MM (F2 v1 v2) w' mb gb s'):Two base w' mb gb v1 v2 n1 n2 l1 l2 s':=
 ⟨aqK h.r1 k (λb e=>⟨(h.d1 b e).1,(h.d1 b e).2.1⟩),aqK h.r2 k h.d2,h.d1,h.d2,hm⟩
theorem Two.a2V (h:Two base w mb gb v1 v2 n1 n2 l1 l2 s) {v:Value} {n:Nat} {l:List ByteArray} (g:w.grownBy w' v1.ownBlock) (r:w'.ownsRow base 9 1 v n (l.flatMap bCs)) (ha:v.ownBlock=v1.ownBlock\/v.ownBlock=some w.heap.size):Two base w' mb gb v v2 n n2 l l2 s:=by
 have h2:=aqJ h.r2 g (λk hk h9=>(h.d1 k h9.symm).2.2 hk)
 have hl:=h.mm.lts
 refine ⟨r,h2,λb e=>?_,h.d2,h.mm.grown g (λb e=>⟨.inl e,(h.d1 b e).1,(h.d1 b e).2.1⟩) (λb e=>?_)⟩
 ·rcases ha with ha|ha
  ·exact h.d1 b (ha▸e)
  ·rw [ha] at e
   injection e with e
   subst e
   exact ⟨by omega,by omega,λh9=>by have:=aa7 h.r2 _ h9;omega⟩
 ·rcases e with e|e
  ·rcases ha with ha|ha
   ·exact .inl (.inl (ha▸e))
   ·rw [ha] at e
    injection e with e
    exact .inr zO
  ·exact .inl (.inr e)
theorem Two.a2U (h:Two base w mb gb v1 v2 n1 n2 l1 l2 s) {v:Value} {n:Nat} {l:List ByteArray} (g:w.grownBy w' v2.ownBlock) (r:w'.ownsRow base 9 1 v n (l.flatMap bCs)) (ha:v.ownBlock=v2.ownBlock\/v.ownBlock=some w.heap.size):Two base w' mb gb v1 v n1 n l1 l s:=by
 have h1:=aqJ h.r1 g (λk hk h9=>(h.d1 k hk).2.2 h9.symm)
 have hl:=h.mm.lts
 refine ⟨h1,r,λb e=>⟨(h.d1 b e).1,(h.d1 b e).2.1,λh9=>?_⟩,λb e=>?_,h.mm.grown g (λb e=>⟨.inr e,(h.d2 b e).1,(h.d2 b e).2⟩) (λb e=>?_)⟩
 ·rcases ha with ha|ha
  ·exact (h.d1 b e).2.2 (ha▸h9)
  ·rw [ha] at h9
   injection h9 with h9
   subst h9
   have:=aa7 h.r1 _ e
   omega
 ·rcases ha with ha|ha
  ·exact h.d2 b (ha▸e)
  ·rw [ha] at e
   injection e with e
   subst e
   exact ⟨by omega,by omega⟩
 ·rcases e with e|e
  ·exact .inl (.inl e)
  ·rcases ha with ha|ha
   ·exact .inl (.inr (ha▸e))
   ·rw [ha] at e
    injection e with e
    exact .inr zO
end
theorem amL {l:List ByteArray} {t:ByteArray} {s:Sc}:goS s (l++[t])=goS s l++[outT (zx (jS s l) t).1]/\jS s (l++[t])=(zx (jS s l) t).2:=⟨by rw [aq3];rfl,by rw [amS];rfl⟩
section
variable (A:Option Addr) (c:Nat) (l:List Cm) (S:Nat->Addr) (w:World) (h:RdC w A l) (hS:SX w w.heap.size S) (h64:∀c∈l,∀x∈c.n,i64 x)
include h hS h64
set_option maxHeartbeats 16000000 in
theorem asN (hl:l.length<=9223372036854775807):Calls Tryz.prog 3 #[.slice A l.length c] w λe w'=>e=.returned (.bool true)/\Below w.heap.size w w':=by
 obtain ⟨L,hL⟩:∃L,L=l.length:=⟨_,rfl⟩
 rw [<-hL]
 have HL:=zL hL
 have HR:=zL h
 have HS:=zL hS
 have H64:=zL h64
 have HHE:=zL (atQ S w w.heap.size (zD _) hS)
 by_cases hbig:60<L
 ·have hb1:(60:Int)<(L:Int):=by omega
  clear hL h hS h64 hl
  go_enter Tryz.func3,Tryz.ntmps3
  go_wp2_with fail
  refine HHE.o.mono ?_
  rintro e w1 ⟨rfl,k1⟩
  go_wp2_with fail
  go_ret
  exact ⟨rfl,k1⟩
 ·have hb1:¬(60:Int)<(L:Int):=by omega
  have hL60:L<=60:=zO
  obtain ⟨i1,hi1,hy0,hy1,hy2⟩:=info_parts akW
  clear hL h hS h64 hl hbig
  go_enter Tryz.func3,Tryz.ntmps3
  go_wp2_with fail
  refine HHE.o.mono ?_
  rintro e w1 ⟨rfl,k1⟩
  have K1:=zL k1
  have z1:=k1.size
  clear k1 HHE
  go_wp2_with fail
  refine (azG (F2 (.slice none 0 0) (.slice none 0 0)) w1 (λb h9=>by rcases h9 with h9|h9<;>cases h9)).mono ?_
  rintro e w2 ⟨mb,gb,rfl,hmb,hgb,mm,k2⟩
  have MM0:=zL mm
  have K2:=zL k2
  clear mm k2
  go_wp2_with fail
  go_loopw [4,5,7] (λlv wv iv wr=>∃(k:Nat) (A1:Option Addr) (c1:Nat) (A2:Option Addr) (c2:Nat),k<=L/\lv=.slice A1 (cmL (l.take k)).length c1/\wv=.slice A2 (cmL (l.take k)).length c2/\iv=.int .i64 k/\Two w1.heap.size wr mb gb (.slice A1 (cmL (l.take k)).length c1) (.slice A2 (cmL (l.take k)).length c2) (cmL (l.take k)).length (cmL (l.take k)).length (cmL (l.take k)) (goS xm (cmL (l.take k))) (jS xm (cmL (l.take k)))/\Below w1.heap.size w1 wr/\∀c∈l.take k,small c) (λ_ _ iv _=>L - (intOf iv).toNat)
  case atStart=>exact ⟨0,none,0,none,0,zAK _,rfl,rfl,rfl,⟨⟨by simp [cmL],.inl ⟨rfl,rfl⟩⟩,⟨by simp [cmL,goS],.inl ⟨rfl,rfl⟩⟩,(λb e=>by cases e),(λb e=>by cases e),MM0.o⟩,K2.o,by simp⟩
  case round=>
   obtain ⟨k,A1,c1,A2,c2,hk,rfl,rfl,rfl,two,kw,hsm⟩:=hrel
   have TW:=zL two
   have KW:=zL kw
   have HSM0:=zL hsm
   have zw:=kw.size
   have kw1:=K1.o.trans (kw.mono z1)
   clear two kw hsm
   by_cases hlt0:k<L
   ·have hlt:k<l.length:=by have:=HL.o;omega
    obtain ⟨b,o,a,cc,rfl,hb,d0,d1,d2,hrn⟩:=HR.o k hlt
    obtain ⟨cm,hcm⟩:∃cm,cm=l[k]:=⟨_,rfl⟩
    rw [<-hcm] at d0 d1 d2 hrn
    obtain ⟨M,hM⟩:∃M,M=cm.n.length:=⟨_,rfl⟩
    rw [<-hM] at d2
    have e0:wr.cell? ⟨b,o+k*3,none⟩=some (.string cm.w):=(kw1.cell (p:=⟨b,o+k*3,none⟩) hb).trans d0
    have e1:wr.cell? ⟨b,o+k*3+1,none⟩=some (.string cm.k):=(kw1.cell (p:=⟨b,o+k*3+1,none⟩) hb).trans d1
    have e2:wr.cell? ⟨b,o+k*3+2,none⟩=some (.slice a M cc):=(kw1.cell (p:=⟨b,o+k*3+2,none⟩) hb).trans d2
    have HCM:=zL hcm
    have HM:=zL hM
    have HRN:=zL ((Rd.below hrn kw1).more kw1.size)
    have HNB:=zM (∀b' o',a=some ⟨b',o',none⟩->0<cm.n.length->b'<w.heap.size) (λb' o' e h0=>by obtain ⟨b9,o9,e9,h9,-⟩:=hrn h0;rw [e] at e9;simp only [zAC,zAS,and_true] at e9;rw [e9.1];exact h9)
    have q1:(k:Int)<(L:Int):=zO
    have q2:(0:Int)<=(k:Int):=zO
    have KW1:=zL kw1
    clear d0 d1 d2 hcm hM hrn kw1
    by_cases hn20:20<M
    ·have n1:(20:Int)<(M:Int):=by omega
     exact zFC
    ·have n1:¬(20:Int)<(M:Int):=by omega
     by_cases hw60:60<cm.w.size
     ·have n2:(60:Int)<(cm.w.size:Int):=by omega
      exact zFC
     ·have n2:¬(60:Int)<(cm.w.size:Int):=by omega
      by_cases hk60:60<cm.k.size
      ·have n3:(60:Int)<(cm.k.size:Int):=by omega
       exact zFC
      ·have n3:¬(60:Int)<(cm.k.size:Int):=by omega
       have HSM:=zL (show ∀c∈l.take (k+1),small c from λc hc=>by
        rw [zAN hlt] at hc
        rcases zAQ.1 hc with hc|hc
        ·exact HSM0.o c hc
        ·rw [zAW.1 hc,<-HCM.o]
         exact ⟨by rw [<-HM.o];omega,by omega,by omega⟩)
       have HLO0:=ao1 cm a cc wr HRN.o (by rw [<-HM.o];omega) zO zO (λx hx=>H64.o cm (by rw [HCM.o];exact zd hlt) x hx)
       rw [<-HM.o] at HLO0
       have hm20:cm.n.length<=20:=by rw [<-HM.o];omega
       clear hn20 hw60 hk60
       by_cases hok9:amZ cm
       ·rw [acE hok9] at HLO0
        obtain ⟨t,ht⟩:∃t,t=cmB cm:=⟨_,rfl⟩
        rw [<-ht] at HLO0
        have HLO:=zL HLO0
        have HTK:=zM (cmL (l.take (k+1))=cmL (l.take k)++[t]) (by rw [am0 hlt,<-HCM.o,acE hok9,ht];simp)
        have HLS:=zM (∀s,zx s t=xx s cm) (λs=>al9 hok9 s (by rw [ht];rfl))
        have HOK9:=zL hok9
        clear HLO0 ht hok9
        go_wp2_with fail
        refine HLO.o.mono ?_
        rintro e w3 ⟨rfl,k3⟩
        have two3:=TW.o.below k3
        have HAN:=a0H (F2 (.slice A1 (cmL (l.take k)).length c1) (.slice A2 (cmL (l.take k)).length c2)) mb gb (jS xm (cmL (l.take k))) w3 two3.mm two3.lt (aq6 aqR _) cm.w cm.k a cc cm.n ((HRN.o.below k3).more k3.size) (λh0 b' o' e=>by
             have h9:=HNB.o b' o' e h0
             refine ⟨by omega,by omega,λh8=>?_⟩
             rcases h8 with h8|h8
             ·have:=zH two3.r1 _ h8;omega
             ·have:=zH two3.r2 _ h8;omega) hm20 S (((HS.o.gs.s.below (KW1.o.trans (k3.mono KW1.o.size))).more (KW1.o.trans (k3.mono KW1.o.size)).size).sub zA1) HOK9.o
        rw [<-HM.o] at HAN
        have HANS:=zL HAN
        have TW3:=zL two3
        have K3:=zL (KW.o.trans (k3.mono zw))
        have hbw:=zAG hb KW1.o.size
        have f0:=(k3.cell (p:=⟨b,o+k*3,none⟩) hbw).trans e0
        have f1:=(k3.cell (p:=⟨b,o+k*3+1,none⟩) hbw).trans e1
        have f2:=(k3.cell (p:=⟨b,o+k*3+2,none⟩) hbw).trans e2
        clear two3 HAN k3 e0 e1 e2
        go_wp2_with fail
        refine HANS.o.mono ?_
        rintro e w4 ⟨rfl,mm4,b4⟩
        have TW4:=zL (TW3.o.bu2 b4 mm4)
        have K4:=zL (K3.o.trans (b4.below hmb hgb K3.o.size))
        clear mm4 b4 HANS f0 f1 f2
        have hrl:(cmL (l.take k)).length<=60:=by have:=arD (l.take k);rw [zAh] at this;omega
        have M1:=zM ((cmL (l.take k)).length+1<=maxLen) zA2
        have M2:=zM (((cmL (l.take k)).length+1)*16<=140737488355328) zO
        have HNW:=zM (Rd (w4.alloc (.cells #[.string t] 9)) (w4.heap.size+1) 1 bCs (some ⟨w4.heap.size,0,none⟩) [t]) (Rd.zU rfl zO uq)
        have TA:=zL (TW4.o.below (aj8 (.cells #[.string t] 9)))
        have KA:=zL (K4.o.alloc K4.o.size (.cells #[.string t] 9))
        obtain ⟨n1,hn1⟩:∃n1,(cmL (l.take k)++[t]).length=n1:=⟨_,rfl⟩
        have HN1:=zL hn1
        clear hn1
        go_upto_region 16 with (at_builtin;refine qd _ bCs rfl (.tmp 70) (.tmp 72) 24 rfl w1.heap.size 9 i1 (.string ⟨#[]⟩) 1 16 Tryz.underlying24 hi1 hy0 hy1 hy2 rfl zO uq aeF (.slice A1 (cmL (l.take k)).length c1) (cmL (l.take k)).length ((cmL (l.take k)).flatMap bCs) rfl TA.o.r1 (w4.heap.size+1) (some ⟨w4.heap.size,0,none⟩) 1 [t] rfl HNW.o M1.o M2.o KA.o.size ?_;intro v5 w5 row5 g5 at5;obtain ⟨A6,c6,hv6,row6⟩:=qI row5 zO;rw [HN1.o] at row6 hv6;subst hv6;have TW5:=zL (TA.o.a2V g5 row6 at5);have K5:=zL (ql KA.o TA.o.r1 g5 (zD _) KA.o.size);clear row5 row6 g5 at5)
        obtain ⟨av,hav⟩:∃av,av=outT (xx (jS xm (cmL (l.take k))) ⟨cm.w,cm.k,cm.n⟩).1:=⟨_,rfl⟩
        rw [<-hav]
        have HAV:=zL hav
        clear hav
        have HNX:=zM (Rd (w5.alloc (.cells #[.string av] 9)) (w5.heap.size+1) 1 bCs (some ⟨w5.heap.size,0,none⟩) [av]) (Rd.zU rfl zO uq)
        have TB:=zL (TW5.o.below (aj8 (.cells #[.string av] 9)))
        have KB:=zL (K5.o.alloc K5.o.size (.cells #[.string av] 9))
        have hgs:(cmL (l.take k)).length=(goS xm (cmL (l.take k))).length:=(akY _ _).symm
        have HGS:=zL hgs
        clear hgs
        have HN2:=zM ((goS xm (cmL (l.take k))++[av]).length=n1) (by rw [<-HN1.o,zAP,zAP,<-HGS.o];rfl)
        go_upto_region 9 with (at_builtin;refine qd _ bCs rfl (.tmp 74) (.tmp 76) 24 rfl w1.heap.size 9 i1 (.string ⟨#[]⟩) 1 16 Tryz.underlying24 hi1 hy0 hy1 hy2 rfl zO uq aeF (.slice A2 (cmL (l.take k)).length c2) (cmL (l.take k)).length ((goS xm (cmL (l.take k))).flatMap bCs) rfl TB.o.r2 (w5.heap.size+1) (some ⟨w5.heap.size,0,none⟩) 1 [av] rfl HNX.o M1.o M2.o KB.o.size ?_;intro v7 w7 row7 g7 at7;rw [HGS.o] at row7;obtain ⟨A8,c8,hv8,row8⟩:=qI row7 zO;rw [HN2.o] at row8 hv8;subst hv8;have TW7:=zL (TB.o.a2U g7 row8 at7);have K7:=zL (ql KB.o TB.o.r2 g7 (zD _) KB.o.size);clear row7 row8 g7 at7)
        have HTW:=zL (show Two w1.heap.size w7 mb gb (.slice A6 n1 c6) (.slice A8 n1 c8) n1 n1 (cmL (l.take (k+1))) (goS xm (cmL (l.take (k+1)))) (jS xm (cmL (l.take (k+1)))) by
             rw [HTK.o,amL.1,amL.2,HLS.o,show outT (xx (jS xm (cmL (l.take k))) cm).1=av from HAV.o.symm]
             exact TW7.o)
        have HN3:=zM (n1=(cmL (l.take (k+1))).length) (by rw [HTK.o];exact HN1.o.symm)
        clear hrl
        go_wp2_with fail
        go_roundw
        case rel=>exact ⟨k+1,A6,c6,A8,c8,by omega,by rw [<-HN3.o],by rw [<-HN3.o],by go_num,by rw [<-HN3.o];exact HTW.o,K7.o,HSM.o⟩
        case measure=>simp [intOf];omega
       ·rw [ji hok9] at HLO0
        have HLO:=zL HLO0
        have HTK:=zM (cmL (l.take (k+1))=cmL (l.take k)) (by rw [am0 hlt,<-HCM.o,ji hok9];simp)
        clear HLO0 hok9
        go_wp2_with fail
        refine HLO.o.mono ?_
        rintro e w3 ⟨rfl,k3⟩
        have TW3:=zL (TW.o.below k3)
        have K3:=zL (KW.o.trans (k3.mono zw))
        clear k3 HLO e0 e1 e2
        go_wp2_with fail
        go_roundw
        case rel=>exact ⟨k+1,A1,c1,A2,c2,by omega,by rw [HTK.o],by rw [HTK.o],by go_num,by rw [HTK.o];exact TW3.o,K3.o,HSM.o⟩
        case measure=>simp [intOf];omega
   ·obtain rfl:k=L:=by omega
    have two:=TW.o
    have e1:l.take k=l:=zAZ zBo
    have hsz0:=axS (show ∀c∈l,small c by rw [<-e1];exact HSM0.o) H64.o
    rw [e1] at two ⊢
    obtain ⟨ls,hls⟩:∃ls,ls=cmL l:=⟨_,rfl⟩
    have hl60:ls.length<=60:=by rw [hls];have:=arD l;have:=HL.o;omega
    rw [<-hls] at two hsz0 ⊢
    have HZ:=zL hsz0
    obtain ⟨N,hN⟩:∃N,N=ls.length:=⟨_,rfl⟩
    have RD1:=zM (RdB wr wr.heap.size A1 ls) (agH two.r1)
    have hgl0:(goS xm ls).length=ls.length:=akY _ _
    have RD2:=zM (RdB wr wr.heap.size A2 (goS xm ls)) (agH (by rw [hgl0];exact two.r2))
    have KWR:=zL kw1
    have HSR:=zL (alG A1 c1 ls S wr w.heap.size kw1.size (HS.o.below kw1) RD1.o zO HZ.o)
    rw [<-hN] at HSR hgl0 ⊢
    have HGL:=zL hgl0
    have HNN:=zL hN
    clear two e1 hsz0 hls hN hgl0 kw1
    go_wp2_with fail
    refine HSR.o.mono ?_
    rintro e w5 ⟨A7,c7,rfl,o7,k7⟩
    have hgl:=HGL.o
    rw [hgl]
    have K5:=zL (KWR.o.trans (k7.mono KWR.o.size))
    have HST:=zL (show Calls Tryz.prog 11 #[.slice A7 N c7,.slice A2 N c2] w5 (λe w'=>e=.returned (.bool true)/\∃n,w5.drewN n=w') by
     have h7:=ai9 A7 A2 c7 c2 (goS xm ls) (goS xm ls) w5 w5.heap.size (agH o7) ((RD2.o.below k7).more k7.size) (by have:=HNN.o;omega) (by have:=HNN.o;omega)
     rw [hgl] at h7
     exact h7.mono λe w' h8=>⟨by rw [h8.1,zAI rfl],h8.2⟩)
    clear o7 k7 hgl HSR
    go_wp2_with fail
    refine HST.o.mono ?_
    rintro e w7 ⟨rfl,n,rfl⟩
    clear HST
    go_wp2_with fail
    go_ret
    exact ⟨rfl,Below.axD K5.o n⟩
end
end Go.Proofs.YtoomffajodheaaaGreatDoor
