/- The proof of ScriptPlays, part Open. Conditions: in each statement. -/
import Derived.Test.YtoomffajodheaaaGreatDoorZBaseM
import Derived.Deep.Fields
set_option linter.all false
namespace Go.Proofs.YtoomffajodheaaaGreatDoor
open Go.RowKit Go.ChangeShapes Go.WideShapes Go.Deep
theorem asR {α:Type} {n:Nat} {Q:Nat->α->Prop} (h:∀i,i<n->∃x,Q i x):∃l:List α,l.length=n/\∀(i:Nat) (x:α),l[i]?=some x->Q i x:=by
 induction n with
 |zero=>exact ⟨[],rfl,by simp⟩
 |succ n ih=>
  obtain ⟨l,hl,hq⟩:=ih λi hi=>h i zO
  obtain ⟨x,hx⟩:=h n zO
  refine ⟨l++[x],by simp [hl],λi y hy=>?_⟩
  rcases Nat.lt_or_ge i n with hi|hi
  ·rw [List.getElem?_append_left zO] at hy
   exact hq i y hy
  ·rw [List.getElem?_append_right zO] at hy
   have:i=n:=by
    have:=(zAj.1 hy).1
    simp at this
    omega
   subst this
   rw [hl,Nat.sub_self] at hy
   simp at hy
   subst hy
   exact hx
def ayE (n:Int):Prop:=-9223372036854775808<=n/\n<=9223372036854775807
theorem ayD {n:Int} (h:(Lit.int .i64 n).wf=true):ayE n:=by
 simp [Lit.wf,IntKind.min,IntKind.max,IntKind.signed,IntKind.bits] at h
 exact ⟨by omega,by omega⟩
section
variable {H:Type} {enc:TypeId × Value->H} {P:Program} {w:World} {base:Nat} {spare:Nat->Bool} {held:Bool}
theorem a07 {t e:TypeId} {fuel:Nat} {A:Option Addr} {len cap:Nat} {x:DataW H × List MemPlace} (ht:P.underlying t=some (.slice e)) (he:P.underlying e=some (.int .i64)) (hC:P.cellsOf e=1)
 (h:DataW.trod enc P w base spare held fuel t [.slice A len cap]=some x):∃l:List Int,l.length=len/\RdI w w.heap.size A l/\(∀n∈l,ayE n)/\len<=maxLen:=by
 rcases open_ints ht he hC h with ⟨hcs,_⟩|⟨a,len',cap',zs,hcs,_,hl,hm,hzs,_,hcell,hwf⟩
 ·simp only [List.cons.injEq,zAp,and_true] at hcs
  obtain ⟨rfl,rfl,rfl⟩:=hcs
  exact ⟨[],rfl,Rd.ui,by simp,zAK _⟩
 ·simp only [List.cons.injEq,zAp,and_true] at hcs
  obtain ⟨rfl,rfl,rfl⟩:=hcs
  have hlz:len<=zs.length:=by rw [hzs];split<;>omega
  refine ⟨zs.take len,by rw [zAh];omega,λh0=>?_,λn hn=>ayD (hwf n (List.mem_of_mem_take hn)),zAB hl hm⟩
  rw [zAh] at h0
  have h00:=hcell 0 zO
  obtain ⟨b,o,spot⟩:=a
  have hspot:spot=none:=by simpa [Addr.add] using World.cell?_spot h00
  subst hspot
  refine ⟨b,o,rfl,by have:=zAU w _ h00;simpa [Addr.add] using this,λi y hy j v hv=>?_⟩
  have hil:i<len/\i<zs.length:=by
   have:=(zAj.1 hy).1
   rw [zAh] at this
   omega
  have hy2:zs.getD i 0=y:=by
   rw [List.getElem?_take,zp hil.1] at hy
   simp [List.getD,hy]
  have hj:j=0:=by
   have:=(zAj.1 hv).1
   simp at this;exact this
  subst hj
  simp only [zE,zAC] at hv
  have:=hcell i hil.2
  rw [jK,hy2,hv] at this
  rw [Nat.mul_one,Nat.add_zero]
  exact this
end
section
variable {H:Type} {enc:TypeId × Value->H} {P:Program} {w:World} {base:Nat} {spare:Nat->Bool} {held:Bool}
theorem alX {Q:Nat->Value->Prop} {t e:TypeId} {fs:Array Field} {fuel:Nat} {A:Option Addr} {len cap:Nat} {x:DataW H × List MemPlace} (ht:P.underlying t=some (.slice e)) (he:P.underlying e=some (.struct fs))
 (hone:oneCellFields P fs=true) (hC:P.cellsOf e=fs.size) (hfs:0<fs.size) (hint:∀(j:Nat) (f:Field),fs[j]?=some f->∀(n:Nat) (cs:List Value) (x:DataW H × List MemPlace),DataW.trod enc P w base spare held n f.type cs=some x->∃v,cs=[v]/\Q j v) (h:DataW.trod enc P w base spare held fuel t [.slice A len cap]=some x):
 len<=cap/\cap<=maxLen/\(0<len->∃b o,A=some ⟨b,o,none⟩/\b<w.heap.size/\∀i,i<len->∀j,j<fs.size->∃v:Value,Q j v/\w.cell? ⟨b,o+i*fs.size+j,none⟩=some v):=by
 rcases open_slice ht h with ⟨hcs,_⟩|⟨a,len',cap',m,n,D,Pl,hcs,hb,hl,hm,hmm,hx,hi⟩
 ·simp only [List.cons.injEq,zAp,and_true] at hcs
  obtain ⟨rfl,rfl,rfl⟩:=hcs
  exact ⟨zD _,zAK _,λh=>zAv h zO⟩
 ·simp only [List.cons.injEq,zAp,and_true] at hcs
  obtain ⟨rfl,rfl,rfl⟩:=hcs
  refine ⟨hl,hm,λh0=>?_⟩
  have hlm:len<=m:=by rw [hmm];split<;>omega
  have key:∀i,i<len->∀j,j<fs.size->∃v:Value,Q j v/\w.cell? (a.add (i*fs.size+j))=some v:=by
   intro i hil j hjl
   obtain ⟨cs',hc,ht'⟩:=hi i zO
   rw [hC] at hc
   obtain ⟨ys,n',hn',hy,hlen,hyl,hf⟩:=DataW.trod_struct he ht'
   obtain ⟨_,hcl,hat⟩:=World.cells?_some hc
   have hj:fs[j]?=some fs[j]:=Array.getElem?_eq_getElem hjl
   obtain ⟨ho,hk⟩:=hone_of hone j _ hj
   have hcell:=hat j hjl
   have h1:=hf j _ hj
   rw [ho,hk] at h1
   have hone':(cs'.drop j).take 1=[cs'[j]' zO]:=by
    rw [zAE zO]
    rfl
   rw [hone'] at h1
   have hys:ys[j]?=some (ys[j]' zO):=zAR zO
   obtain ⟨r,e1,wr⟩:=hint j _ hj _ _ _ (h1.trans hys)
   simp only [List.cons.injEq,and_true] at e1
   refine ⟨r,wr,?_⟩
   rw [<-Go.Deep.add_add,hcell,zAR zO,e1]
  obtain ⟨b,o,spot⟩:=a
  obtain ⟨n0,_,hc0⟩:=key 0 h0 0 hfs
  have hspot:spot=none:=by simpa [Addr.add] using World.cell?_spot hc0
  subst hspot
  refine ⟨b,o,rfl,by have:=zAU w _ hc0;simpa [Addr.add] using this,λi hil j hjl=>?_⟩
  obtain ⟨n,hn,hc⟩:=key i hil j hjl
  rw [jK,<-Nat.add_assoc] at hc
  exact ⟨n,hn,hc⟩
end
structure Ac where
 s:ByteArray
 a:Int
 n:Int
def Ac.cs (x:Ac):List Value:=[.string x.s,.int .i64 x.a,.int .i64 x.n]
theorem Ac.qw (x:Ac):(Ac.cs x).length=3:=rfl
end Go.Proofs.YtoomffajodheaaaGreatDoor
