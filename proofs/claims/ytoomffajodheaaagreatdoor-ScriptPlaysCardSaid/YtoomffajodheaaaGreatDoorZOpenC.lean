/- The proof of ScriptPlays, part OpenC. Conditions: in each statement. -/
import Derived.Test.YtoomffajodheaaaGreatDoorZLdO
import Derived.Test.YtoomffajodheaaaGreatDoorZMdMd
set_option linter.all false
namespace Go.Proofs.YtoomffajodheaaaGreatDoor
open Go.RowKit Go.ChangeShapes Go.WideShapes Go.Deep
set_option maxRecDepth 100000
theorem zE4{p:Prop}(h:p:=by
 injection h1 with h1
 rw [<-h1] at ht
 obtain ⟨s,e,_⟩:=DataW.trod_string Tryz.underlying9 ht
 exact ⟨_,e,s,rfl⟩):p:=h
section
variable {H:Type} {enc:TypeId × Value->H} {w:World} {base:Nat} {spare:Nat->Bool} {held:Bool}
theorem akD {t e:TypeId} {fuel:Nat} {v:Value} {x:DataW H × List MemPlace} (ht:Tryz.prog.underlying t=some (.slice e)) (h:DataW.trod enc Tryz.prog w base spare held fuel t [v]=some x):∃a n c,v=.slice a n c:=by
 rcases open_slice ht h with ⟨hcs,_⟩|⟨a,len',cap',m,n,D,Pl,hcs,_⟩
 ·exact ⟨_,_,_,by simpa using hcs⟩
 ·exact ⟨_,_,_,by simpa using hcs⟩
theorem akJ {t e:TypeId} {fuel:Nat} {cs:List Value} {x:DataW H × List MemPlace} (ht:Tryz.prog.underlying t=some (.slice e)) (h:DataW.trod enc Tryz.prog w base spare held fuel t cs=some x):∃v,cs=[v]:=by
 rcases open_slice ht h with ⟨hcs,_⟩|⟨a,len',cap',m,n,D,Pl,hcs,_⟩
 ·exact ⟨_,hcs⟩
 ·exact ⟨_,hcs⟩
def CmQ (w:World) (j:Nat) (v:Value):Prop:=if j<=1 then ∃s,v=.string s else ∃(a:Option Addr) (l:List Int) (c:Nat),v=.slice a l.length c/\RdI w w.heap.size a l/\∀n∈l,ayE n
theorem cmQ {fs:Array Field} (h:fs.toList.map (λf=>f.type)=[9,9,27]):∀(j:Nat) (f:Field),fs[j]?=some f->∀(n:Nat) (cs:List Value) (x:DataW H × List MemPlace),DataW.trod enc Tryz.prog w base spare held n f.type cs=some x->∃v,cs=[v]/\CmQ w j v:=λj f hj n cs x ht=>by
 have h1:(fs.toList.map (λf=>f.type))[j]?=some f.type:=by rw [List.getElem?_map,Array.getElem?_toList,hj];rfl
 rw [h] at h1
 match j,h1 with
 |0,h1=>
  exact zE4
 |1,h1=>
  exact zE4
 |2,h1=>
  injection h1 with h1
  rw [<-h1] at ht
  obtain ⟨v,rfl⟩:=akJ Tryz.underlying27 ht
  obtain ⟨a,m,c,rfl⟩:=akD Tryz.underlying27 ht
  obtain ⟨l,e1,e2,e3,-⟩:=a07 Tryz.underlying27 Tryz.underlying3 zK ht
  subst e1
  exact ⟨_,rfl,a,l,c,rfl,e2,e3⟩
 |j+3,h1=>simp at h1
theorem asY {fuel:Nat} {A:Option Addr} {len cap:Nat} {x:DataW H × List MemPlace} (h:DataW.trod enc Tryz.prog w base spare held fuel 22 [.slice A len cap]=some x):
 ∃l:List Cm,l.length=len/\RdC w A l/\(∀c∈l,∀x∈c.n,i64 x)/\len<=maxLen:=by
 obtain ⟨c1,c2,c3⟩:=alX (Q:=CmQ w) Tryz.underlying22 Tryz.underlying29 zK zK zA4 (cmQ rfl) h
 have hq:∀i,i<len->∃c:Cm,∃b o a cc,A=some ⟨b,o,none⟩/\b<w.heap.size/\w.cell? ⟨b,o+i*3,none⟩=some (.string c.w)/\w.cell? ⟨b,o+i*3+1,none⟩=some (.string c.k)/\w.cell? ⟨b,o+i*3+2,none⟩=some (.slice a c.n.length cc)/\RdI w w.heap.size a c.n/\∀n∈c.n,ayE n:=λi hi=>by
  obtain ⟨b,o,hA,hb,hk⟩:=c3 zO
  obtain ⟨v0,⟨s0,rfl⟩,e0⟩:=hk i hi 0 zA4
  obtain ⟨v1,⟨s1,rfl⟩,e1⟩:=hk i hi 1 zA4
  obtain ⟨v2,⟨a,l,cc,rfl,r1,r2⟩,e2⟩:=hk i hi 2 zA4
  exact ⟨⟨s0,s1,l⟩,b,o,a,cc,hA,hb,e0,e1,e2,r1,r2⟩
 obtain ⟨ls,hls,hall⟩:=asR hq
 refine ⟨ls,hls,λi hi=>?_,λc hc n hn=>?_,zAB c1 c2⟩
 ·obtain ⟨b,o,a,cc,hA,hb,e0,e1,e2,r1,-⟩:=hall i _ (zAR hi)
  exact ⟨b,o,a,cc,hA,hb,e0,e1,e2,r1⟩
 ·obtain ⟨i,hi⟩:=List.mem_iff_getElem?.1 hc
  obtain ⟨b,o,a,cc,hA,hb,e0,e1,e2,r1,r2⟩:=hall i c hi
  exact r2 n hn
end
end Go.Proofs.YtoomffajodheaaaGreatDoor
