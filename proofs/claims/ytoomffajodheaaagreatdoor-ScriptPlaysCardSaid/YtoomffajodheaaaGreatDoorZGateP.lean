/- The proof of ScriptPlays, part GateP. Conditions: in each statement. -/
import Derived.Test.YtoomffajodheaaaGreatDoorZBkM
import Derived.Test.YtoomffajodheaaaGreatDoorZSrM
set_option linter.all false
namespace Go.Proofs.YtoomffajodheaaaGreatDoor
def numsK (p:List Pk) (f k:Nat):List Nat:=(List.range k).filter λj=>decide (fOf p j=(f:Int))
def ownK (p:List Pk) (f k:Nat):List Pk:=(numsK p f k).map λj=>p.getD j ⟨0,0,0⟩
theorem ae2 {p:List Pk} {f k:Nat} (h:fOf p k=(f:Int)):numsK p f (k+1)=numsK p f k++[k]:=by
 unfold numsK
 rw [List.range_succ,List.filter_append]
 simp [h]
theorem ahE {p:List Pk} {f k:Nat} (h:¬fOf p k=(f:Int)):numsK p f (k+1)=numsK p f k:=by
 unfold numsK
 rw [List.range_succ,List.filter_append]
 simp [h]
theorem alT {p:List Pk} {f k:Nat} (h:fOf p k=(f:Int)):ownK p f (k+1)=ownK p f k++[p.getD k ⟨0,0,0⟩]:=by
 unfold ownK
 rw [ae2 h,List.map_append]
 rfl
theorem aqM {p:List Pk} {f k:Nat} (h:¬fOf p k=(f:Int)):ownK p f (k+1)=ownK p f k:=by
 unfold ownK
 rw [ahE h]
theorem aoF (p:List Pk):(List.range p.length).map (λj=>p.getD j ⟨0,0,0⟩)=p:=by
 refine List.ext_getElem zA1 λj h1 h2=>?_
 simp [List.getD,h2]
theorem uz {p:List Pk} {f k j:Nat}:j∈numsK p f k ↔ j<k/\fOf p j=(f:Int):=by
 unfold numsK
 simp
theorem alZ (p:List Pk) (f k:Nat):(numsK p f k).Nodup:=List.nodup_range.sublist List.filter_sublist
theorem jW (p:List Pk) (f k:Nat):(numsK p f k).length<=k:=by
 have:=(List.filter_sublist (p:=λj=>decide (fOf p j=(f:Int))) (l:=List.range k)).length_le
 simpa [numsK] using this
theorem jg (p:List Pk) (f k:Nat):(ownK p f k).length=(numsK p f k).length:=List.length_map _
theorem ahA (p:List Pk) (f:Nat):(ownK p f p.length).Sublist p:=by
 have h:=((List.filter_sublist (p:=λj=>decide (fOf p j=(f:Int))) (l:=List.range p.length))).map (λj=>p.getD j (⟨0,0,0⟩:Pk))
 rw [aoF] at h
 exact h
def shpR (l:List Ln) (p:List Pk) (f:Nat):List Pk × Int:=if l=[] then (ownK p f p.length,-1) else zG l (ownK p f p.length)
def zN (l:List Ln) (p:List Pk) (f:Nat):Int:=if (shpR l p f).2=-1 then -1 else ((numsK p f p.length).getD (shpR l p f).2.toNat 0:Nat)
def upA (a:Nat->Int) (k:Nat) (x:Int):Nat->Int:=λj=>if j=k then x else a j
def atS (a:Nat->Int):List Nat->List Pk->(Nat->Int)
 |k::ns,x::os=>atS (upA a k x.a) ns os
 |_,_=>a
def ja (m b:Int):Int:=if m=-1\/b<m then b else m
def ahR (cs:List (List Ln)) (p:List Pk) (f:Nat) (st:(Nat->Int) × Int):(Nat->Int) × Int:=
 if zN (cs.getD f []) p f=-1 then (atS st.1 (numsK p f p.length) (shpR (cs.getD f []) p f).1,st.2) else (st.1,ja st.2 (zN (cs.getD f []) p f))
def zF (cs:List (List Ln)) (p:List Pk):Nat->(Nat->Int) × Int
 |0=>(λ_=>0,-1)
 |f+1=>ahR cs p f (zF cs p f)
def ab2 (p:List Pk) (at_:Nat->Int):List Pk:=(agA at_ p.length).map λk=>⟨fOf p k,sOf p k,at_ k⟩
theorem afK (a:Nat->Int) (ns:List Nat) (os:List Pk) (k:Nat) (h:k ∉ ns):atS a ns os k=a k:=by
 induction ns generalizing a os with
 |nil=>cases os<;>rfl
 |cons n ns ih=>
  cases os with
  |nil=>rfl
  |cons x os=>
   unfold atS
   rw [ih _ _ (λe=>h (zAJ _ e))]
   unfold upA
   rw [z6 (λe=>h (by rw [e];exact zAD))]
theorem a11 (a:Nat->Int) (ns:List Nat) (os:List Pk) (hn:ns.Nodup) (hl:os.length=ns.length) (i:Nat) (hi:i<ns.length):atS a ns os ns[i]=(os[i]' zO).a:=by
 induction ns generalizing a os i with
 |nil=>simp at hi
 |cons n ns ih=>
  cases os with
  |nil=>simp at hl
  |cons x os=>
   obtain ⟨h1,h2⟩:=List.nodup_cons.1 hn
   unfold atS
   cases i with
   |zero=>
    simp only [List.getElem_cons_zero]
    rw [afK _ _ _ _ h1]
    unfold upA
    rw [zp rfl]
   |succ i=>
    simp only [List.getElem_cons_succ]
    exact ih _ _ h2 (by simpa using hl) i (by simpa using hi)
structure a3G (l:List Ln) (p:List Pk) (f:Nat):Prop where
 len:(shpR l p f).1.length=(numsK p f p.length).length
 ok:∀x∈(shpR l p f).1,zg x
 so:(shpR l p f).1.Pairwise (λx y=>x.a<=y.a)
 at_:∀i (h1:i<(numsK p f p.length).length) (h2:i<(shpR l p f).1.length),(shpR l p f).1[i].f=fOf p (numsK p f p.length)[i]/\(shpR l p f).1[i].s=sOf p (numsK p f p.length)[i]/\aOf p (numsK p f p.length)[i]<=(shpR l p f).1[i].a/\(l=[]->(shpR l p f).1[i].a=aOf p (numsK p f p.length)[i])
 fit:l≠[]->vF l (shpR l p f).1=true
theorem anW {l:List Ln} {p:List Pk} {f:Nat} (hp:(qj p).1=0) (hl:l=[]\/∀y∈l,yL y) (hb:(shpR l p f).2=-1):a3G l p f:=by
 have hs:=acW hp (ahA p f)
 have hok:=xC hs
 have hso:=pktErr_sorted' hs
 have hget:∀i (h1:i<(numsK p f p.length).length) (h2:i<(ownK p f p.length).length),(ownK p f p.length)[i].f=fOf p (numsK p f p.length)[i]/\(ownK p f p.length)[i].s=sOf p (numsK p f p.length)[i]/\(ownK p f p.length)[i].a=aOf p (numsK p f p.length)[i]:=λi h1 h2=>by
  simp only [ownK,List.getElem_map]
  exact ⟨rfl,rfl,rfl⟩
 by_cases h:l=[]
 ·have e:shpR l p f=(ownK p f p.length,-1):=zp h
  constructor
  ·rw [e];exact jg _ _ _
  ·rw [e];exact hok
  ·rw [e];exact hso
  ·simp only [e]
   intro i h1 h2
   obtain ⟨g1,g2,g3⟩:=hget i h1 h2
   exact ⟨g1,g2,by omega,λ_=>g3⟩
  ·exact λh9=>zAv h h9
 ·have e:shpR l p f=zG l (ownK p f p.length):=z6 h
  have hl':=hl.resolve_left h
  rw [e] at hb
  obtain ⟨t1,t2,t3,t4,t5,-,-⟩:=turner hl' (List.length_pos_iff.2 h) hok hso (Prod.ext rfl hb:zG l (ownK p f p.length)=((zG l (ownK p f p.length)).1,-1))
  constructor
  ·rw [e,t2];exact jg _ _ _
  ·rw [e];exact t4
  ·rw [e];exact t5
  ·simp only [e]
   intro i h1 h2
   obtain ⟨g1,g2,g3⟩:=hget i h1 (by rw [jg];exact h1)
   obtain ⟨u1,u2,u3⟩:=t3 i (by rw [jg];exact h1) h2
   exact ⟨by omega,by omega,by omega,λh9=>zAv h9 h⟩
  ·intro _;rw [e];exact t1
def adB (cs:List (List Ln)):Prop:=∀l∈cs,l=[]\/(qh l).1=0
theorem adB.get {cs:List (List Ln)} (h:adB cs) (f:Nat):cs.getD f []=[]\/∀y∈cs.getD f [],yL y:=by
 by_cases hf:f<cs.length
 ·have e:cs.getD f []=cs[f]:=by simp [List.getD,hf]
  rw [e]
  rcases h _ (zd hf) with h|h
  ·exact .inl h
  ·exact .inr (crvErr_ok h).2.2.1
 ·left
  simp [List.getD,List.getElem?_eq_none (show cs.length<=f by omega)]
structure a4D (cs:List (List Ln)) (p:List Pk) (f:Nat) (a:Nat->Int):Prop where
 le:∀k,k<p.length->fOf p k<(f:Int)->aOf p k<=a k/\a k<=1099511627776
 fl:∀g,g<f->(shpR (cs.getD g []) p g).2=-1/\∀i (h1:i<(numsK p g p.length).length) (h2:i<(shpR (cs.getD g []) p g).1.length),a (numsK p g p.length)[i]=(shpR (cs.getD g []) p g).1[i].a
theorem atZ {m b:Int} (hb:b≠-1):ja m b≠-1:=by
 unfold ja
 split
 ·exact hb
 ·rename_i h
  intro e
  exact h (.inl e)
theorem apH {l:List Ln} {p:List Pk} {f:Nat} (h:zN l p f=-1):(shpR l p f).2=-1:=by
 unfold zN at h
 by_cases h1:(shpR l p f).2=-1
 ·exact h1
 ·rw [z6 h1] at h;omega
theorem awZ {cs:List (List Ln)} {p:List Pk} (hp:(qj p).1=0) (hc:adB cs) (f:Nat) (h:(zF cs p f).2=-1):a4D cs p f (zF cs p f).1:=by
 induction f with
 |zero=>exact ⟨λk hk h9=>by have:=(xC hp _ (zd hk)).1;rw [vR hk] at h9;omega,λg hg=>by omega⟩
 |succ f ih=>
  unfold zF ahR at h ⊢
  by_cases hb:zN (cs.getD f []) p f=-1
  ·rw [zp hb] at h ⊢
   have hi:=ih h
   have hb2:=apH hb
   have hs:=anW hp (hc.get f) hb2
   have hin:∀i (h1:i<(numsK p f p.length).length) (h2:i<(shpR (cs.getD f []) p f).1.length),atS (zF cs p f).1 (numsK p f p.length) (shpR (cs.getD f []) p f).1 (numsK p f p.length)[i]=(shpR (cs.getD f []) p f).1[i].a:=λi h1 h2=>a11 _ _ _ (alZ _ _ _) hs.len i h1
   refine ⟨λk hk h9=>?_,λg hg=>?_⟩
   ·by_cases hkf:fOf p k=(f:Int)
    ·have hm:k∈numsK p f p.length:=uz.2 ⟨hk,hkf⟩
     obtain ⟨i,hi1,hi2⟩:=List.getElem_of_mem hm
     have e:=hin i hi1 (by rw [hs.len];exact hi1)
     obtain ⟨a1,a2,a3,-⟩:=hs.at_ i hi1 (by rw [hs.len];exact hi1)
     have h7:=hs.ok _ (zd (show i<(shpR (cs.getD f []) p f).1.length by rw [hs.len];exact hi1))
     rw [hi2] at e a3
     simp only
     rw [e]
     exact ⟨a3,h7.2.2.2.2.2⟩
    ·simp only
     rw [afK _ _ _ _ (λe=>hkf (uz.1 e).2)]
     exact hi.le k hk zO
   ·by_cases hgf:g=f
    ·subst hgf
     exact ⟨hb2,hin⟩
    ·obtain ⟨q1,q2⟩:=hi.fl g zO
     refine ⟨q1,λi h1 h2=>?_⟩
     simp only
     rw [afK _ _ _ _ (λe=>by
      have e1:=(uz.1 e).2
      have e2:=(uz.1 (zd h1)).2
      omega)]
     exact q2 i h1 h2
  ·rw [z6 hb] at h
   exact zAv h (atZ hb)
theorem az0 {cs:List (List Ln)} {p:List Pk} (hp:(qj p).1=0) (hc:adB cs) (h:(zF cs p 8).2=-1):(qj (ab2 p (zF cs p 8).1)).1=0:=by
 have ha:=awZ hp hc 8 h
 have hok:=xC hp
 refine ajC ?_ (λx hx=>?_) ?_
 ·unfold ab2
  rw [List.length_map,adQ]
  exact vg hp
 ·obtain ⟨k,hk,rfl⟩:=zAT.1 hx
  have hkl:=akI hk
  obtain ⟨x1,x2,x3,x4,x5,x6⟩:=hok _ (zd hkl)
  obtain ⟨y1,y2⟩:=ha.le k hkl (by rw [vR hkl];exact x2)
  rw [zy hkl] at y1
  refine ⟨?_,?_,?_,?_,?_,?_⟩<;>simp only [vR hkl,yA hkl]<;>omega
 ·unfold ab2
  rw [List.pairwise_map]
  refine (ahB _ _).imp fun {a b} hab=>?_
  unfold afN at hab
  simp only
  omega
theorem ahS (p:List Pk) (a:Nat->Int):(ab2 p a).length=p.length:=by unfold ab2;rw [List.length_map,adQ]
end Go.Proofs.YtoomffajodheaaaGreatDoor
