/- The proof of ScriptPlays, part FrA. Conditions: in each statement. -/
import Derived.Test.YtoomffajodheaaaGreatDoorZRkM
import Derived.Deep.RegionHeld
import Derived.StillTailTactics
set_option linter.all false
namespace Go.Proofs.YtoomffajodheaaaGreatDoor
open Go.RowKit Go.MapKept
set_option maxRecDepth 100000
theorem zBA{p:Prop}(h:p:=by rw [hX];exact (zAA _ _).alloc (zD _) _):p:=h
theorem zBB{p:Prop}(h:p:=by rw [IntKind.wrap_i64];omega):p:=h
theorem zCW{p:Prop}(h:p:=by rw [hX];exact Blk.new _ _ _):p:=h
theorem zCh{p:Prop}(h:p:=by simp [Value.oneCell']):p:=h
theorem zFG{p:Prop}(h:p:=by
 have hi':i≠b:=λe=>hi (by rw [e])
 rw [hw1]
 simp [zAq]
 intro e;exact zAv e.symm hi'):p:=h
def a3I (es:Array MapEntry) (g:Nat->Int):Prop:=∀(j:Nat) (e:MapEntry),es[j]?=some e->∃k:Nat,e.key=.int .i64 k/\e.val=.int .i64 (g k)
structure abG (w:World) (b:Nat) (es:Array MapEntry) (clock:Nat) (g:Nat->Int):Prop where
 hb:w.heap[b]?=some (.map es clock)
 ent:a3I es g
 ks:∀(i j:Nat) (e e':MapEntry),es[i]?=some e->es[j]?=some e'->e.key=e'.key->i=j
 bs:∀(i j:Nat) (e e':MapEntry),es[i]?=some e->es[j]?=some e'->e.born=e'.born->i=j
 lt:∀(j:Nat) (e:MapEntry),es[j]?=some e->e.born<clock
 zero:∀k:Nat,(∀(j:Nat) (e:MapEntry),es[j]?=some e->e.key≠.int .i64 k)->g k=0
section
variable {P:Program} {w w':World} {b:Nat} {es:Array MapEntry} {clock:Nat} {g:Nat->Int}
theorem abG.zU {w:World} {b:Nat} {clock:Nat} (hb:w.heap[b]?=some (.map #[] clock)):abG w b #[] clock (λ_=>0) where
 hb:=hb
 ent:=λj e h=>by simp at h
 ks:=λi j e e' h=>by simp at h
 bs:=λi j e e' h=>by simp at h
 lt:=λj e h=>by simp at h
 zero:=λ_ _=>rfl
theorem abG.same (h:abG w b es clock g) (hs:w'.heap[b]?=w.heap[b]?):abG w' b es clock g:={h with hb:=hs.trans h.hb}
theorem abG.blt (h:abG w b es clock g):b<w.heap.size:=(Array.getElem?_eq_some_iff.1 h.hb).1
theorem abG.keys (h:abG w b es clock g):∀x∈es.toList,IsKey (.int .i64) x.key:=λx hx=>by
 obtain ⟨j,hj⟩:=Array.mem_iff_getElem?.1 (Array.mem_toList_iff.1 hx)
 obtain ⟨k,h1,_⟩:=h.ent j x hj
 rw [h1]
 exact rfl
theorem abG.look (h:abG w b es clock g) {T K E:TypeId} (ht:P.underlying T=some (.map K E)) (hk:P.underlying K=some (.int .i64)) (hz:∀w,(zeroValue E).run P w=.ok (.int .i64 0) w) (k:Nat):
 (Instr.lookup T (.map (some b)) (.int .i64 (k:Int)) false).run P w=.ok (.int .i64 (g k)) w:=by
 have hk1:IsKey (.int .i64) (.int .i64 (k:Int)):=rfl
 rcases findNow_spec hk1 es.toList 0 h.keys with ⟨h1,h2⟩|⟨j,e,h1,h2,h3⟩
 ·have hg:g k=0:=h.zero k λj e hj=>h2 e (Array.mem_toList_iff.2 (Array.mem_iff_getElem?.2 ⟨j,hj⟩))
  simp [Instr.lookup,run_underlying ht,MapKept.run_getObj_map h.hb,run_checkKey hk hk1,run_findKey hk h1,hz,hg,Result.andThen]
 ·obtain ⟨k',e1,e2⟩:=h.ent j e (by simpa using h2)
  rw [e1] at h3
  have h4:k'=k:=by injection h3 with _ h3;omega
  subst h4
  simp [Instr.lookup,run_underlying ht,MapKept.run_getObj_map h.hb,run_checkKey hk hk1,run_findKey hk h1,e2,Result.andThen]
theorem abG.put (h:abG w b es clock g) {T K E:TypeId} (ht:P.underlying T=some (.map K E)) (hk:P.underlying K=some (.int .i64)) (hz:∀w,(zeroValue E).run P w=.ok (.int .i64 0) w) (k:Nat) (x:Int):
 ∃(u:Value) (st:Nat) (w1 w2:World) (es2:Array MapEntry) (c2:Nat),(Instr.mapEntry T (.map (some b)) (.int .i64 (k:Int))).run P w=.ok (.tuple #[u,.int .i64 (st:Int)]) w1/\(Instr.entryStore T (.map (some b)) (.int .i64 (st:Int)) (.int .i64 x)).run P w1=.ok () w2/\
  abG w2 b es2 c2 (λj=>if j=k then x else g j)/\w.grownBy w2 (some b)/\w1.heap.size=w.heap.size/\w2.heap.size=w.heap.size/\(∀i,i≠b->w1.heap[i]?=w.heap[i]?):=by
 have hk1:IsKey (.int .i64) (.int .i64 (k:Int)):=rfl
 have hblt:=h.blt
 rcases findNow_spec hk1 es.toList 0 h.keys with ⟨h1,h2⟩|⟨j,e,h1,h2,h3⟩
 ·have h2':∀(j:Nat) (e:MapEntry),es[j]?=some e->e.key≠.int .i64 k:=λj e hj=>h2 e (Array.mem_toList_iff.2 (Array.mem_iff_getElem?.2 ⟨j,hj⟩))
  obtain ⟨en,hen⟩:∃en:MapEntry,en={key:=.int .i64 (k:Int),val:=.int .i64 0,born:=clock}:=⟨_,rfl⟩
  obtain ⟨w1,hw1⟩:∃w1:World,w1={w with heap:=w.heap.setIfInBounds b (.map (es.push en) (clock+1))}:=⟨_,rfl⟩
  have b1:w1.heap[b]?=some (.map (es.push en) (clock+1)):=by rw [hw1];simp [hblt]
  have hf:(es.push en).findIdx? (λe=>(e.born:Int)==(clock:Int))=some es.size:=by
   rw [Array.findIdx?_eq_some_iff_getElem]
   refine ⟨by simp,by simp [hen],λj hj=>?_⟩
   rw [Array.getElem_push_lt hj]
   have:=h.lt j es[j] (Array.getElem?_eq_getElem hj)
   simp
   omega
  have hm:(es.push en).modify es.size (λe=>{e with val:=.int .i64 x})=es.push {key:=.int .i64 (k:Int),val:=.int .i64 x,born:=clock}:=by
   apply Array.ext
   ·simp
   ·intro i h1 h2
    simp only [Array.getElem_modify]
    by_cases hi:i=es.size
    ·subst hi;simp [hen]
    ·rw [z6 (λe=>hi e.symm)]
     have hi2:i<es.size:=by simp at h1;omega
     rw [Array.getElem_push_lt hi2,Array.getElem_push_lt hi2]
  have hel:∀(i:Nat) (e:MapEntry),(es.push {key:=.int .i64 (k:Int),val:=.int .i64 x,born:=clock})[i]?=some e->(es[i]?=some e)\/(i=es.size/\e={key:=.int .i64 (k:Int),val:=.int .i64 x,born:=clock}):=λi e hi=>by
   rw [Array.getElem?_push] at hi
   by_cases h5:i=es.size
   ·rw [zp h5] at hi;exact .inr ⟨h5,(Option.some.inj hi).symm⟩
   ·rw [z6 h5] at hi;exact .inl hi
  refine ⟨.int .i64 0,clock,w1,{w1 with heap:=w1.heap.setIfInBounds b (.map (es.push {key:=.int .i64 (k:Int),val:=.int .i64 x,born:=clock}) (clock+1))},es.push {key:=.int .i64 (k:Int),val:=.int .i64 x,born:=clock},clock+1,?_,?_,⟨by rw [hw1];simp [hblt],?_,?_,?_,?_,?_⟩,⟨by rw [hw1],by rw [hw1],by rw [hw1],by rw [hw1];simp,λi _ hi=>?_⟩,by rw [hw1];simp,by rw [hw1];simp,λi hi=>by rw [hw1];simp [zAq];intro e;exact zAv e.symm hi⟩
  ·rw [hw1,hen]
   simp [Instr.mapEntry,run_underlying ht,MapKept.run_getObj_map h.hb,run_checkKey hk hk1,run_findKey hk h1,hz,MapKept.run_setObj_map _ h.hb,Result.andThen,goInt]
  ·simp [Instr.entryStore,MapKept.run_getObj_map b1,asInt,asIntOf,hf,hm,MapKept.run_setObj_map _ b1,Result.andThen]
  ·intro i e hi
   rcases hel i e hi with h5|⟨h5,rfl⟩
   ·obtain ⟨k',e1,e2⟩:=h.ent i e h5
    refine ⟨k',e1,?_⟩
    have:k'≠k:=λe3=>h2' i e h5 (by rw [e1,e3])
    simp only [e2,z6 this]
   ·exact ⟨k,rfl,by simp⟩
  ·intro i j e e' hi hj hkk
   rcases hel i e hi with h5|⟨h5,rfl⟩<;>rcases hel j e' hj with h6|⟨h6,rfl⟩
   ·exact h.ks i j e e' h5 h6 hkk
   ·exact zAv hkk (h2' i e h5)
   ·exact zAv hkk.symm (h2' j e' h6)
   ·omega
  ·intro i j e e' hi hj hkk
   rcases hel i e hi with h5|⟨h5,rfl⟩<;>rcases hel j e' hj with h6|⟨h6,rfl⟩
   ·exact h.bs i j e e' h5 h6 hkk
   ·have:=h.lt i e h5;simp only at hkk;omega
   ·have:=h.lt j e' h6;simp only at hkk;omega
   ·omega
  ·intro i e hi
   rcases hel i e hi with h5|⟨h5,rfl⟩
   ·have:=h.lt i e h5;omega
   ·exact Nat.lt_succ_self _
  ·intro k' hk'
   have hne:k'≠k:=λe3=>hk' es.size {key:=.int .i64 (k:Int),val:=.int .i64 x,born:=clock} zA1 (by rw [e3])
   simp only [z6 hne]
   exact h.zero k' λj e hj=>hk' j e (by rw [Array.getElem?_push,z6 (by have:=(Array.getElem?_eq_some_iff.1 hj).1;omega)];exact hj)
  ·exact zFG
 ·have hj:es[j]?=some e:=by simpa using h2
  have hjl:=(Array.getElem?_eq_some_iff.1 hj).1
  have hej:=(Array.getElem?_eq_some_iff.1 hj).2
  have hmod:es.modify j (λe'=>{e' with key:=.int .i64 (k:Int)})=es:=by
   apply Array.ext
   ·simp
   ·intro i h4 h5
    simp only [Array.getElem_modify]
    by_cases hi:j=i
    ·subst hi
     rw [zp rfl,hej,<-h3]
    ·rw [z6 hi]
  obtain ⟨w1,hw1⟩:∃w1:World,w1={w with heap:=w.heap.setIfInBounds b (.map es clock)}:=⟨_,rfl⟩
  have b1:w1.heap[b]?=some (.map es clock):=by rw [hw1];simp [hblt]
  have hf:es.findIdx? (λe'=>(e'.born:Int)==(e.born:Int))=some j:=by
   rw [Array.findIdx?_eq_some_iff_getElem]
   refine ⟨hjl,by simp [hej],λi hi=>?_⟩
   have hi2:i<es.size:=zO
   have:=h.bs i j es[i] e (Array.getElem?_eq_getElem hi2) hj
   simp
   intro h8
   have:=this zO
   omega
  have hel:∀(i:Nat) (e':MapEntry),(es.modify j (λe'=>{e' with val:=.int .i64 x}))[i]?=some e'->(i≠j/\es[i]?=some e')\/(i=j/\e'={e with val:=.int .i64 x}):=λi e' hi=>by
   rw [Array.getElem?_modify] at hi
   by_cases h5:j=i
   ·subst h5
    rw [zp rfl,hj] at hi
    exact .inr ⟨rfl,(Option.some.inj hi).symm⟩
   ·rw [z6 h5] at hi
    exact .inl ⟨λe=>h5 e.symm,by simpa using hi⟩
  have hback:∀(i:Nat) (e':MapEntry),es[i]?=some e'->∃e'',(es.modify j (λe'=>{e' with val:=.int .i64 x}))[i]?=some e''/\e''.key=e'.key:=λi e' hi=>by
   rw [Array.getElem?_modify]
   by_cases h5:j=i
   ·rw [zp h5,hi];exact ⟨_,rfl,rfl⟩
   ·rw [z6 h5,hi];exact ⟨_,rfl,rfl⟩
  refine ⟨e.val,e.born,w1,{w1 with heap:=w1.heap.setIfInBounds b (.map (es.modify j (λe'=>{e' with val:=.int .i64 x})) clock)},es.modify j (λe'=>{e' with val:=.int .i64 x}),clock,?_,?_,⟨by rw [hw1];simp [hblt],?_,?_,?_,?_,?_⟩,⟨by rw [hw1],by rw [hw1],by rw [hw1],by rw [hw1];simp,λi _ hi=>?_⟩,by rw [hw1];simp,by rw [hw1];simp,λi hi=>by rw [hw1];simp [zAq];intro e;exact zAv e.symm hi⟩
  ·rw [hw1]
   simp [Instr.mapEntry,run_underlying ht,MapKept.run_getObj_map h.hb,run_checkKey hk hk1,run_findKey hk h1,hj,h3,run_keyThatStays hk1,MapKept.run_setObj_map _ h.hb,Result.andThen,hmod,goInt]
  ·simp [Instr.entryStore,MapKept.run_getObj_map b1,asInt,asIntOf,hf,MapKept.run_setObj_map _ b1,Result.andThen]
  ·intro i e' hi
   rcases hel i e' hi with ⟨h4,h5⟩|⟨rfl,rfl⟩
   ·obtain ⟨k',e1,e2⟩:=h.ent i e' h5
    refine ⟨k',e1,?_⟩
    have:k'≠k:=λe3=>h4 (h.ks i j e' e h5 hj (by rw [e1,h3,e3]))
    simp only [e2,z6 this]
   ·exact ⟨k,h3,by simp⟩
  ·intro i i' e1 e2 hi hi' hkk
   rcases hel i e1 hi with ⟨h4,h5⟩|⟨rfl,rfl⟩<;>rcases hel i' e2 hi' with ⟨h6,h7⟩|⟨rfl,rfl⟩
   ·exact h.ks i i' e1 e2 h5 h7 hkk
   ·exact h.ks i _ e1 e h5 hj hkk
   ·exact h.ks _ i' e e2 hj h7 hkk
   ·rfl
  ·intro i i' e1 e2 hi hi' hkk
   rcases hel i e1 hi with ⟨h4,h5⟩|⟨rfl,rfl⟩<;>rcases hel i' e2 hi' with ⟨h6,h7⟩|⟨rfl,rfl⟩
   ·exact h.bs i i' e1 e2 h5 h7 hkk
   ·exact h.bs i _ e1 e h5 hj hkk
   ·exact h.bs _ i' e e2 hj h7 hkk
   ·rfl
  ·intro i e' hi
   rcases hel i e' hi with ⟨h4,h5⟩|⟨rfl,rfl⟩
   ·exact h.lt i e' h5
   ·exact h.lt _ e hj
  ·intro k' hk'
   have hne:k'≠k:=λe3=>by
    obtain ⟨e'',h5,h6⟩:=hback j e hj
    exact hk' j e'' h5 (by rw [h6,h3,e3])
   simp only [z6 hne]
   refine h.zero k' λi e' hi=>?_
   obtain ⟨e'',h5,h6⟩:=hback i e' hi
   rw [<-h6]
   exact hk' i e'' h5
  ·exact zFG
end
open Go.RowKit
def aCs (tg:Nat->Int) (j:Nat):List Value:=[.int .i64 (j:Int),.int .i64 (tg j)]
theorem au0 {tg tg':Nat->Int} {l:List Nat} (h:∀j∈l,tg' j=tg j):l.flatMap (aCs tg')=l.flatMap (aCs tg):=by
 induction l with
 |nil=>rfl
 |cons x r ih=>rw [List.flatMap_cons,List.flatMap_cons,ih λj hj=>h j (zAJ _ hj)];unfold aCs;rw [h x zAD]
theorem a0K (tg:Nat->Int) (l:List Nat) (k:Nat):(l++[k]).flatMap (aCs tg)=l.flatMap (aCs tg)++[.int .i64 (k:Int),.int .i64 (tg k)]:=by simp [aCs]
theorem abY {B:Nat} {own:Nat->Prop} {w w1 w2:World} {row:Option Nat} (h:zh B own w own w1) (hg:w1.grownBy w2 row) (hr:∀b,row=some b->own b/\B<=b) (hB:B<=w1.heap.size):zh B own w own w2:=
 ⟨h.1.grown hg hB λb hb=>(hr b hb).2,λb hb ho=>(hg.block b (zAG hb h.1.size) (λe=>ho (hr b e.symm).1)).trans (h.2.1 b hb ho),λ_ hb=>.inl hb⟩
theorem ajQ {B:Nat} {own own':Nat->Prop} {w w1:World} (h:zh B own w own w1) (ho:∀b,own' b->own b\/w.heap.size<=b):zh B own w own' w1:=⟨h.1,h.2.1,ho⟩
theorem abZ {B:Nat} {own own':Nat->Prop} {w w':World} (h:zh B own w own' w') (n:Nat):zh B own w own' (w'.drewN n):=⟨below_drewN h.1 n,h.2.1,h.2.2⟩
structure wU (B g:Nat) (vp vw:Value) (n:Nat) (w:World) (own:Nat->Prop) (s:FS) (gt bm:Nat) (tc:Array Value) (es:Array MapEntry) (ck:Nat) (wv:Value):Prop where
 blk:Blk w g 286 #[vp,vw,.slice (some ⟨gt,0,none⟩) n n,.map (some bm),.int .i64 s.v,wv]
 tb:Blk w gt 3 tc
 ts:tc.size=n
 tt:∀k,k<n->tc[k]?=some (.int .i64 (s.tg k))
 mp:abG w bm es ck s.last
 row:w.ownsRow B 304 2 wv s.w.length (s.w.flatMap (aCs s.tg))
 hB:B<=g/\B<=gt/\B<=bm
 ne:g≠gt/\g≠bm/\gt≠bm
 rne:∀b,wv.ownBlock=some b->b≠g/\b≠gt/\b≠bm
 o:∀b,own b ↔ b=g\/b=gt\/b=bm\/wv.ownBlock=some b
theorem jf {w w':World} {base:Nat} {e:TypeId} {size:Nat} {v:Value} {n:Nat} {xs:List Value} (h:w.ownsRow base e size v n xs) (hs:∀g,v.ownBlock=some g->w'.heap[g]?=w.heap[g]?):w'.ownsRow base e size v n xs:=zDt
section
variable {B g:Nat} {vp vw:Value} {n:Nat} {w w':World} {own:Nat->Prop} {s:FS} {gt bm:Nat} {tc:Array Value} {es:Array MapEntry} {ck:Nat} {wv:Value}
theorem wU.same (h:wU B g vp vw n w own s gt bm tc es ck wv) (hs:∀b,own b->w'.heap[b]?=w.heap[b]?):wU B g vp vw n w' own s gt bm tc es ck wv:=
 {h with
  blk:=h.blk.same (hs g ((h.o g).2 (.inl rfl)))
  tb:=h.tb.same (hs gt ((h.o gt).2 (.inr (.inl rfl))))
  mp:=h.mp.same (hs bm ((h.o bm).2 (.inr (.inr (.inl rfl)))))
  row:=jf h.row λb hb=>hs b ((h.o b).2 (.inr (.inr (.inr hb))))}
theorem wU.xQ (h:wU B g vp vw n w own s gt bm tc es ck wv) {b:Nat} (hb:own b):B<=b/\b<w.heap.size:=by
 rcases (h.o b).1 hb with rfl|rfl|rfl|hb
 ·exact ⟨h.hB.1,h.blk.lt⟩
 ·exact ⟨h.hB.2.1,h.tb.lt⟩
 ·exact ⟨h.hB.2.2,h.mp.blt⟩
 ·exact h.row.lt b hb
theorem wU.alloc (h:wU B g vp vw n w own s gt bm tc es ck wv) (o:Obj):wU B g vp vw n (w.alloc o) own s gt bm tc es ck wv:=h.same λb hb=>zAr w o b (h.xQ hb).2
theorem wU.drewN (h:wU B g vp vw n w own s gt bm tc es ck wv) (m:Nat):wU B g vp vw n (w.drewN m) own s gt bm tc es ck wv:=h.same λ_ _=>rfl
theorem wU.zP (h:wU B g vp vw n w own s gt bm tc es ck wv):B<=w.heap.size:=zAB h.hB.1 (Nat.le_of_lt h.blk.lt)
theorem wU.at_ (h:wU B g vp vw n w own s gt bm tc es ck wv) (i:Nat):w.cell? ⟨g,i,none⟩=#[vp,vw,.slice (some ⟨gt,0,none⟩) n n,.map (some bm),.int .i64 s.v,wv][i]?:=h.blk.cell i
theorem wU.a2Y (h:wU B g vp vw n w own s gt bm tc es ck wv) {k f:Nat} {t:Int} (hk:k<n) (hlt:∀j∈s.w,j≠k) {w2 w3:World} {es2:Array MapEntry} {c2:Nat} {wv':Value}
 (hm:abG w2 bm es2 c2 (λj=>if j=f then t else s.last j)) (g2:(w.setCell ⟨gt,k,none⟩ (.int .i64 t)).grownBy w2 (some bm))
 (hr:w3.ownsRow B 304 2 wv' (s.w.length+1) (s.w.flatMap (aCs s.tg)++[.int .i64 (k:Int),.int .i64 t])) (g3:w2.grownBy w3 wv.ownBlock) (hv:wv'.ownBlock=wv.ownBlock\/∃b,wv'.ownBlock=some b/\w.heap.size<=b):
 wU B g vp vw n (w3.setCell ⟨g,5,none⟩ wv') (λb=>b=g\/b=gt\/b=bm\/wv'.ownBlock=some b) {s with w:=s.w++[k],tg:=upd s.tg k t,last:=upd s.last f t} gt bm (tc.setIfInBounds k (.int .i64 t)) es2 c2 wv'/\
  zh B own w (λb=>b=g\/b=gt\/b=bm\/wv'.ownBlock=some b) (w3.setCell ⟨g,5,none⟩ wv'):=by
 obtain ⟨n1,n2,n3⟩:=h.ne
 have lg:=h.blk.lt
 have lt:=h.tb.lt
 have lm:=h.mp.blt
 have s1:(w.setCell ⟨gt,k,none⟩ (.int .i64 t)).heap.size=w.heap.size:=zf _ _ _
 have s2:=g2.size
 have rb:∀b,wv.ownBlock=some b->b≠g/\b≠gt/\b≠bm:=h.rne
 have rb':∀b,wv'.ownBlock=some b->b≠g/\b≠gt/\b≠bm:=λb hb=>by
  rcases hv with e|⟨b2,e,e2⟩
  ·exact rb b (e▸hb)
  ·rw [hb] at e;injection e with e;omega
 have e2:∀b,b<w.heap.size->b≠bm->b≠gt->w2.heap[b]?=w.heap[b]?:=λb hb hne hne2=>
  (g2.block b (by rw [s1];exact hb) (λe=>hne (Option.some.inj e))).trans (zAF w ⟨gt,k,none⟩ _ b hne2)
 have e3:∀b,b<w2.heap.size->wv.ownBlock≠some b->w3.heap[b]?=w2.heap[b]?:=λb hb hne=>g3.block b hb λe=>hne e.symm
 have ng:∀b,wv.ownBlock=some b->b≠g:=λb hb=>(rb b hb).1
 have kk:zh B own w own w3:=abY (abY (zJ (qB B own w) (a:=⟨gt,k,none⟩) ((h.o gt).2 (.inr (.inl rfl))) h.hB.2.1 _) g2 (λb hb=>by
  obtain rfl:=Option.some.inj hb
  exact ⟨(h.o _).2 (.inr (.inr (.inl rfl))),h.hB.2.2⟩) (by rw [s1];exact h.zP)) g3 (λb hb=>⟨(h.o b).2 (.inr (.inr (.inr hb))),(h.row.lt b hb).1⟩) (zAB h.zP (by rw [<-s1];exact s2))
 refine ⟨{blk:=?_,tb:=?_,ts:=by rw [Array.size_setIfInBounds];exact h.ts,tt:=λj hj=>?_,mp:=?_,row:=?_,hB:=h.hB,ne:=h.ne,rne:=rb',o:=λb=>Iff.rfl},ajQ (zJ kk (a:=⟨g,5,none⟩) ((h.o g).2 (.inl rfl)) h.hB.1 _) λb hb=>?_⟩
 ·have b3:Blk w3 g 286 #[vp,vw,.slice (some ⟨gt,0,none⟩) n n,.map (some bm),.int .i64 s.v,wv]:=
   h.blk.same ((e3 g zO (λe=>(rb g e).1 rfl)).trans (e2 g lg n2 n1))
  exact b3.qi 5 wv'
 ·have b3:Blk w3 gt 3 (tc.setIfInBounds k (.int .i64 t)):=
   ((h.tb.qi k (.int .i64 t)).same (g2.block gt (by rw [s1];exact lt) (λe=>n3 (Option.some.inj e)))).same (e3 gt zO (λe=>(rb gt e).2.1 rfl))
  exact b3.far (λe=>n1 e.symm) _
 ·show _=some (Value.int .i64 (upd s.tg k t j))
  by_cases hjk:j=k
  ·subst hjk;rw [upd_same,zAq,zp rfl,zp (by rw [h.ts];exact hk)]
  ·rw [qx _ _ hjk,zAq,z6 (λe=>hjk e.symm)];exact h.tt j hj
 ·exact (hm.same (e3 bm zO (λe=>(rb bm e).2.2 rfl))).same (zAF w3 ⟨g,5,none⟩ _ bm (λe=>n2 e.symm))
 ·have hl:(s.w++[k]).flatMap (aCs (upd s.tg k t))=s.w.flatMap (aCs s.tg)++[.int .i64 (k:Int),.int .i64 t]:=by
   rw [a0K,au0 λj hj=>qx _ _ (hlt j hj),upd_same]
  show World.ownsRow _ _ _ _ _ (s.w++[k]).length ((s.w++[k]).flatMap (aCs (upd s.tg k t)))
  rw [hl,zAP]
  exact jf hr λb hb=>zAF w3 ⟨g,5,none⟩ _ b (rb' b hb).1
 ·rcases hb with h1|h1|h1|h1
  ·exact .inl ((h.o b).2 (.inl h1))
  ·exact .inl ((h.o b).2 (.inr (.inl h1)))
  ·exact .inl ((h.o b).2 (.inr (.inr (.inl h1))))
  ·rcases hv with e|⟨b2,e,e2⟩
   ·exact .inl ((h.o b).2 (.inr (.inr (.inr (e▸h1)))))
   ·rw [h1] at e;injection e with e;exact .inr zO
end
theorem a2Q:Tryz.prog.underlying 283=some (.map 3 3):=zK
theorem a2R:Tryz.prog.underlying 3=some (.int .i64):=zK
theorem a2P (w:World):(zeroValue 3).run Tryz.prog w=.ok (.int .i64 0) w:=zK
theorem awR:(Tryz.prog.info? 304).map (λi=>(i.zero,i.size,i.bytes))=some (some (.agg #[.int .i64 0,.int .i64 0]),2,16):=zK
theorem cell_two_new (w:World) (x y:Value) (t:TypeId):∀j u,[x,y][j]?=some u->(w.alloc (.cells #[x,y] t)).cell? ((⟨w.heap.size,0,none⟩:Addr).add j)=some u:=by
 intro j u hj
 rw [jK,Nat.zero_add,(Blk.new w t #[x,y]).cell j]
 simpa using hj
theorem anF {m:Nat} {l:List Nat} (lo:Nat) (hlo:lo<=m) (h:l.Pairwise (·< ·)) (hl:∀j∈l,lo<=j/\j<m):l.length+lo<=m:=by
 induction l generalizing lo with
 |nil=>simpa using hlo
 |cons x r ih=>
  obtain ⟨h1,h2⟩:=zAd.1 h
  have h3:=hl x zAD
  have:=ih (x+1) zO h2 λj hj=>⟨h1 j hj,(hl j (zAJ _ hj)).2⟩
  simp only [zAL]
  omega
set_option maxHeartbeats 4000000 in
theorem auA (B g k:Nat) (A A':Option Addr) (c c':Nat) (p:List Pk) (ws:List Int) (w:World) (own:Nat->Prop) (s:FS) (gt bm:Nat) (tc:Array Value) (es:Array MapEntry) (ck:Nat) (wv:Value)
 (h:wU B g (.slice A p.length c) (.slice A' ws.length c') p.length w own s gt bm tc es ck wv) (hp:RdP w B A p) (hq:RdI w B A' ws) (hpk:∀x∈p,zg x) (hw:wOk ws) (hwl:ws.length=8) (hok:FI p ws k s) (hk:k<p.length) (hpl:p.length<=300):
 Calls Tryz.prog 201 #[.pointer (some ⟨g,0,none⟩),.int .i64 k] w λe w'=>e=.returned (.tuple #[])/\∃own' tc' es' ck' wv',wU B g (.slice A p.length c) (.slice A' ws.length c') p.length w' own' (yQ p ws s k) gt bm tc' es' ck' wv'/\zh B own w own' w':=by
 obtain ⟨i0,hi0,hn0,hn1,hn2⟩:=info_parts awR
 have hwn:s.w.length<=300:=by
  have:=anF (m:=k) 0 (zAK _) hok.asc λj hj=>⟨zAK _,hok.lt j hj⟩
  omega
 have hjk:∀j∈s.w,j≠k:=λj hj e=>by have:=hok.lt j hj;omega
 obtain ⟨N,hN⟩:∃N,N=s.w.length:=⟨_,rfl⟩
 have hN3:N<=300:=zO
 have HN:=zL hN
 have Hjk:=zL hjk
 clear hN hwn hjk
 obtain ⟨b,o,rfl,hb,d0,d1,d2⟩:=RdP.get hp hk
 have hx:=hpk _ (zd hk)
 obtain ⟨f,hf⟩:∃f:Nat,p[k].f=f:=⟨p[k].f.toNat,by have:=hx.1;omega⟩
 have hf8:f<8:=by have:=hx.2.1;omega
 have hfl:flN p k=f:=by unfold flN;rw [vR hk,hf];simp
 obtain ⟨z,hz⟩:∃z,z=p[k].s:=⟨_,rfl⟩
 obtain ⟨a,ha⟩:∃a,a=p[k].a:=⟨_,rfl⟩
 have hz1:1<=z:=by rw [hz];exact hx.2.2.1
 have hz2:z<=1500:=by rw [hz];exact hx.2.2.2.1
 have hsz:sOf p k=z:=by rw [yA hk,hz]
 rw [hf] at d0
 rw [<-hz] at d1
 rw [<-ha] at d2
 obtain ⟨b2,o2,rfl,hb2,q0⟩:=RdI.get hq (show f<ws.length by omega)
 obtain ⟨q,hq'⟩:∃q,q=ws[f]:=⟨_,rfl⟩
 have hqu:qu ws f=q:=by unfold qu;rw [hq'];simp [List.getD,show f<ws.length by omega]
 rw [<-hq'] at q0
 have q1:1<=q:=by rw [<-hqu];exact (hw f hf8).1
 obtain ⟨X,hX⟩:∃X:World,X=w.alloc (.cells #[.int .i64 (f:Int),.int .i64 z,.int .i64 a] 53):=⟨_,rfl⟩
 have bx:Below w.heap.size w X:=zBA
 have hM:wU B g (.slice (some ⟨b,o,none⟩) p.length c) (.slice (some ⟨b2,o2,none⟩) ws.length c') p.length X own s gt bm tc es ck wv:=by rw [hX];exact h.alloc _
 have kX:zh B own w own X:=by rw [hX];exact qQ (qB B own w) h.zP _
 have nX:Blk X w.heap.size 53 #[.int .i64 (f:Int),.int .i64 z,.int .i64 a]:=zCW
 have w0:w.cell? ⟨g,0,none⟩=some (.slice (some ⟨b,o,none⟩) p.length c):=h.at_ 0
 have x1:X.cell? ⟨g,1,none⟩=some (.slice (some ⟨b2,o2,none⟩) ws.length c'):=hM.at_ 1
 have x3:X.cell? ⟨g,3,none⟩=some (.map (some bm)):=hM.at_ 3
 have x4:X.cell? ⟨g,4,none⟩=some (.int .i64 s.v):=hM.at_ 4
 have xq:X.cell? ⟨b2,o2+f,none⟩=some (.int .i64 q):=(bx.cell (p:=⟨b2,o2+f,none⟩) (zAU _ _ q0)).trans q0
 have xf:X.cell? ⟨w.heap.size,0,none⟩=some (.int .i64 (f:Int)):=nX.cell 0
 have xz:X.cell? ⟨w.heap.size,1,none⟩=some (.int .i64 z):=nX.cell 1
 have hl:=(hM.drewN 1).mp.look a2Q a2R a2P f
 have hbd:=agK hpk hw hok.bd hk
 have hfT:jR p ws s k=max s.v (s.last f)+z*12 / q:=by unfold jR ad8;rw [hfl,hsz,hqu]
 obtain ⟨lf,hlf⟩:∃lf,lf=s.last f:=⟨_,rfl⟩
 rw [hfT,<-hlf] at hbd
 rw [<-hlf] at hl hfT
 have hl:(Instr.lookup 283 (.map (some bm)) (.int .i64 (f:Int)) false).run Tryz.prog X.drew=.ok (.int .i64 lf) X.drew:=hl
 have z12:(0:Int)<=z*12 / q:=Int.ediv_nonneg zO zO
 have m1:-9223372036854775808<=max s.v lf+z*12 / q:=zO
 have m2:max s.v lf+z*12 / q<=9223372036854775807:=zO
 have p1:(0:Int)<=(k:Int):=zO
 have p2:(k:Int)<(p.length:Int):=zO
 have p3:(0:Int)<=(f:Int):=zO
 have p4:(f:Int)<(ws.length:Int):=zO
 have y1:-9223372036854775808<=z*12:=zO
 have y2:z*12<=9223372036854775807:=zO
 have y3:(0:Int)<=z*12:=zO
 have y4:q≠0:=zO
 have HX:=zL hX
 have HM:=zL hM
 have HH:=zL h
 have HfT:=zL hfT
 have Hlf:=zL hlf
 have Hok:=zL hok
 have Hfl:=zL hfl
 have Hwl:=zL hwl
 obtain ⟨v,hv⟩:∃v,v=s.v:=⟨_,rfl⟩
 rw [<-hv] at x4 m1 m2
 have Hv:=zL hv
 have NX:=zL nX
 have kx1:=And.intro x4 (And.intro x3 (And.intro xf (And.intro xz (And.intro x1 xq))))
 have KX1:=zL kx1
 clear x4 x3 xf xz x1 xq kx1
 clear hwl hv hX hM h hfT hlf hf hz ha hx hsz hqu hq' hok nX hfl
 go_enter Tryz.func201,Tryz.ntmps201
 go_wp2_with fail
 rw [<-HX.o]
 go_region_held (λw'=>w'.cell? ⟨g,4,none⟩=some (.int .i64 v)/\w'.cell? ⟨g,3,none⟩=some (.map (some bm))/\w'.cell? ⟨w.heap.size,0,none⟩=some (.int .i64 (f:Int))/\w'.cell? ⟨w.heap.size,1,none⟩=some (.int .i64 z)/\w'.cell? ⟨g,1,none⟩=some (.slice (some ⟨b2,o2,none⟩) ws.length c')/\w'.cell? ⟨b2,o2+f,none⟩=some (.int .i64 q)) (exact KX1.o) (fail)
 obtain ⟨Y,hY⟩:∃Y:World,Y=X.drew:=⟨_,rfl⟩
 have mY:wU B g (.slice (some ⟨b,o,none⟩) p.length c) (.slice (some ⟨b2,o2,none⟩) ws.length c') p.length Y own s gt bm tc es ck wv:=by rw [hY];exact HM.o.drewN 1
 have kY:zh B own w own Y:=by rw [hY];exact abZ kX 1
 have nY:Blk Y w.heap.size 53 #[.int .i64 (f:Int),.int .i64 z,.int .i64 a]:=by rw [hY];exact NX.o.drewN 1
 obtain ⟨t,ht⟩:∃t,t=max v lf+z*12 / q:=⟨_,rfl⟩
 have hft:t=jR p ws s k:=by rw [ht,HfT.o,Hv.o]
 have v1:IntKind.i64.wrap (z*12)=z*12:=zBB
 have v2:(z*12).tdiv q=z*12 / q:=Int.tdiv_eq_ediv_of_nonneg y3
 have v3:IntKind.i64.wrap (z*12 / q)=z*12 / q:=by have:=Int.ediv_le_self q y3;rw [IntKind.wrap_i64];omega
 have v4:IntKind.i64.wrap (max v lf+z*12 / q)=max v lf+z*12 / q:=zBB
 rw [v1,v2,v3,v4,<-ht,<-hY]
 have ngt:gt≠w.heap.size:=λe=>by have:=HH.o.tb.lt;omega
 have lbm:bm≠w.heap.size:=λe=>by have:=HH.o.mp.blt;omega
 have bY:=mY.blk
 have bD:=bY.drewN 1
 have nD:=nY.drewN 1
 have bE:=bD.far (p:=⟨gt,k,none⟩) mY.ne.1 (.int .i64 t)
 have nE:=nD.far (p:=⟨gt,k,none⟩) (λe=>ngt e.symm) (.int .i64 t)
 have bE':=(bY.far (p:=⟨gt,k,none⟩) mY.ne.1 (.int .i64 t)).drewN 1
 have nE':=(nY.far (p:=⟨gt,k,none⟩) (λe=>ngt e.symm) (.int .i64 t)).drewN 1
 have mp2:abG (Y.setCell ⟨gt,k,none⟩ (.int .i64 t)).drew bm es ck s.last:=(mY.mp).same (zAF Y ⟨gt,k,none⟩ _ bm (λe=>mY.ne.2.2 e.symm))
 obtain ⟨u,st,W1,W2,es2,c2,hr1,hr2,hmp,hg2,s1,s2,h1o⟩:=mp2.put a2Q a2R a2P f t
 have b1:Blk W1 g _ _:=bE'.same (h1o g mY.ne.2.1)
 have n1:Blk W1 w.heap.size _ _:=nE'.same (h1o _ lbm.symm)
 have b2':Blk W2 g _ _:=bE'.grown hg2 (λe=>mY.ne.2.1 (Option.some.inj e))
 have n2':Blk W2 w.heap.size _ _:=nE'.grown hg2 (λe=>lbm (Option.some.inj e).symm)
 have yt:Y.cell? ⟨gt,k,none⟩=some (.int .i64 (s.tg k)):=(mY.tb.cell k).trans (mY.tt k hk)
 have yz:Y.frozen? ⟨gt,k,none⟩=false:=mY.tb.frozen k
 have kd:=And.intro (bD.cell 2) (And.intro (bD.cell 3) (nD.cell 0))
 have ke:=And.intro (bE.cell 2) (And.intro (bE.cell 3) (nE.cell 0))
 have ke':=And.intro (bE'.cell 2) (And.intro (bE'.cell 3) (nE'.cell 0))
 have k1:=And.intro (b1.cell 2) (And.intro (b1.cell 3) (n1.cell 0))
 have k2:=And.intro (b2'.cell 2) (And.intro (b2'.cell 3) (n2'.cell 0))
 have r5:W2.cell? ⟨g,5,none⟩=some wv:=b2'.cell 5
 have f5:W2.frozen? ⟨g,5,none⟩=false:=b2'.frozen 5
 have MY:=zL mY
 have KY:=zL kY
 have HMP:=zL hmp
 have HG2:=zL hg2
 have HY:=zL hY
 have Hft:=zL hft
 have B2:=zL b2'
 have KD:=zL kd
 have KE:=zL ke
 have KE':=zL ke'
 have K1:=zL k1
 have K2:=zL k2
 clear v1 v2 v3 v4 ngt lbm bY bD nD bE nE bE' nE' mp2 hmp hg2 h1o b1 n1 b2' n2' kd ke ke' k1 k2 nY hl m1 m2 hbd z12 y1 hY hft ht mY kY kX
 go_wp2_with fail
 go_region_held (λw'=>w'.cell? ⟨g,2,none⟩=some (.slice (some ⟨gt,0,none⟩) p.length p.length)/\w'.cell? ⟨g,3,none⟩=some (.map (some bm))/\w'.cell? ⟨w.heap.size,0,none⟩=some (.int .i64 (f:Int))) (first |exact KD.o|exact KE'.out|exact KE.o|exact K1.o|exact K2.o) (fail)
 have row2:W2.ownsRow B 304 2 wv N (s.w.flatMap (aCs s.tg)):=by
  rw [HN.o]
  exact jf MY.o.row λb9 hb9=>(HG2.o.block b9 (by rw [show ((Y.setCell ⟨gt,k,none⟩ (.int .i64 t)).drew).heap.size=Y.heap.size from zf _ _ _];exact (MY.o.row.lt b9 hb9).2) (λe=>(MY.o.rne b9 hb9).2.2 (Option.some.inj e))).trans (zAF Y ⟨gt,k,none⟩ _ b9 (MY.o.rne b9 hb9).2.1)
 have s3:Y.heap.size<=W2.heap.size:=by have:=HG2.o.size;rw [show ((Y.setCell ⟨gt,k,none⟩ (.int .i64 t)).drew).heap.size=Y.heap.size from zf _ _ _] at this;exact this
 have b2s:B<=W2.heap.size:=zAB MY.o.zP s3
 have ngw:some g≠wv.ownBlock:=λe=>(MY.o.rne g e.symm).1 rfl
 have Hngw:=zL ngw
 have HR2:=zL row2
 have S3:=zL s3
 clear row2 s1 s2 s3 ngw hr1 hr2 K1 KE KE' KD K2
 go_wp2_with (at_builtin;refine wpList_append_own_at _ rfl _ _ 284 rfl B 304 i0 (.agg #[.int .i64 0,.int .i64 0]) 2 16 Tryz.underlying284 hi0 hn0 hn1 hn2 rfl zA4 _ _ _ rfl (HR2.o.alloc _) ⟨W2.heap.size,0,none⟩ 1 1 [.int .i64 k,.int .i64 t] rfl rfl (cell_two_new _ _ _ _) zCh (by unfold maxLen;omega) zO zA7 ?_;intro v' w5 hown' hgrow hnil hat;clear hnil;obtain ⟨A5,q5,rfl⟩:=yl hown' zA4;have b5:=(B2.o.alloc (.cells #[.int .i64 k,.int .i64 t] 304)).grown hgrow Hngw.o;have c5:w5.cell? ⟨g,5,none⟩=some wv:=b5.cell 5;have z5:w5.frozen? ⟨g,5,none⟩=false:=b5.frozen 5;have HO5:=zL hown';have HG5:=zL hgrow;have HA5:=zM ((Value.slice A5 (N+1) q5).ownBlock=wv.ownBlock\/(Value.slice A5 (N+1) q5).ownBlock=some (W2.alloc (.cells #[.int .i64 k,.int .i64 t] 304)).heap.size) hat;clear hown' hgrow hat b5)
 go_end0
 have hft2:t=jR p ws s k:=Hft.o
 have g2:(Y.setCell ⟨gt,k,none⟩ (.int .i64 t)).grownBy W2 (some bm):=⟨HG2.o.os,HG2.o.tape,HG2.o.output,HG2.o.size,HG2.o.block⟩
 have g3:W2.grownBy w5 wv.ownBlock:=(show W2.grownBy (W2.alloc (.cells #[.int .i64 k,.int .i64 t] 304)) wv.ownBlock from ⟨rfl,rfl,rfl,by simp,λi hi _=>zAr W2 _ i hi⟩).trans HG5.o
 have en:=HN.o
 subst en
 have hO5:=HO5.o
 obtain ⟨r1,r2⟩:=MY.o.a2Y hk Hjk.o HMP.o g2 hO5 g3 (HA5.o.imp_right λe=>⟨_,e,by have:=S3.o;simp;omega⟩)
 have e1:({s with w:=s.w++[k],tg:=upd s.tg k t,last:=upd s.last f t}:FS)=yQ p ws s k:=by unfold yQ;rw [Hfl.o,hft2]
 rw [e1] at r1
 exact ⟨rfl,_,_,_,_,_,r1,qy KY.o r2⟩
end Go.Proofs.YtoomffajodheaaaGreatDoor
