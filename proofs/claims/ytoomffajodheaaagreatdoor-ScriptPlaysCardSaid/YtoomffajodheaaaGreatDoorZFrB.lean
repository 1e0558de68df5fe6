/- The proof of ScriptPlays, part FrB. Conditions: in each statement. -/
import Derived.Test.YtoomffajodheaaaGreatDoorZFrA
import Derived.Deep.Upon
set_option linter.all false
namespace Go.Proofs.YtoomffajodheaaaGreatDoor
open Go.RowKit
set_option maxRecDepth 100000
def adM:Array Value->Nat->List Value->Array Value
 |cur,_,[]=>cur
 |cur,o,v::r=>adM (cur.setIfInBounds o v) (o+1) r
theorem aaT (vs:List Value):∀(cur:Array Value) (o:Nat),(adM cur o vs).size=cur.size:=by
 induction vs with
 |nil=>exact λ_ _=>rfl
 |cons v r ih=>exact λcur o=>by show (adM _ _ r).size=_;rw [ih];simp
theorem ajB (vs:List Value):∀(cur:Array Value) (o:Nat),o+vs.length<=cur.size->(adM cur o vs).toList=cur.toList.take o++(vs++cur.toList.drop (o+vs.length)):=by
 induction vs with
 |nil=>exact λcur o _=>by simp [adM]
 |cons v r ih=>
  intro cur o h
  simp only [zAL] at h
  show (adM (cur.setIfInBounds o v) (o+1) r).toList=_
  rw [ih _ _ zA7]
  have e:(cur.setIfInBounds o v).toList=cur.toList.take o++v::cur.toList.drop (o+1):=by
   rw [Array.toList_setIfInBounds,List.set_eq_take_append_cons_drop,zp zA7]
  have l1:(cur.toList.take o).length=o:=zA7
  have d1:(cur.toList.take o++v::cur.toList.drop (o+1)).drop (o+1+r.length)=cur.toList.drop (o+(r.length+1)):=by
   rw [List.drop_append,l1,zAO (by rw [l1];omega),show o+1+r.length - o=r.length+1 by omega,List.drop_succ_cons,List.drop_drop,zAa]
   congr 1;omega
  have d2:(cur.toList.take o++v::cur.toList.drop (o+1)).take (o+1)=cur.toList.take o++[v]:=by
   rw [List.take_append,l1,zAZ (by rw [l1];omega),show o+1 - o=1 by omega];rfl
  rw [e,d1,d2,zAi]
  rfl
theorem Blk.a2E {g:Nat} {t:TypeId} (vs:List Value):∀{w:World} {cur:Array Value} (o:Nat),Blk w g t cur->Blk (w.setCells g o vs) g t (adM cur o vs):=by
 induction vs with
 |nil=>exact λo h=>h
 |cons v r ih=>exact λo h=>ih (o+1) (h.qi o v)
theorem ai7 (g:Nat) (vs:List Value):∀(w:World) (o:Nat),(w.setCells g o vs).heap.size=w.heap.size:=by
 induction vs with
 |nil=>exact λ_ _=>rfl
 |cons v r ih=>exact λw o=>(ih (w.setCell ⟨g,o,none⟩ v) (o+1)).trans (zf _ _ _)
theorem ag0 (g:Nat) (vs:List Value):∀(w:World) (o:Nat) (b:Nat),b≠g->(w.setCells g o vs).heap[b]?=w.heap[b]?:=by
 induction vs with
 |nil=>exact λ_ _ _ _=>rfl
 |cons v r ih=>exact λw o b hb=>(ih (w.setCell ⟨g,o,none⟩ v) (o+1) b hb).trans (zAF w ⟨g,o,none⟩ v b hb)
theorem ai6 (g:Nat) (vs:List Value):∀(w:World) (o:Nat),(w.setCells g o vs).tape=w.tape:=by
 induction vs with
 |nil=>exact λ_ _=>rfl
 |cons v r ih=>exact λw o=>(ih (w.setCell ⟨g,o,none⟩ v) (o+1)).trans rfl
theorem ax8 (tg:Nat->Int) (l:List Nat):∀i,(l.flatMap (aCs tg)).take (i*2)=(l.take i).flatMap (aCs tg):=by
 induction l with
 |nil=>simp
 |cons x r ih=>
  intro i
  cases i with
  |zero=>simp
  |succ i=>rw [List.take_succ_cons,List.flatMap_cons,List.flatMap_cons,<-ih i];show List.take ((i+1)*2) (Value.int .i64 _::Value.int .i64 _::_)=_;rw [show (i+1)*2=i*2+1+1 by omega];rfl
theorem ab6 (tg:Nat->Int) (l:List Nat):(l.flatMap (aCs tg)).length=l.length*2:=by
 induction l with
 |nil=>rfl
 |cons x r ih=>rw [List.flatMap_cons,zAP,ih];simp [aCs];omega
theorem a0J (tg:Nat->Int) (l:List Nat) {i:Nat} (h:i<l.length):(l.flatMap (aCs tg))[i*2]?=some (.int .i64 (l[i]:Int))/\(l.flatMap (aCs tg))[i*2+1]?=some (.int .i64 (tg l[i])):=by
 induction l generalizing i with
 |nil=>simp at h
 |cons x r ih=>
  cases i with
  |zero=>simp [aCs]
  |succ i=>
   have:=ih (i:=i) (by simpa using h)
   rw [List.flatMap_cons]
   rw [show (i+1)*2=i*2+1+1 by omega]
   simpa [aCs] using this
theorem az6 {tg:Nat->Int} {l:List Nat} {n i:Nat} {cur:Array Value} (hn:l.length=n) (hi:i<n) (hcs:n*2<=cur.size) (hc:cur.toList.take (n*2)=l.flatMap (aCs tg)) (x y:Value):
 (adM (adM cur (i*2) ((l.drop (i+1)).flatMap (aCs tg))) ((n - 1)*2) [x,y]).toList.take ((n - 1)*2)=(l.eraseIdx i).flatMap (aCs tg):=by
 have l1:((l.drop (i+1)).flatMap (aCs tg)).length=(n - (i+1))*2:=by rw [ab6];simp [hn]
 have e2:(adM (adM cur (i*2) ((l.drop (i+1)).flatMap (aCs tg))) ((n - 1)*2) [x,y]).toList.take ((n - 1)*2)=(adM cur (i*2) ((l.drop (i+1)).flatMap (aCs tg))).toList.take ((n - 1)*2):=by
  rw [ajB _ _ _ (by rw [aaT];simp;omega),List.take_append,List.take_take,Nat.min_self]
  have:(List.take ((n - 1)*2) (adM cur (i*2) ((l.drop (i+1)).flatMap (aCs tg))).toList).length=(n - 1)*2:=by
   simp only [zAh,Array.length_toList,aaT];omega
  rw [this,Nat.sub_self,List.take_zero,zAo]
 rw [e2,ajB _ _ _ (by rw [l1];omega),<-zAi]
 have l2:(cur.toList.take (i*2)).length=i*2:=zA7
 have l3:(cur.toList.take (i*2)++(l.drop (i+1)).flatMap (aCs tg)).length=(n - 1)*2:=by rw [zAP,l1,l2];omega
 rw [List.take_append,l3,Nat.sub_self,List.take_zero,zAo,zAZ zO]
 have e3:cur.toList.take (i*2)=(l.take i).flatMap (aCs tg):=by
  rw [<-ax8,<-hc,List.take_take,Nat.min_eq_left zO]
 rw [e3,List.eraseIdx_eq_take_drop_succ,List.flatMap_append]
theorem anJ (w:World):(zeroValue 304).run Tryz.prog w=.ok (.agg #[.int .i64 0,.int .i64 0]) w:=zK
theorem ao8:(Tryz.prog.info? 304).map (λi=>(i.zero,i.size,i.bytes))=some (some (.agg #[.int .i64 0,.int .i64 0]),2,16):=zK
theorem ai1:Tryz.prog.underlying 284=some (.slice 304):=zK
theorem aiK (W:World) (ty:TypeId) (b o c:Nat) (hc:∀j,j<2->(W.cell? ⟨b,o+j,none⟩).isSome=true) (hf:∀j,j<2->W.frozen? ⟨b,o+j,none⟩=false):
 (Builtin.clear_ #[284] ty #[.slice (some ⟨b,o,none⟩) 1 c]).run Tryz.prog W=.ok (.tuple #[]) (W.setCells b o [.int .i64 0,.int .i64 0]):=by
 have hst:=run_storeCells_cells (P:=Tryz.prog) b o [.int .i64 0,.int .i64 0] 0 W (by simpa using hc) (by simpa using hf) zCh
 simp only [Nat.add_zero] at hst
 have hz:(Builtin.zeroCells (Value.agg #[.int .i64 0,.int .i64 0]).cells 1).toList=[Value.int .i64 0,Value.int .i64 0]:=zK
 simp [Builtin.clear_,run_underlying ai1,anJ,hz,hst]
set_option maxHeartbeats 2000000 in
theorem aw7 (B r n cap i:Nat) (tg:Nat->Int) (l:List Nat) (w:World) (h:w.ownsRow B 304 2 (.slice (some ⟨r,0,none⟩) n cap) n (l.flatMap (aCs tg))) (hn:l.length=n) (hi:i<n) (hn3:n<=1000):
 Calls Tryz.prog 218 #[.slice (some ⟨r,0,none⟩) n cap,.int .i64 i,.int .i64 ((i:Int)+1)] w λe w'=>e=.returned (.slice (some ⟨r,0,none⟩) (n - 1) cap)/\
  w'.ownsRow B 304 2 (.slice (some ⟨r,0,none⟩) (n - 1) cap) (n - 1) ((l.eraseIdx i).flatMap (aCs tg))/\w.grownBy w' (some r):=by
 obtain ⟨h0,hx⟩:=h
 rcases hx with ⟨hx,_⟩|⟨r',cap',cur,hv,hB,hb,hnc,hcm,hsz,hcur⟩
 ·cases hx
 obtain ⟨⟨rfl,_,_⟩,_,rfl⟩:(r=r'/\True/\True)/\n=n/\cap=cap':=by
  simp only [zAp,zAC,zAS,and_true,true_and] at hv
  exact ⟨⟨hv.1,trivial,trivial⟩,rfl,hv.2⟩
 have hbk:Blk w r 304 cur:=hb
 obtain ⟨i0,hi0,hz0,hz1,hz2⟩:=info_parts ao8
 obtain ⟨news,hnews⟩:∃news,news=(l.drop (i+1)).flatMap (aCs tg):=⟨_,rfl⟩
 have hlen:news.length=(n - (i+1))*2:=by rw [hnews,ab6];simp [hn]
 have hone:∀u∈news,u.oneCell'=true:=by
  intro u hu
  rw [hnews] at hu
  obtain ⟨x,_,hx⟩:=List.mem_flatMap.1 hu
  simp only [aCs,zAM,List.not_mem_nil,or_false] at hx
  rcases hx with rfl|rfl<;>rfl
 have hdr:l.flatMap (aCs tg)=(l.take (i+1)).flatMap (aCs tg)++news:=by rw [hnews,<-List.flatMap_append,List.take_append_drop]
 have hsrc0:∀t u,news[t]?=some u->cur[(i+1)*2+t]?=some u:=λt u hu=>by
  have ht:=(zAj.1 hu).1
  have e1:(cur.toList.take (n*2))[(i+1)*2+t]?=some u:=by
   rw [hcur,hdr,List.getElem?_append_right (by rw [ab6];simp;omega),ab6]
   rw [show (i+1)*2+t - (l.take (i+1)).length*2=t by simp;omega]
   exact hu
  rw [List.getElem?_take,zp zO] at e1
  simpa using e1
 obtain ⟨A,hA,hsrc⟩:∃A:Addr,(if cap=i+1 then some (⟨r,0,none⟩:Addr) else some ⟨r,(i+1)*2,none⟩)=some A/\Hid (∀t u,news[t]?=some u->w.drew.cell? (A.add t)=some u):=by
  by_cases hc:cap=i+1
  ·refine ⟨⟨r,0,none⟩,by rw [zp hc],λt u hu=>?_⟩
   have ht:=(zAj.1 hu).1
   omega
  ·refine ⟨⟨r,(i+1)*2,none⟩,by rw [z6 hc],λt u hu=>?_⟩
   rw [jK]
   exact (hbk.cell _).trans (hsrc0 t u hu)
 have s3:Hid (∀t,t<news.length->(w.drew.cell? ⟨r,0+i*2+t,none⟩).isSome=true/\w.drew.frozen? ⟨r,0+i*2+t,none⟩=false):=by
  intro t ht
  refine ⟨?_,hbk.frozen _⟩
  show (w.cell? _).isSome=true
  rw [hbk.cell,Array.getElem?_eq_getElem zO]
  rfl
 obtain ⟨W1,hW1⟩:∃W1,W1=w.drew.setCells r (0+i*2) news:=⟨_,rfl⟩
 have b1:Blk W1 r 304 (adM cur (i*2) news):=by
  rw [hW1,Nat.zero_add]
  exact Blk.a2E news (i*2) (show Blk w.drew r _ cur from hbk)
 obtain ⟨m,hm⟩:∃m,m=n - 1:=⟨_,rfl⟩
 have Hm2:=zM (i+(n - (i+1))=m) zO
 have hcl0:=λty=>aiK W1 ty r (m*2) (cap - m) (λj hj=>by rw [b1.cell,Array.getElem?_eq_getElem (by rw [aaT];omega)];rfl) (λj _=>b1.frozen _)
 have hcl:∀ty,(Builtin.clear_ #[284] ty #[.slice (some ⟨r,m*2,none⟩) (n - m) (cap - m)]).run Tryz.prog W1=.ok (.tuple #[]) (W1.setCells r (m*2) [.int .i64 0,.int .i64 0]):=λty=>by rw [show n - m=1 by omega];exact hcl0 ty
 have HW1:=zL hW1
 have u1:m<=n:=zO
 have u2:¬cap=m:=zO
 have u3:(m:Int)<=(n:Int):=zO
 have u4:n<=cap:=zO
 have Hm:=zL hm
 have B1:=zL b1
 have HN:=zL hnews
 have HC:=zL hcur
 have q1:(0:Int)<=(i:Int):=zO
 have q2:(i:Int)+1<=(n:Int):=zO
 have q3:(i:Int)+1<=(cap:Int):=zO
 have q4:(n:Int)<=(cap:Int):=zO
 have q5:((i:Int)==(i:Int)+1)=false:=beq_eq_false_iff_ne.2 zO
 have q6:(i:Int)+1<=9223372036854775807:=zO
 have HL:=zL hlen
 have hnl:=zL hn
 have HSZ:=zL hsz
 have HO:=zL hone
 have q7:(0:Int)<=(i:Int)+1:=zO
 have t1:i<=cap:=zO
 have t2:i+1<=cap:=zO
 have t3:i+1<=n:=zO
 clear hm hcl0 hW1 b1 hnews hcur hsrc0 hdr hb hbk h0 hv hn hsz hlen hone
 go_enter Tryz.func218,Tryz.ntmps218
 go_wp2_with fail
 go_region_law (refine step_append_room rfl (.tmp 22) (.tmp 25) 284 rfl 304 i0 2 ai1 hi0 hz1 r 0 i cap (by simp [Act.eval,Act.put]) A (n - (i+1)) (cap - (i+1)) news (by simp [Act.eval,Act.put]) HL.o hsrc.out HO.o zO s3.out ?_;rw [<-HW1.o,Hm2.o])
 go_wp2_with fail
 go_ret
 have e1:=Hm.o
 subst e1
 have b2:=Blk.a2E [.int .i64 0,.int .i64 0] ((n - 1)*2) B1.o
 have hel:(l.eraseIdx i).length=n - 1:=by rw [List.length_eraseIdx,zp (by rw [hnl.o];exact hi),hnl.o]
 refine ⟨rfl,⟨by rw [ab6,hel],.inr ⟨r,cap,_,rfl,hB,b2,by omega,hcm,by rw [aaT,aaT];exact HSZ.o,?_⟩⟩,⟨?_,?_,?_,?_,λb hb hne=>?_⟩⟩
 ·rw [HN.o];exact az6 hnl.o hi (by rw [HSZ.o];omega) HC.o _ _
 ·rw [World.os_setCells,HW1.o,World.os_setCells];rfl
 ·rw [ai6,HW1.o,ai6];rfl
 ·rw [World.output_setCells,HW1.o,World.output_setCells];rfl
 ·rw [ai7,HW1.o,ai7];exact zD _
 ·have hne':b≠r:=λe=>hne (by rw [e])
  rw [ag0 _ _ _ _ _ hne',HW1.o,ag0 _ _ _ _ _ hne']
  rfl
theorem ap1 (key:Nat->Int) (s:List Nat) (b i:Nat) (kb:Int) (hi:i<s.length):xy key b kb i (s.drop i)=if key s[i]<kb then xy key i (key s[i]) (i+1) (s.drop (i+1)) else xy key b kb (i+1) (s.drop (i+1)):=by
 rw [zAE hi];rfl
theorem wU.a2K {B g:Nat} {vp vw:Value} {n:Nat} {w:World} {own:Nat->Prop} {s:FS} {gt bm:Nat} {tc:Array Value} {es:Array MapEntry} {ck:Nat} {wv:Value} (h:wU B g vp vw n w own s gt bm tc es ck wv) {r i:Nat} (hwv:wv.ownBlock=some r) {w2:World} {wv':Value} {x:Int}
 (hr:w2.ownsRow B 304 2 wv' (s.w.eraseIdx i).length ((s.w.eraseIdx i).flatMap (aCs s.tg))) (g2:w.grownBy w2 (some r)) (hv:wv'.ownBlock=some r):
 wU B g vp vw n ((w2.setCell ⟨g,5,none⟩ wv').setCell ⟨g,4,none⟩ (.int .i64 x)) own {s with w:=s.w.eraseIdx i,v:=x} gt bm tc es ck wv'/\zh B own w own ((w2.setCell ⟨g,5,none⟩ wv').setCell ⟨g,4,none⟩ (.int .i64 x)):=by
 obtain ⟨n1,n2,n3⟩:=h.ne
 obtain ⟨r1,r2,r3⟩:=h.rne r hwv
 have lg:=h.blk.lt
 have lt:=h.tb.lt
 have lm:=h.mp.blt
 have e2:∀b,b<w.heap.size->b≠r->w2.heap[b]?=w.heap[b]?:=λb hb hne=>g2.block b hb λe=>hne (Option.some.inj e)
 have fin:∀b,b<w.heap.size->b≠r->b≠g->((w2.setCell ⟨g,5,none⟩ wv').setCell ⟨g,4,none⟩ (.int .i64 x)).heap[b]?=w.heap[b]?:=λb hb hne hng=>
  (zAF (w2.setCell ⟨g,5,none⟩ wv') ⟨g,4,none⟩ _ b hng).trans ((zAF w2 ⟨g,5,none⟩ _ b hng).trans (e2 b hb hne))
 have og:own g:=(h.o g).2 (.inl rfl)
 refine ⟨{blk:=?_,tb:=h.tb.same (fin gt lt r2.symm n1.symm),ts:=h.ts,tt:=h.tt,mp:=h.mp.same (fin bm lm r3.symm n2.symm),row:=?_,hB:=h.hB,ne:=h.ne,rne:=λb hb=>by rw [hv] at hb;obtain rfl:=Option.some.inj hb;exact ⟨r1,r2,r3⟩,o:=λb=>by rw [h.o b,hwv,hv]},?_⟩
 ·have b2:Blk w2 g 286 #[vp,vw,.slice (some ⟨gt,0,none⟩) n n,.map (some bm),.int .i64 s.v,wv]:=h.blk.same (e2 g lg r1.symm)
  exact (b2.qi 5 wv').qi 4 (.int .i64 x)
 ·exact jf hr λb hb=>by
   rw [hv] at hb
   obtain rfl:=Option.some.inj hb
   exact (zAF (w2.setCell ⟨g,5,none⟩ wv') ⟨g,4,none⟩ _ r r1).trans (zAF w2 ⟨g,5,none⟩ _ r r1)
 ·exact zJ (zJ (abY (qB B own w) g2 (λb hb=>by obtain rfl:=Option.some.inj hb;exact ⟨(h.o _).2 (.inr (.inr (.inr hwv))),(h.row.lt _ hwv).1⟩) h.zP) (a:=⟨g,5,none⟩) og h.hB.1 _) (a:=⟨g,4,none⟩) og h.hB.1 _
set_option maxHeartbeats 1000000 in
theorem apG (B g n:Nat) (vp vw:Value) (w:World) (own:Nat->Prop) (s:FS) (gt bm:Nat) (tc:Array Value) (es:Array MapEntry) (ck:Nat) (wv:Value) (h:wU B g vp vw n w own s gt bm tc es ck wv) (hs:s.w=[]):
 Calls Tryz.prog 202 #[.pointer (some ⟨g,0,none⟩)] w λe w'=>e=.returned (.tuple #[.int .i64 0,.bool false])/\w=w':=by
 have hr:=h.row
 rw [hs] at hr
 obtain ⟨A,c,rfl⟩:∃A c,wv=.slice A 0 c:=by
  rcases hr.2 with ⟨h1,_⟩|⟨g',cap,cur,h1,_⟩
  ·exact ⟨_,_,h1⟩
  ·exact ⟨_,_,h1⟩
 have e5:w.cell? ⟨g,5,none⟩=some (.slice A 0 c):=h.at_ 5
 clear h hs hr
 go_enter Tryz.func202,Tryz.ntmps202
 go_wp2_with fail
 go_ret2
 exact ⟨rfl,rfl⟩
set_option maxHeartbeats 2000000 in
theorem apF (B g n:Nat) (vp vw:Value) (w:World) (own:Nat->Prop) (s:FS) (gt bm:Nat) (tc:Array Value) (es:Array MapEntry) (ck:Nat) (wv:Value) (h:wU B g vp vw n w own s gt bm tc es ck wv) (hs:0<s.w.length) (hn:s.w.length<=1000) (htb:∀j∈s.w,0<=s.tg j/\s.tg j<=9223372036854775807):
 Calls Tryz.prog 202 #[.pointer (some ⟨g,0,none⟩)] w λe w'=>e=.returned (.tuple #[.int .i64 (xw s),.bool true])/\∃wv',wU B g vp vw n w' own {s with w:=s.w.eraseIdx (bestI s.tg s.w),v:=s.tg (xw s)} gt bm tc es ck wv'/\zh B own w own w':=by
 obtain ⟨r,cap,rfl⟩:∃r cap,wv=.slice (some ⟨r,0,none⟩) s.w.length cap:=by
  rcases h.row.2 with ⟨_,h1⟩|⟨g',cap,cur,h1,_⟩
  ·omega
  ·exact ⟨_,_,h1⟩
 obtain ⟨N,hN⟩:∃N,N=s.w.length:=⟨_,rfl⟩
 have HN:=zL hN
 rw [<-hN] at h hs hn
 have e5:w.cell? ⟨g,5,none⟩=some (.slice (some ⟨r,0,none⟩) N cap):=h.at_ 5
 have ne0:((N:Int)==0)=false:=beq_eq_false_iff_ne.2 zO
 have HH:=zL h
 clear hN h
 go_enter Tryz.func202,Tryz.ntmps202
 go_wp2_with fail
 go_loopw [4,19] (λbv iv wr=>∃b i:Nat,bv=.int .i64 b/\iv=.int .i64 i/\b<N/\i<=N/\bestI s.tg s.w=xy s.tg b (s.tg (s.w.getD b 0)) i (s.w.drop i)/\wU B g vp vw n wr own s gt bm tc es ck (.slice (some ⟨r,0,none⟩) N cap)/\zh B own w own wr) (λ_ iv _=>N - (intOf iv).toNat)
 case atStart=>exact ⟨0,0,rfl,rfl,hs,zAK _,rfl,HH.o,qB _ _ _⟩
 case round=>
  obtain ⟨b,i,rfl,rfl,hb,hi,hbest,hm,hk⟩:=hrel
  have cellsAt:∀(W:World) (j:Nat),wU B g vp vw n W own s gt bm tc es ck (.slice (some ⟨r,0,none⟩) N cap)->(hj:j<s.w.length)->W.cell? ⟨r,j*2,none⟩=some (.int .i64 (s.w[j]:Int))/\W.cell? ⟨r,j*2+1,none⟩=some (.int .i64 (s.tg s.w[j])):=λW j hM hj=>by
   have hc:=hM.row.cells (g:=r) rfl
   obtain ⟨a1,a2⟩:=a0J s.tg s.w hj
   have c1:=hc _ _ a1
   have c2:=hc _ _ a2
   rw [jK,Nat.zero_add] at c1 c2
   exact ⟨c1,c2⟩
  have hg5:wr.cell? ⟨g,5,none⟩=some (.slice (some ⟨r,0,none⟩) N cap):=hm.at_ 5
  have hbl:b<s.w.length:=by rw [<-HN.o];exact hb
  have p1:(0:Int)<=(i:Int):=zO
  have p3:(0:Int)<=(b:Int):=zO
  have p4:(b:Int)<(N:Int):=zO
  have egB:s.w.getD b 0=s.w[b]:=by simp [List.getD,hbl]
  by_cases hlt:i<N
  ·have hil:i<s.w.length:=by rw [<-HN.o];exact hlt
   have p2:(i:Int)<(N:Int):=zO
   have hst:=ap1 s.tg s.w b i (s.tg (s.w.getD b 0)) hil
   obtain ⟨c0,c1⟩:=cellsAt wr i hm hil
   obtain ⟨kI,hkI⟩:∃kI,kI=s.tg s.w[i]:=⟨_,rfl⟩
   obtain ⟨kB,hkB⟩:∃kB,kB=s.tg s.w[b]:=⟨_,rfl⟩
   obtain ⟨li,hli⟩:∃li:Nat,li=s.w[i]:=⟨_,rfl⟩
   rw [<-hkI] at c1
   rw [<-hli] at c0
   obtain ⟨X,hX⟩:∃X:World,X=wr.alloc (.cells #[.int .i64 (li:Int),.int .i64 kI] 304):=⟨_,rfl⟩
   have mX:wU B g vp vw n X own s gt bm tc es ck (.slice (some ⟨r,0,none⟩) N cap):=by rw [hX];exact hm.alloc _
   have kX:zh B own w own X:=by rw [hX];exact qQ hk hm.zP _
   have xn:X.cell? ⟨wr.heap.size,1,none⟩=some (.int .i64 kI):=by rw [hX];exact (Blk.new wr 304 #[.int .i64 (li:Int),.int .i64 kI]).cell 1
   have x5:X.cell? ⟨g,5,none⟩=some (.slice (some ⟨r,0,none⟩) N cap):=mX.at_ 5
   have xb:=(cellsAt X b mX hbl).2
   rw [<-hkB] at xb
   rw [egB,<-hkI,<-hkB] at hst
   rw [egB,<-hkB] at hbest
   rw [hst] at hbest
   have HX:=zL hX
   have MX:=zL mX
   have KX:=zL kX
   have egI:s.w.getD i 0=s.w[i]:=by simp [List.getD,hil]
   have EI:=zM (s.tg (s.w.getD i 0)=kI) (by rw [egI,hkI])
   have EB:=zM (s.tg (s.w.getD b 0)=kB) (by rw [egB,hkB])
   by_cases hc:kI<kB
   ·rw [zp hc] at hbest
    have Hb:=zL hbest
    clear hst hbest hX mX kX hli hkI hkB egB egI hm hk cellsAt hbl hil
    go_wp2_with fail
    rw [<-HX.o]
    go_quiet (fail)
    rename Nat=>nq
    go_wp2_with fail
    go_roundw
    case rel=>exact ⟨i,i+1,rfl,by go_num,hlt,hlt,by rw [EI.o];exact Hb.o,MX.o.drewN nq,abZ KX.o nq⟩
    case measure=>simp [intOf];omega
   ·rw [z6 hc] at hbest
    have Hb:=zL hbest
    clear hst hbest hX mX kX hli hkI hkB egB egI hm hk cellsAt hbl hil
    go_wp2_with fail
    rw [<-HX.o]
    go_quiet (fail)
    rename Nat=>nq
    go_wp2_with fail
    go_roundw
    case rel=>exact ⟨b,i+1,rfl,by go_num,hb,hlt,by rw [EB.o];exact Hb.o,MX.o.drewN nq,abZ KX.o nq⟩
    case measure=>simp [intOf];omega
  ·have hbi:bestI s.tg s.w=b:=by rw [hbest,zAO (by rw [<-HN.o];omega)];rfl
   obtain ⟨c0,c1⟩:=cellsAt wr b hm hbl
   obtain ⟨kB,hkB⟩:∃kB,kB=s.tg s.w[b]:=⟨_,rfl⟩
   obtain ⟨lb,hlb⟩:∃lb:Nat,lb=s.w[b]:=⟨_,rfl⟩
   rw [<-hkB] at c1
   rw [<-hlb] at c0
   have hfb:xw s=lb:=by unfold xw;rw [hbi,egB,hlb]
   have htgb:s.tg (xw s)=kB:=by rw [hfb,hlb,hkB]
   obtain ⟨X,hX⟩:∃X:World,X=wr.alloc (.cells #[.int .i64 (lb:Int),.int .i64 kB] 304):=⟨_,rfl⟩
   have mX:wU B g vp vw n X own s gt bm tc es ck (.slice (some ⟨r,0,none⟩) N cap):=by rw [hX];exact hm.alloc _
   have kX:zh B own w own X:=by rw [hX];exact qQ hk hm.zP _
   have nX:Blk X wr.heap.size 304 #[.int .i64 (lb:Int),.int .i64 kB]:=zCW
   have x5:X.cell? ⟨g,5,none⟩=some (.slice (some ⟨r,0,none⟩) N cap):=mX.at_ 5
   have hrow:=mX.row
   rw [<-HN.o] at hrow
   have hdel:=aw7 B r N cap b s.tg s.w X hrow HN.o.symm hb hn
   have Hdel:=zL hdel
   have HX:=zL hX
   have MX:=zL mX
   have KX:=zL kX
   have NX:=zL nX
   have HBI:=zL hbi
   have s1:(b:Int)+1<=9223372036854775807:=zO
   have hrb:=hm.rne r rfl
   have rl:=(hm.row.lt r rfl).2
   have gl:=hm.blk.lt
   have Hfb:=zL hfb
   have Htgb:=zL htgb
   clear hbest hbi hX mX kX nX hrow hdel hkB hlb hfb htgb egB hm cellsAt hbl
   go_wp2_with fail
   rw [<-HX.o]
   refine Hdel.o.mono ?_
   rintro e w2 ⟨rfl,hr2,g2⟩
   have hle:(s.w.eraseIdx b).length=N - 1:=by rw [List.length_eraseIdx,zp (by rw [<-HN.o];exact hb),<-HN.o]
   rw [<-hle] at hr2
   have hfin:=MX.o.a2K (x:=kB) (i:=b) rfl hr2 g2 rfl
   have sz:=g2.size
   have e2:∀q,q<X.heap.size->q≠r->w2.heap[q]?=X.heap[q]?:=λq hq hne=>g2.block q hq λe=>hne (Option.some.inj e)
   have nx:=NX.o.lt
   have gx:=MX.o.blk.lt
   have hne1:wr.heap.size≠r:=zO
   have hne2:g≠wr.heap.size:=zO
   have hbg:Blk w2 g 286 _:=MX.o.blk.same (e2 g gx hrb.1.symm)
   have hbn:Blk w2 wr.heap.size 304 _:=NX.o.same (e2 _ nx hne1)
   have g5:w2.cell? ⟨g,5,none⟩=some (.slice (some ⟨r,0,none⟩) N cap):=hbg.cell 5
   have f5:=hbg.frozen 5
   have hbg2:=hbg.qi 5 (.slice (some ⟨r,0,none⟩) (N - 1) cap)
   have hbn2:=hbn.far (p:=⟨g,5,none⟩) hne2.symm (.slice (some ⟨r,0,none⟩) (N - 1) cap)
   have g4:(w2.setCell ⟨g,5,none⟩ (.slice (some ⟨r,0,none⟩) (N - 1) cap)).cell? ⟨g,4,none⟩=some (.int .i64 s.v):=hbg2.cell 4
   have f4:=hbg2.frozen 4
   have n1:(w2.setCell ⟨g,5,none⟩ (.slice (some ⟨r,0,none⟩) (N - 1) cap)).cell? ⟨wr.heap.size,1,none⟩=some (.int .i64 kB):=hbn2.cell 1
   have hbn3:=hbn2.far (p:=⟨g,4,none⟩) hne2.symm (.int .i64 kB)
   have n0:((w2.setCell ⟨g,5,none⟩ (.slice (some ⟨r,0,none⟩) (N - 1) cap)).setCell ⟨g,4,none⟩ (.int .i64 kB)).cell? ⟨wr.heap.size,0,none⟩=some (.int .i64 (lb:Int)):=hbn3.cell 0
   have Hfin:=zL hfin
   have Hle:=zL hle
   clear hfin hr2 g2 e2 hbg hbn hbg2 hbn2 hbn3 hle
   go_wp2_with fail
   go_ret2
   rw [Hfb.o,HBI.o]
   obtain ⟨f1,f2⟩:=Hfin.o
   rw [Hle.o] at f1 f2
   rw [Hfb.o] at Htgb
   rw [Htgb.o]
   exact ⟨rfl,_,f1,qy KX.o f2⟩
theorem wU.a2G {B g:Nat} {vp vw:Value} {n:Nat} {w:World} {own:Nat->Prop} {s:FS} {gt bm:Nat} {tc:Array Value} {es:Array MapEntry} {ck:Nat} {wv:Value} (h:wU B g vp vw n w own s gt bm tc es ck wv) (c0:Nat):
 wU B g vp vw n (((w.alloc (.map #[] c0)).setCell ⟨g,4,none⟩ (.int .i64 0)).setCell ⟨g,3,none⟩ (.map (some w.heap.size))) (λb=>b=g\/b=gt\/b=w.heap.size\/wv.ownBlock=some b) (fRest s) gt w.heap.size tc #[] c0 wv/\
  zh B own w (λb=>b=g\/b=gt\/b=w.heap.size\/wv.ownBlock=some b) (((w.alloc (.map #[] c0)).setCell ⟨g,4,none⟩ (.int .i64 0)).setCell ⟨g,3,none⟩ (.map (some w.heap.size))):=by
 obtain ⟨n1,n2,n3⟩:=h.ne
 have lg:=h.blk.lt
 have lt:=h.tb.lt
 have hM:=h.alloc (.map #[] c0)
 have fin:∀b,b≠g->(((w.alloc (.map #[] c0)).setCell ⟨g,4,none⟩ (.int .i64 0)).setCell ⟨g,3,none⟩ (.map (some w.heap.size))).heap[b]?=(w.alloc (.map #[] c0)).heap[b]?:=λb hb=>
  (zAF ((w.alloc (.map #[] c0)).setCell ⟨g,4,none⟩ (.int .i64 0)) ⟨g,3,none⟩ _ b hb).trans (zAF (w.alloc (.map #[] c0)) ⟨g,4,none⟩ _ b hb)
 have og:own g:=(h.o g).2 (.inl rfl)
 refine ⟨{blk:=(hM.blk.qi 4 (.int .i64 0)).qi 3 (.map (some w.heap.size)),tb:=hM.tb.same (fin gt n1.symm),ts:=h.ts,tt:=h.tt,mp:=abG.zU ((fin _ zO).trans (heap_alloc_new w _)),row:=jf hM.row λb hb=>fin b (h.rne b hb).1,hB:=⟨h.hB.1,h.hB.2.1,h.zP⟩,ne:=⟨n1,by omega,by omega⟩,rne:=λb hb=>⟨(h.rne b hb).1,(h.rne b hb).2.1,by have:=(h.row.lt b hb).2;omega⟩,o:=λb=>Iff.rfl},ajQ (zJ (zJ (qQ (qB B own w) h.zP _) (a:=⟨g,4,none⟩) og h.hB.1 _) (a:=⟨g,3,none⟩) og h.hB.1 _) λb hb=>?_⟩
 rcases hb with h1|h1|h1|h1
 ·exact .inl ((h.o b).2 (.inl h1))
 ·exact .inl ((h.o b).2 (.inr (.inl h1)))
 ·exact .inr zO
 ·exact .inl ((h.o b).2 (.inr (.inr (.inr h1))))
set_option maxHeartbeats 1000000 in
theorem atW (B g n:Nat) (vp vw:Value) (w:World) (own:Nat->Prop) (s:FS) (gt bm:Nat) (tc:Array Value) (es:Array MapEntry) (ck:Nat) (wv:Value) (h:wU B g vp vw n w own s gt bm tc es ck wv):
 Calls Tryz.prog 203 #[.pointer (some ⟨g,0,none⟩)] w λe w'=>e=.returned (.tuple #[])/\∃own' bm' es' ck',wU B g vp vw n w' own' (fRest s) gt bm' tc es' ck' wv/\zh B own w own' w':=by
 have hmm:=@run_makeMap Tryz.prog
 have x4:w.cell? ⟨g,4,none⟩=some (.int .i64 s.v):=h.at_ 4
 have x3:w.cell? ⟨g,3,none⟩=some (.map (some bm)):=h.at_ 3
 have z4:=h.blk.frozen 4
 have z3:=h.blk.frozen 3
 have hM:=h.alloc (.map #[] 0)
 have a3:(w.alloc (.map #[] 0)).cell? ⟨g,3,none⟩=some (.map (some bm)):=hM.at_ 3
 have q3:=hM.blk.frozen 3
 have a4:(w.alloc (.map #[] 0)).cell? ⟨g,4,none⟩=some (.int .i64 s.v):=hM.at_ 4
 have q4:=hM.blk.frozen 4
 have b4:=h.blk.qi 4 (.int .i64 0)
 have y3:(w.setCell ⟨g,4,none⟩ (.int .i64 0)).cell? ⟨g,3,none⟩=some (.map (some bm)):=b4.cell 3
 have v3:=b4.frozen 3
 have c4:=b4.alloc (.map #[] 0)
 have t3:((w.setCell ⟨g,4,none⟩ (.int .i64 0)).alloc (.map #[] 0)).cell? ⟨g,3,none⟩=some (.map (some bm)):=c4.cell 3
 have w3:=c4.frozen 3
 have HH:=zL h
 clear h hM b4 c4
 go_enter Tryz.func203,Tryz.ntmps203
 go_wp2_with fail
 go_end0
 obtain ⟨h1,h2⟩:=HH.o.a2G 0
 exact ⟨rfl,_,_,_,_,h1,h2⟩
def ajZ (g:Nat):Value:=.agg #[.func (.func 201) #[.pointer (some ⟨g,0,none⟩)] #[],.func (.func 202) #[.pointer (some ⟨g,0,none⟩)] #[],.func (.func 203) #[.pointer (some ⟨g,0,none⟩)] #[]]
def ab4 (g:Nat):Obj:=.cells #[.func (.func 201) #[.pointer (some ⟨g,0,none⟩)] #[],.func (.func 202) #[.pointer (some ⟨g,0,none⟩)] #[],.func (.func 203) #[.pointer (some ⟨g,0,none⟩)] #[]] 262
theorem akG (g:Nat) (w:World):(binOp .neq 1 (.func (.func 203) #[.pointer (some ⟨g,0,none⟩)] #[]) .nilFunc).run Tryz.prog w=.ok (.bool true) w:=zK
structure agP (p:List Pk) (ws:List Int) (A A':Option Addr) (c c' B g gt:Nat) (w0 w:World) (own:Nat->Prop) (s:FS):Prop where
 bel:Below B w0 w
 fm:∃bm tc es ck wv,wU B g (.slice A p.length c) (.slice A' ws.length c') p.length w own s gt bm tc es ck wv
set_option maxHeartbeats 1000000 in
theorem apL (w0:World) (B g gt:Nat) (A A':Option Addr) (c c':Nat) (p:List Pk) (ws:List Int) (hp:RdP w0 B A p) (hq:RdI w0 B A' ws) (hpk:∀x∈p,zg x) (hwl:ws.length=8) (hw:wOk ws) (hpl:p.length<=300):
 afM (ajZ g) (fairM p ws) p.length B (agP p ws A A' c c' B g gt w0) where
 own_:=fun {w own s} h b hb=>by
  obtain ⟨bm,tc,es,ck,wv,h⟩:=h.fm
  exact h.xQ hb
 stay:=fun {w w' own s} h hs hb=>by
  obtain ⟨hb0,bm,tc,es,ck,wv,h⟩:=h
  exact ⟨hb0.trans hb,bm,tc,es,ck,wv,h.same hs⟩
 come:=fun {w own s} k h hok hkn=>by
  obtain ⟨hb0,bm,tc,es,ck,wv,h⟩:=h
  have hB:=h.zP
  have kk:=qQ (qB B own w) hB (ab4 g)
  have Hok:=zM (FI p ws k s) hok
  have Hwl:=zL hwl
  clear hok hwl
  unfold ajZ
  go_enter Tryz.func278,Tryz.ntmps278
  go_wp2_with fail
  refine (auA B g k A A' c c' p ws _ own s gt bm tc es ck wv (h.alloc (ab4 g)) (hp.below (hb0.trans kk.1)) (hq.below (hb0.trans kk.1)) hpk hw Hwl.o Hok.o hkn hpl).mono ?_
  rintro e w1 ⟨rfl,own',tc',es',ck',wv',h',k'⟩
  go_wp2_with fail
  go_end0
  have kk:=qy kk k'
  exact ⟨rfl,own',⟨hb0.trans kk.1,bm,tc',es',ck',wv',h'⟩,kk⟩
 none_:=fun {w own s m} h hok hk=>by
  obtain ⟨hb0,bm,tc,es,ck,wv,h⟩:=h
  have hB:=h.zP
  have hl:s.w=[]:=(ab3 hpk hw).w_none _ _ hok hk
  clear hk hok
  have kk:=qQ (qB B own w) hB (ab4 g)
  unfold ajZ
  go_enter Tryz.func279,Tryz.ntmps279
  go_wp2_with fail
  refine (apG B g _ _ _ _ own s gt bm tc es ck wv (h.alloc (ab4 g)) hl).mono ?_
  rintro e w1 ⟨rfl,rfl⟩
  go_wp2_with fail
  go_ret2
  exact ⟨rfl,own,⟨hb0.trans kk.1,bm,tc,es,ck,wv,h.alloc _⟩,kk⟩
 some_:=fun {w own s m} k s' h hok hk=>by
  obtain ⟨hb0,bm,tc,es,ck,wv,h⟩:=h
  have hB:=h.zP
  have kk:=qQ (qB B own w) hB (ab4 g)
  have hfi:FI p ws m s:=hok
  obtain ⟨h1,h2,h3⟩:=ah2 (show ad6 s=some (k,s') from hk)
  have hn:s.w.length<=1000:=by
   have:=anF (m:=m) 0 (zAK _) hfi.asc λj hj=>⟨zAK _,hfi.lt j hj⟩
   have:=hfi.le
   omega
  have htb:∀j∈s.w,0<=s.tg j/\s.tg j<=9223372036854775807:=λj hj=>by
   have a1:=hfi.ge j hj
   have a2:=hfi.bd.v
   have a3:=hfi.bd.t j hj
   have a4:=hfi.le
   omega
  have Hn:=zL hn
  have H1:=zL h1
  subst h2 h3
  clear hk hfi hn h1 hok
  unfold ajZ
  go_enter Tryz.func279,Tryz.ntmps279
  go_wp2_with fail
  refine (apF B g _ _ _ _ own s gt bm tc es ck wv (h.alloc (ab4 g)) H1.o Hn.o htb).mono ?_
  rintro e w1 ⟨rfl,wv',h',k'⟩
  go_wp2_with fail
  go_ret2
  have kk:=qy kk k'
  exact ⟨rfl,own,⟨hb0.trans kk.1,bm,tc,es,ck,wv',h'⟩,kk⟩
 rest:=fun {w own s m} h hok hw=>by
  obtain ⟨hb0,bm,tc,es,ck,wv,h⟩:=h
  have hB:=h.zP
  have f1:=akG g
  have kk:=qQ (qB B own w) hB (ab4 g)
  clear hw
  unfold ajZ
  go_enter Tryz.func280,Tryz.ntmps280
  go_wp2_with fail
  refine (atW B g _ _ _ _ own s gt bm tc es ck wv (h.alloc (ab4 g))).mono ?_
  rintro e w1 ⟨rfl,own',bm',es',ck',h',k'⟩
  go_wp2_with fail
  go_end0
  have kk:=qy kk k'
  exact ⟨rfl,own',⟨hb0.trans kk.1,bm',tc,es',ck',wv,h'⟩,kk⟩
def aiP (n:Int):Bool:=decide (n<1\/12<n\/¬12 % n=0)
theorem arM (n:Int) (w:World):
 Calls Tryz.prog 200 #[.int .i64 n] w λe w'=>e=.returned (.bool (aiP n))/\w=w':=by
 by_cases h0:n<1
 ·have He:=zM (aiP n=true) (zAI (.inl h0))
  go_enter Tryz.func200,Tryz.ntmps200
  go_wp2_with fail
  go_ret
  exact ⟨vL (by rw [He.o]),rfl⟩
 ·have h4:n≠0:=by omega
  have He:=zL (show aiP n=(decide (n<1)||decide (12<n)||12 % n !=0) by
   unfold aiP
   rw [Bool.eq_iff_iff]
   simp
   omega)
  clear h0
  go_enter Tryz.func200,Tryz.ntmps200
  go_wp2_with fail
  all_goals
   go_ret
   first |exact ⟨vL He.o.symm,rfl⟩|exact ⟨vL (by rw [He.o];simp;omega),rfl⟩
def uw:List Int->Nat->Int
 |[],_=>-1
 |n::r,k=>if aiP n then k else uw r (k+1)
theorem acR {l:List Int} {k:Nat} (h:¬0<=uw l k):∀n∈l,1<=n/\n<=12/\n ∣ 12:=by
 induction l generalizing k with
 |nil=>simp
 |cons x r ih=>
  unfold uw at h
  split at h
  ·exact zAv (zAf k) h
  ·rename_i h1
   intro n hn
   rcases zAM.1 hn with rfl|hn
   ·simp only [aiP,decide_eq_true_eq] at h1
    exact ⟨by omega,by omega,Int.dvd_of_emod_eq_zero (by
     by_cases h2:12 % n=0
     ·exact h2
     ·exact zAv (.inr (.inr h2)) h1)⟩
   ·exact ih h n hn
theorem arO (A:Option Addr) (c:Nat) (l:List Int) (w:World) (B:Nat) (h:RdI w B A l) (hl:l.length<=9223372036854775807):
 Calls Tryz.prog 216 #[.slice A l.length c,.func (.func 200) #[] #[]] w λe w'=>e=.returned (.int .i64 (uw l 0))/\w=w':=by
 go_enter Tryz.func216,Tryz.ntmps216
 go_wp2
 go_loopw [5,8] (λ_ i wr=>∃k:Nat,k<=l.length/\i=.int .i64 k/\uw l 0=uw (l.drop k) k/\w=wr) (λ_ i _=>l.length - (intOf i).toNat)
 case atStart=>exact ⟨0,zAK _,rfl,rfl,rfl⟩
 case round=>
  obtain ⟨k,hk,rfl,hbad,rfl⟩:=hrel
  by_cases hlt:k<l.length
  ·obtain ⟨q,o,rfl,hq,h0⟩:=RdI.get h hlt
   rw [zAE hlt] at hbad
   have Hbad:=zL hbad
   clear hbad
   go_wp2_with fail
   refine (arM _ _).mono ?_
   rintro e w1 ⟨rfl,rfl⟩
   cases hx:aiP l[k]
   ·have Hx:=zL hx;clear hx
    go_wp2_with fail
    go_roundw
    case rel=>exact ⟨k+1,by omega,by go_num,by rw [Hbad.o];simp [uw,Hx.o],by trivial⟩
    case measure=>simp [intOf];omega
   ·have Hx:=zL hx;clear hx
    go_wp2_with fail
    go_ret
    exact ⟨yh (by rw [Hbad.o];simp [uw,Hx.o]),rfl⟩
  ·exact zEJ
theorem abQ (A:Option Addr) (c:Nat) (l:List Int) (w:World) (B:Nat) (h:RdI w B A l) (hl:l.length<=9223372036854775807):
 Calls Tryz.prog 192 #[.slice A l.length c,.func (.func 200) #[] #[]] w λe w'=>e=.returned (.bool (decide (0<=uw l 0)))/\w=w':=by
 go_enter Tryz.func192,Tryz.ntmps192
 go_wp2_with fail
 refine (arO A c l w B h hl).mono ?_
 rintro e w1 ⟨rfl,rfl⟩
 go_wp2_with fail
 go_ret
 exact ⟨rfl,rfl⟩
def um (l:List Int):Nat:=if l.length=8 then (if 0<=uw l 0 then 2 else 0) else 3
def zQ (p:List Pk) (per:Int) (l:List Int):Nat × Int:=if (qm p per).1=0 then (um l,-1) else qm p per
theorem kU {p:List Pk} {per:Int} {l:List Int} (h:(zQ p per l).1=0):(qm p per).1=0/\um l=0/\l.length=8/\¬0<=uw l 0/\zQ p per l=(0,-1):=by
 unfold zQ at h ⊢
 by_cases h1:(qm p per).1=0
 ·rw [zp h1] at h ⊢
  have h':=h
  unfold um at h
  by_cases h8:l.length=8
  ·rw [zp h8] at h
   by_cases ho:0<=uw l 0
   ·rw [zp ho] at h;simp at h
   ·exact ⟨h1,h',h8,ho,by rw [show um l=0 from h']⟩
  ·rw [z6 h8] at h;simp at h
 ·rw [z6 h1] at h;exact zAv h h1
theorem anL {l:List Int} (h8:l.length=8) (h:∀n∈l,1<=n/\n<=12/\n ∣ 12):wOk l:=λg hg=>by
 unfold qu
 have hgl:g<l.length:=zO
 simp only [List.getD,zAR hgl,Option.getD_some]
 exact ⟨(h _ (zd hgl)).1,(h _ (zd hgl)).2.2⟩
theorem amJ:(Tryz.prog.info? 3).map (λi=>(i.zero,i.size,i.bytes))=some (some (.int .i64 0),1,8):=zK
theorem intRow_new (n:Nat):(madeCells (Value.cells (.int .i64 0)) (n*1)).toList=List.replicate n (.int .i64 0):=by
 rw [show Value.cells (.int .i64 0)=#[.int .i64 0] from rfl,toList_madeCells_one,Nat.mul_one]
theorem aqL {w:World} {base e g n:Nat} {u:Value} (h:w.ownsRow base e 1 (.slice (some ⟨g,0,none⟩) n n) n (List.replicate n u)):base<=g/\∃tc,Blk w g e tc/\tc.size=n/\∀k,k<n->tc[k]?=some u:=zD4
def anP (p:List Pk) (per:Int) (ws:List Int):List Int:=(List.range p.length).map (a0T p per ws)
theorem avA (p:List Pk) (per:Int) (ws:List Int):(anP p per ws).length=p.length:=by simp [anP]
theorem wU.tags {B g:Nat} {vp vw:Value} {n:Nat} {w:World} {own:Nat->Prop} {s:FS} {gt bm:Nat} {tc:Array Value} {es:Array MapEntry} {ck:Nat} {wv:Value} (h:wU B g vp vw n w own s gt bm tc es ck wv):RdI w w.heap.size (some ⟨gt,0,none⟩) ((List.range n).map s.tg):=by
 refine Rd.of_block (cs:=tc) (T:=3) (z:=(0,0)) h.tb ?_ h.tb.lt zO yJ
 apply List.ext_getElem?
 intro k
 have e:((List.range n).map s.tg).flatMap (λm=>[Value.int .i64 m])=(List.range n).map λj=>Value.int .i64 (s.tg j):=by
  rw [<-List.map_eq_flatMap,List.map_map];rfl
 rw [e]
 by_cases hk:k<n
 ·have:=h.tt k hk
  simp [hk]
  simpa using this
 ·rw [List.getElem?_eq_none (by have:=h.ts;simp;omega),List.getElem?_eq_none zA7]
theorem agP.at2 {p:List Pk} {ws:List Int} {A A':Option Addr} {c c' B g gt:Nat} {w0 w:World} {own:Nat->Prop} {s:FS} (h:agP p ws A A' c c' B g gt w0 w own s):w.cell? ⟨g,2,none⟩=some (.slice (some ⟨gt,0,none⟩) p.length p.length):=by
 obtain ⟨_,bm,tc,es,ck,wv,h⟩:=h
 exact h.at_ 2
def ap3 (l:List Sn) (t:List Int) (S:Nat->Addr) (k:Nat) (a:Int) (w:World) (e:Ending) (w':World):Prop:=
 ∃A1 c1 A2 c2 v,e=.returned (.tuple #[.slice A1 l.length c1,.slice A2 t.length c2,v])/\w'.ownsRow w.heap.size 64 3 (.slice A1 l.length c1) l.length (l.flatMap Sn.cs)/\RdI w' w'.heap.size A2 t/\Er w' w'.heap.size S v k a/\Below w.heap.size w w'
set_option maxHeartbeats 2000000 in
theorem az1 (A A':Option Addr) (c c':Nat) (p:List Pk) (per:Int) (ws:List Int) (S:Nat->Addr) (w:World) (B:Nat) (hB:B<=w.heap.size) (h:RdP w B A p) (h':RdI w B A' ws) (hS:Snt w B S [2,3,5]) (hl:p.length<=9223372036854775807) (hl':ws.length<=9223372036854775807) (hok:(zQ p per ws).1=0):
 Calls Tryz.prog 179 #[.slice A p.length c,.int .i64 per,.slice A' ws.length c'] w (ap3 (ah1 p per ws) (anP p per ws) S 0 (-1) w):=by
 have hmm:=@run_makeMap Tryz.prog
 obtain ⟨i1,hi1,hy0,hy1,hy2⟩:=info_parts amJ
 obtain ⟨e1,e2,h8,ho,e3⟩:=kU hok
 obtain ⟨hf,h300,hpk,h0,h1⟩:=zI e1
 have hw:=anL h8 (acR ho)
 have hwl8:((ws.length:Int) !=8)=false:=by rw [h8];rfl
 have Hf:=zL hf
 have Ho:=zM (decide (0<=uw ws 0)=false) (zAH ho)
 have H8:=zL h8
 clear hf hok e1 e2 e3 h8 ho
 go_enter Tryz.func179,Tryz.ntmps179
 go_wp2_with fail
 refine (xK A c p per S w B hB h (hS.sub zA1) hl).mono ?_
 rintro e w1 ⟨v,rfl,hv,hb1⟩
 obtain rfl:=hv.qK zCF
 have r1:=h'.below (hb1.mono hB)
 go_wp2_with fail
 refine (abQ A' c' ws _ B r1 hl').mono ?_
 rintro e w2 ⟨rfl,rfl⟩
 rw [Ho.o]
 have z1:=hb1.size
 have rp:=h.below (hb1.mono hB)
 go_wp2_with (at_make;refine wpList_make_full _ rfl (.tmp 27) (.tmp 27) 27 rfl w1.heap.size 3 i1 (.int .i64 0) 1 Tryz.underlying27 hi1 hy0 hy1 .i64 .i64 p.length p.length p.length rfl rfl rfl rfl (by rw [hy2];omega) zA2 (zD _) ?_;intro w3 row3 g3)
 rw [intRow_new] at row3
 obtain ⟨gb,tc,htb,hts,htt⟩:=aqL row3
 obtain ⟨X,hX⟩:∃X:World,X=(w3.alloc (.map #[] 0)).alloc (.cells #[.slice A p.length c,.slice A' ws.length c',.slice (some ⟨w1.heap.size,0,none⟩) p.length p.length,.map (some w3.heap.size),.int .i64 0,.slice none 0 0] 286):=⟨_,rfl⟩
 rw [<-hX]
 have k3:Below w1.heap.size w1 w3:=(zAA _ _).grown g3 (zD _) zA1
 have s3:=k3.size
 have ltb:=htb.lt
 have bX:Below w1.heap.size w1 X:=by rw [hX];exact (k3.alloc s3 _).alloc zA7 _
 have mX:wU w1.heap.size (w3.heap.size+1) (.slice A p.length c) (.slice A' ws.length c') p.length X (λb=>b=w3.heap.size+1\/b=w1.heap.size\/b=w3.heap.size\/(Value.slice none 0 0).ownBlock=some b) fs0 w1.heap.size w3.heap.size tc #[] 0 (.slice none 0 0):=by
  rw [hX]
  exact {blk:=qN _ _ _,tb:=(htb.alloc _).alloc _,ts:=hts,tt:=htt,mp:=abG.zU ((zAr (w3.alloc _) _ _ zA1).trans (heap_alloc_new w3 _)),row:=⟨by simp [fs0],.inl ⟨rfl,rfl⟩⟩,hB:=⟨by omega,zD _,by omega⟩,ne:=⟨by omega,by omega,by omega⟩,rne:=by simp [Value.ownBlock],o:=λb=>Iff.rfl}
 have pX:RdP X.drew w1.heap.size A p:=((rp.more (zAB hB z1)).below bX.drew)
 have qX:RdI X.drew w1.heap.size A' ws:=((r1.more (zAB hB z1)).below bX.drew)
 have HSRV:=zL (adG (R:=ajZ (w3.heap.size+1)) (M:=fairM p ws) (Mem:=agP p ws A A' c c' w1.heap.size (w3.heap.size+1) w1.heap.size X.drew) A c p per w1.heap.size fs0 _ X.drew bX.size pX hpk h300 h0 h1 (ab3 hpk hw) (apL X.drew w1.heap.size (w3.heap.size+1) w1.heap.size A A' c c' p ws pX qX hpk H8.o hw h300) ⟨zAA _ _,_,_,_,_,_,mX.drewN 1⟩ rfl (apE p ws))
 have KX:=zM (X.drew.cell? ⟨w3.heap.size+1,2,none⟩=some (.slice (some ⟨w1.heap.size,0,none⟩) p.length p.length)) (mX.at_ 2)
 have BX:=zL bX
 clear mX pX qX bX ltb s3 k3 hX htb htt hts gb row3 g3 rp r1
 go_region_held (λw'=>w'.cell? ⟨w3.heap.size+1,2,none⟩=some (.slice (some ⟨w1.heap.size,0,none⟩) p.length p.length)) (first |exact KX.o|exact hm4.at2) ((go_at_call 176;refine HSRV.o.mono ?_;rintro e w4 ⟨A3,c3,own3,rfl,row4,hb4,hm4⟩))
 all_goals
  go_wp2_with fail
  go_ret3
  obtain ⟨_,bm,tc',es,ck,wv,hF⟩:=hm4
  have hs:=BX.o.size
  exact ⟨A3,c3,some ⟨w1.heap.size,0,none⟩,p.length,.nilIface,by rw [avA];rfl,qO row4 (zAB z1 hs),hF.tags,.nil,hb1.trans ((BX.o.drew.trans hb4).mono z1)⟩
set_option maxHeartbeats 1000000 in
theorem aw0 (A A':Option Addr) (c c':Nat) (p:List Pk) (per:Int) (ws:List Int) (S:Nat->Addr) (w:World) (B:Nat) (hB:B<=w.heap.size) (h:RdP w B A p) (h':RdI w B A' ws) (hS:Snt w B S [2,3,5]) (hl:p.length<=9223372036854775807) (hl':ws.length<=9223372036854775807) (hok:(zQ p per ws).1≠0):
 Calls Tryz.prog 179 #[.slice A p.length c,.int .i64 per,.slice A' ws.length c'] w (ap3 [] [] S (zQ p per ws).1 (zQ p per ws).2 w):=by
 have nilR:∀w':World,RdI w' w'.heap.size none ([]:List Int):=λw' h0=>zAv h0 zA1
 by_cases h1:(qm p per).1=0
 ·obtain ⟨hf,_,_,_,_⟩:=zI h1
  have He:=zM (zQ p per ws=(um ws,-1)) (zp h1)
  have Hf:=zL hf
  have hwe:um ws≠0:=zCV
  clear hok hf h1
  by_cases h8:ws.length=8
  ·have hb8:((ws.length:Int) !=8)=false:=by rw [h8];rfl
   have ho:0<=uw ws 0:=by
    unfold um at hwe
    rw [zp h8] at hwe
    by_cases ho:0<=uw ws 0
    ·exact ho
    ·rw [z6 ho] at hwe;exact zAv rfl hwe
   have Hw:=zM (um ws=2) (by unfold um;rw [zp h8,zp ho])
   have Ho:=zM (decide (0<=uw ws 0)=true) (zAI ho)
   clear hwe h8 ho
   go_enter Tryz.func179,Tryz.ntmps179
   go_wp2_with fail
   refine (xK A c p per S w B hB h (hS.sub zA1) hl).mono ?_
   rintro e w1 ⟨v,rfl,hv,hb1⟩
   obtain rfl:=hv.qK zCF
   have r1:=h'.below (hb1.mono hB)
   have g2:w1.cell? ⟨G 2,0,none⟩=some (sv S 2):=((hS.below (hb1.mono hB)) 2 zA1).2.2
   have l2:=(hS 2 zA1).1
   simp only [G,sv] at g2 l2
   go_wp2_with fail
   refine (abQ A' c' ws _ B r1 hl').mono ?_
   rintro e w2 ⟨rfl,rfl⟩
   rw [Ho.o]
   go_wp2_with fail
   go_quiet (fail)
   rename Nat=>nq
   go_wp2_with fail
   go_ret3
   rw [He.o,Hw.o]
   exact ⟨none,0,none,0,_,rfl,⟨by simp,.inl ⟨rfl,rfl⟩⟩,nilR _,.bare 2 zO zO,below_drewN hb1 nq⟩
  ·have hb8:((ws.length:Int) !=8)=true:=by simp;omega
   have Hw:=zM (um ws=3) (by unfold um;rw [z6 h8])
   clear hwe h8
   go_enter Tryz.func179,Tryz.ntmps179
   go_wp2_with fail
   refine (xK A c p per S w B hB h (hS.sub zA1) hl).mono ?_
   rintro e w1 ⟨v,rfl,hv,hb1⟩
   obtain rfl:=hv.qK zCF
   have g3:w1.cell? ⟨G 3,0,none⟩=some (sv S 3):=((hS.below (hb1.mono hB)) 3 zA1).2.2
   have l3:=(hS 3 zA1).1
   simp only [G,sv] at g3 l3
   go_wp2_with fail
   go_quiet (fail)
   rename Nat=>nq
   go_wp2_with fail
   go_ret3
   rw [He.o,Hw.o]
   exact ⟨none,0,none,0,_,rfl,⟨by simp,.inl ⟨rfl,rfl⟩⟩,nilR _,.bare 3 zO zO,below_drewN hb1 nq⟩
 ·have He:=zM (zQ p per ws=qm p per) (z6 h1)
  have Hn:=zL h1
  clear hok h1
  go_enter Tryz.func179,Tryz.ntmps179
  go_wp2_with fail
  refine (xK A c p per S w B hB h (hS.sub zA1) hl).mono ?_
  rintro e w1 ⟨v,rfl,hv,hb1⟩
  obtain ⟨T,a,rfl⟩:=hv.qW Hn.o
  go_wp2_with fail
  go_ret3
  rw [He.o]
  exact ⟨none,0,none,0,_,rfl,⟨by simp,.inl ⟨rfl,rfl⟩⟩,nilR _,hv,hb1⟩
section
variable (A A':Option Addr) (c c':Nat) (p:List Pk) (per:Int) (ws:List Int) (S:Nat->Addr) (w:World)
def aq5 (p:List Pk) (per:Int) (ws:List Int):List Sn:=if (zQ p per ws).1=0 then ah1 p per ws else []
def tagV (p:List Pk) (per:Int) (ws:List Int):List Int:=if (zQ p per ws).1=0 then anP p per ws else []
theorem aw1 (B:Nat) (hB:B<=w.heap.size) (h:RdP w B A p) (h':RdI w B A' ws) (hS:Snt w B S [2,3,5]) (hl:p.length<=9223372036854775807) (hl':ws.length<=9223372036854775807):
 Calls Tryz.prog 179 #[.slice A p.length c,.int .i64 per,.slice A' ws.length c'] w (ap3 (aq5 p per ws) (tagV p per ws) S (zQ p per ws).1 (zQ p per ws).2 w):=by
 unfold aq5 tagV
 by_cases hok:(zQ p per ws).1=0
 ·rw [zp hok,zp hok,(kU hok).2.2.2.2]
  exact az1 A A' c c' p per ws S w B hB h h' hS hl hl' hok
 ·rw [z6 hok,z6 hok]
  exact aw0 A A' c c' p per ws S w B hB h h' hS hl hl' hok
set_option maxHeartbeats 1000000 in
theorem amP (B:Nat) (hB:B<=w.heap.size) (h:RdP w B A p) (h':RdI w B A' ws) (hS:Snt w B S [2,3,5]) (hl:p.length<=9223372036854775807) (hl':ws.length<=9223372036854775807):
 Calls Tryz.prog 149 #[.slice A p.length c,.int .i64 per,.slice A' ws.length c'] w (yE Sn.cs 3 64 (aq5 p per ws) S (zQ p per ws).1 (zQ p per ws).2 w):=by
 go_enter Tryz.func149,Tryz.ntmps149
 go_wp2_with fail
 refine (aw1 A A' c c' p per ws S w B hB h h' hS hl hl').mono ?_
 rintro e w1 ⟨A1,c1,A2,c2,v,rfl,row,rd,hv,hb1⟩
 go_wp2_with fail
 go_ret2
 exact ⟨A1,c1,v,rfl,row,hv,hb1⟩
end
end Go.Proofs.YtoomffajodheaaaGreatDoor
