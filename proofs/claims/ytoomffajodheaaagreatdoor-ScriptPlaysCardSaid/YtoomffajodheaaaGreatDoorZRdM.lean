/- The proof of ScriptPlays, part RdM. Conditions: in each statement. -/
import Derived.Test.YtoomffajodheaaaGreatDoorZRkM
import Derived.StillTailTactics
import Derived.Test.YtoomffajodheaaaGreatDoorZCvM
set_option linter.all false
namespace Go.Proofs.YtoomffajodheaaaGreatDoor
open Go.RowKit
set_option maxRecDepth 100000
theorem zBO{p:Prop}(h:p:=by simp [Value.ownBlock]):p:=h
theorem zCG{p:Prop}(h:p:=by rw [HF.o.qv_];rfl):p:=h
theorem zCI{p:Prop}(h:p:=by rw [hW1];exact HTV.o.drewN nq1):p:=h
theorem zCS{p:Prop}(h:p:=by rw [hW1];exact abA HKV.o nq1):p:=h
theorem zCg{p:Prop}(h:p:=by simp [Value.oneCell']):p:=h
theorem zCo{p:Prop}(h:p:=by show some (Value.int .i64 (upd s2.c f (cr - z) f))=_;rw [upd_same]):p:=h
theorem zDP{p:Prop}(h:p:=by
 have hmr:=HT2.o.q f HF.o.f8
 have hsq:s2.q f=[k0]:=HF.o.q
 have hqvf:=HF.o.qv_
 simp only [hsq,hqvf] at hmr
 have hmt:=zZ.tail (s:=[]) hmr
 have Hmt:=zL hmt
 have Hsd:=zL hsd
 clear hsd hmr hsq hqvf hmt q3 q6
 by_cases hqc:qc=1
 ·subst hqc
  clear q7
  go_wp2_with fail
  go_still_tail 12,zK
  go_wp2_with fail
  go_ret2
  obtain ⟨t3,k3⟩:=HT2.o.akH (w':=W2) HF.o.f8 (q':=[]) (v':=.slice (some ⟨qb,qo,none⟩) 0 0) (by have:=Hmt.o;simpa using this) (jY _ _) (.inl zCG)
  have k4:=qy HK2.o (qy k3 (zJ (a:=⟨g,19,none⟩) (zJ (a:=⟨g,10+f,none⟩) (qB B _ _) ((t3.o g).2 (.inl rfl)) HT2.o.hB (.int .i64 0)) ((t3.o g).2 (.inl rfl)) HT2.o.hB (.int .i64 (-1))))
  exact ⟨rfl,_,_,_,_,by rw [Hs'.out,Hsd.o];exact ((t3.af9 HF.o.f8 0).agZ none).drew,xH k4⟩
 ·go_wp2_with fail
  go_still_tail 12,zK
  go_wp2_with fail
  go_ret2
  obtain ⟨t3,k3⟩:=HT2.o.akH (w':=W2) HF.o.f8 (q':=[]) (v':=.slice (some ⟨qb,qo+1,none⟩) 0 (qc - 1)) (by have:=Hmt.o;rw [z6 hqc] at this;exact this) (jY _ _) (.inl zCG)
  have k4:=qy HK2.o (qy k3 (zJ (a:=⟨g,19,none⟩) (zJ (a:=⟨g,10+f,none⟩) (qB B _ _) ((t3.o g).2 (.inl rfl)) HT2.o.hB (.int .i64 0)) ((t3.o g).2 (.inl rfl)) HT2.o.hB (.int .i64 (-1))))
  exact ⟨rfl,_,_,_,_,by rw [Hs'.out,Hsd.o];exact ((t3.af9 HF.o.f8 0).agZ none).drew,xH k4⟩):p:=h
theorem zDQ{p:Prop}(h:p:=by
 have hQ:=zL ((H.o.q f hf8).alloc (.cells #[.int .i64 (k:Int)] 3))
 have hbl:Hid (Blk (w.alloc (.cells #[.int .i64 (k:Int)] 3)).drew g 258 _):=zL (H.o.blk.alloc (.cells #[.int .i64 (k:Int)] 3))
 have x2:w.cell? ⟨g,2+f,none⟩=some (qv f):=(H.o.at_ _).trans (H.o.cq f hf8)
 have x2b:(w.alloc (.cells #[.int .i64 (k:Int)] 3)).cell? ⟨g,2+f,none⟩=some (qv f):=((H.o.blk.alloc (.cells #[.int .i64 (k:Int)] 3)).cell (2+f)).trans (H.o.cq f hf8)
 have hgq:some g≠(qv f).ownBlock:=λe=>H.o.gq f hf8 e.symm
 have hcq:=H.o.cq f hf8
 have hba:B<=(w.alloc (.cells #[.int .i64 (k:Int)] 3)).heap.size:=qG H.o.zP _
 have xk:(w.alloc (.cells #[.int .i64 (k:Int)] 3)).cell? ⟨w.heap.size,0,none⟩=some (.int .i64 (k:Int)):=(Blk.new w 3 #[.int .i64 (k:Int)]).cell 0
 have xq1:(s.q f).length<=1000:=zO
 go_region_law (refine jF _ rfl (.tmp 45) (.tmp 47) 27 rfl B 3 i0 Tryz.underlying27 hi0 hz0 hz1 hz2 (qv f) (s.q f) rfl hQ.o ⟨w.heap.size,0,none⟩ k rfl xk xq1 hba ?_;intro v5 w5 row5 g5 at5;have b5:=Blk.grown hbl.out g5 hgq;have y2:=(b5.cell (2+f)).trans hcq;have z2:=b5.frozen (2+f);clear b5;obtain ⟨A5,n5,c5,e5⟩:=row5.acT;subst e5)
 all_goals
  go_end0
  have kk:=xH (qQ (qB B own w) H.o.zP (.cells #[.int .i64 (k:Int)] 3))
  obtain ⟨t9,k9⟩:=yj.akH (w:=(w.alloc (.cells #[.int .i64 (k:Int)] 3)).drew) (H.o.alloc (.cells #[.int .i64 (k:Int)] 3)).drew hf8 row5 g5 at5
  rw [Hc.out]
  exact ⟨rfl,_,_,_,_,t9,qy kk k9⟩):p:=h
theorem zDd{p:Prop}(h:p:=by
 have hmr:=HT2.o.q f HF.o.f8
 have hsq:s2.q f=k0::k2::tl:=HF.o.q
 have hqvf:=HF.o.qv_
 have hNN:=HF.o.N_
 rw [hNN] at hqvf
 simp only [hsq,hqvf] at hmr
 have hmt:=zZ.tail (s:=k2::tl) hmr
 rw [z6 hqc,show (k2::tl).length=N - 1 by omega] at hmt
 have Hmt:=zL hmt
 have Hsd:=zL hsd
 clear hsd hmr hsq hqvf hmt hNN
 go_wp2_with fail
 go_still_tail 12,zK
 go_wp2_with fail
 go_ret2
 obtain ⟨t3,k3⟩:=HT2.o.akH (w':=W2) HF.o.f8 (q':=k2::tl) (v':=.slice (some ⟨qb,qo+1,none⟩) (N - 1) (qc - 1)) Hmt.o (jY _ _) (.inl zCG)
 exact ⟨rfl,_,_,_,_,by rw [Hs'.out,Hsd.o];exact t3.drew,xH (qy HK2.o k3)⟩):p:=h
theorem zEp{p:Prop}(h:p:=by
 have:qu qs g=0:=by unfold qu;simp [List.getD,show ¬g<qs.length by omega]
 omega):p:=h
theorem zEv{p:Prop}(h:p:=by
 go_wp2_with fail
 go_ret
 exact ⟨yh (by rw [Hb.o];rfl),rfl⟩):p:=h
theorem zE5{p:Prop}(h:p:=by
 go_roundg n
 case measure=>omega
 case rel=>exact ⟨rEnd s2 f,_,_,_,_,t4.agZ none,hri3,hmu3,Hrest.o,k5⟩):p:=h
theorem zFE{p:Prop}(h:p:=by
 rcases hb with e2|⟨b2,e2,e3⟩
 ·exact .inl (e2▸e)
 ·rw [e] at e2;injection e2 with e2;exact .inr zO):p:=h
theorem zFK{p:Prop}(h:p:=by
 have h8:=aaS hpk Hri.o
 unfold lst at h8
 rw [Hsv.o,zAL] at h8
 omega):p:=h
theorem zFd{p:Prop}(h:p:=by
 have kk:=qy kk k'
 exact ⟨rfl,own',⟨hb0.trans kk.1,cs',qv',rv',h'⟩,kk⟩):p:=h
theorem zFo{p:Prop}(h:p:=by
 unfold wY
 rw [HF.o.q,List.tail_cons,z6 zA1,Hzk.o,Hcr.o]):p:=h
theorem zFr{p:Prop}(h:p:=by
 have hN0:¬((N - 1:Nat):Int)=0:=by have:=HF.o.N_;rw [zAL] at this;omega
 have hN1:¬N - 1=0:=zO
 have hqc:¬qc=1:=by have:=HF.o.N_;rw [zAL] at this;omega
 have hsd:wY p s2 f={s2 with q:=upd s2.q f (k2::tl),c:=upd s2.c f (cr - z)}:=zFo
 exact zDd):p:=h
def zZ (w:World) (base:Nat) (e:TypeId) (v:Value) (s:List Nat):Prop:=
 (v=.slice none 0 0/\s=[])\/∃b o cap cur,v=.slice (some ⟨b,o,none⟩) s.length cap/\base<=b/\w.heap[b]?=some (.cells cur e (0,0))/\s.length<=cap/\cap<=maxLen/\o+cap<=cur.size/\∀(j:Nat) (h:j<s.length),cur[o+j]?=some (.int .i64 (s[j]:Int))
section
variable {w w':World} {base:Nat} {e:TypeId} {v:Value} {s:List Nat}
theorem zZ.ui (w:World) (base:Nat) (e:TypeId):zZ w base e (.slice none 0 0) []:=.inl ⟨rfl,rfl⟩
theorem zZ.same (h:zZ w base e v s) (hb:∀g,v.ownBlock=some g->w'.heap[g]?=w.heap[g]?):zZ w' base e v s:=by
 rcases h with h|⟨b,o,cap,cur,hv,h1,h2,h3⟩
 ·exact .inl h
 ·exact .inr ⟨b,o,cap,cur,hv,h1,(hb b zCv).trans h2,h3⟩
theorem zZ.lt (h:zZ w base e v s):∀g,v.ownBlock=some g->base<=g/\g<w.heap.size:=by
 intro g hg
 rcases h with ⟨rfl,_⟩|⟨b,o,cap,cur,rfl,h1,h2,_⟩
 ·simp [Value.ownBlock] at hg
 ·obtain rfl:b=g:=by simpa [Value.ownBlock] using hg
  exact ⟨h1,lt_of_block h2⟩
theorem zZ.slice (h:zZ w base e v s):∃A c,v=.slice A s.length c:=by
 rcases h with ⟨rfl,rfl⟩|⟨b,o,cap,cur,rfl,_⟩
 ·exact ⟨none,0,rfl⟩
 ·exact ⟨_,_,rfl⟩
theorem zZ.acT (h:zZ w base e v s):∃A n c,v=.slice A n c:=by
 obtain ⟨A,c,hv⟩:=h.slice
 exact ⟨A,_,c,hv⟩
theorem zZ.alloc (h:zZ w base e v s) (o:Obj):zZ (w.alloc o) base e v s:=h.same λg hg=>zAr w o g (h.lt g hg).2
theorem zZ.drewN (h:zZ w base e v s) (m:Nat):zZ (w.drewN m) base e v s:=h
theorem zZ.qi (h:zZ w base e v s) {a:Addr} (ha:v.ownBlock≠some a.block) (u:Value):zZ (w.setCell a u) base e v s:=h.same λg hg=>zAF w a u g (λe=>ha (by rw [hg,e]))
theorem zZ.qA (h:w.ownsRow base e 1 v s.length (s.flatMap nCs)):zZ w base e v s:=by
 obtain ⟨h0,h⟩:=h
 rcases h with ⟨rfl,hx⟩|⟨g,cap,cur,hv,hg,hh,hn,hc,hsz,ht⟩
 ·refine .inl ⟨rfl,?_⟩
  cases s with
  |nil=>rfl
  |cons x r=>simp [nCs] at hx
 ·refine .inr ⟨g,0,cap,cur,hv,hg,hh,hn,hc,by omega,λj hj=>?_⟩
  have e1:(s.flatMap nCs)[j]?=some (.int .i64 (s[j]:Int)):=by
   rw [flat_get nCs 1 Nat.one_pos xP]
   simp [Nat.div_one,Nat.mod_one,hj,nCs]
  rw [<-ht,List.getElem?_take] at e1
  split at e1
  ·rw [Nat.zero_add];simpa using e1
  ·cases e1
theorem zZ.at_ (h:zZ w base e v s) (h0:0<s.length):∃b o c,v=.slice (some ⟨b,o,none⟩) s.length c/\s.length<=c/\b<w.heap.size/\∀(j:Nat) (h:j<s.length),w.cell? ⟨b,o+j,none⟩=some (.int .i64 (s[j]:Int)):=by
 rcases h with ⟨_,rfl⟩|⟨b,o,cap,cur,rfl,h1,h2,h3,h4,h5,h6⟩
 ·simp at h0
 ·exact ⟨b,o,cap,rfl,h3,lt_of_block h2,λj hj=>(uK h2 (o+j)).trans (h6 j hj)⟩
theorem zZ.tail {k:Nat} {b o c:Nat} (h:zZ w base e (.slice (some ⟨b,o,none⟩) (s.length+1) c) (k::s)):zZ w base e (.slice (some (if c=1 then ⟨b,o,none⟩ else ⟨b,o+1,none⟩)) s.length (c - 1)) s:=by
 rcases h with ⟨h,_⟩|⟨b',o',cap,cur,hv,h1,h2,h3,h4,h5,h6⟩
 ·cases h
 ·simp only [zAL,zAp,zAC,zAS,and_true] at hv h3
  obtain ⟨⟨rfl,rfl⟩,_,rfl⟩:=hv
  by_cases hc:c=1
  ·subst hc
   rw [zp rfl]
   refine .inr ⟨b,o,0,cur,rfl,h1,h2,by omega,zAK _,by omega,λj hj=>by omega⟩
  ·rw [z6 hc]
   refine .inr ⟨b,o+1,c - 1,cur,rfl,h1,h2,by omega,by omega,by omega,λj hj=>?_⟩
   have:=h6 (j+1) (by simp only [zAL];omega)
   rw [show o+1+j=o+(j+1) by omega]
   simpa using this
end
theorem al0 {P:Program} (w:World) (base:Nat) (t ty e:TypeId) (i:TypeInfo) (ht:P.underlying t=some (.slice e)) (hi:P.info? e=some i) (hz:i.zero=some (.int .i64 0)) (hsize:i.size=1) (hby:i.bytes=8)
 (v:Value) (s:List Nat) (h:zZ w base e v s) (a:Addr) (k:Nat) (ha:w.cell? a=some (.int .i64 (k:Int))) (hl:s.length<=1000) (hbase:base<=w.heap.size):
 ∃v' w',(Builtin.append_ #[t,t] ty #[v,.slice (some a) 1 1]).run P w=.ok v' w'/\zZ w' base e v' (s++[k])/\w.grownBy w' v.ownBlock/\(v'.ownBlock=v.ownBlock\/∃g,v'.ownBlock=some g/\w.heap.size<=g):=by
 have hnews:∀j u,[Value.int .i64 (k:Int)][j]?=some u->w.cell? (a.add j)=some u:=λj u hj=>by
  cases j with
  |zero=>
   simp only [zE,zAC] at hj
   subst hj
   unfold Addr.add
   simpa using ha
  |succ j=>simp at hj
 have hone:∀u∈[Value.int .i64 (k:Int)],u.oneCell'=true:=zCg
 have hfl:∀s:List Nat,s.map (λn:Nat=>Value.int .i64 (n:Int))++[Value.int .i64 (k:Int)]=(s++[k]).flatMap nCs:=λs=>by
  induction s with
  |nil=>rfl
  |cons x r ih=>rw [List.cons_append,List.flatMap_cons,<-ih];rfl
 have hfl2:∀s:List Nat,s.map (λn:Nat=>Value.int .i64 (n:Int))=s.flatMap nCs:=λs=>by
  induction s with
  |nil=>rfl
  |cons x r ih=>rw [List.flatMap_cons,<-ih];rfl
 rcases h with ⟨rfl,rfl⟩|⟨b,o,cap,cur,rfl,h1,h2,h3,h4,h5,h6⟩
 ·obtain ⟨v',w',hrun,r1,r2,r3⟩:=run_append_own_at (P:=P) w base t ty e i (.int .i64 0) 1 8 ht hi hz hsize hby rfl zO (.slice none 0 0) 0 [] (World.ownsRow_nil w base e 1) a 1 1 [.int .i64 (k:Int)] rfl hnews hone (by simp [maxLen]) zO hbase
  have r4:w'.ownsRow base e 1 v' ([k]:List Nat).length (([k]:List Nat).flatMap nCs):=r1
  exact ⟨v',w',hrun,zZ.qA r4,r2,r3.2.imp id λe=>⟨_,e,zD _⟩⟩
 ·by_cases hr:s.length+1<=cap
  ·have hrun:=run_append_room_cells (P:=P) w t ty e i ht hi b o s.length cap a 1 1 [.int .i64 (k:Int)] (by rw [hsize];rfl) hnews hone hr (λj hj=>by
    rw [hsize,uK h2]
    have:j=0:=by simpa using hj
    subst this
    rw [Array.getElem?_eq_getElem zO];rfl) (λj hj=>by simp [World.frozen?,h2])
   rw [hsize,Nat.mul_one] at hrun
   refine ⟨_,_,hrun,.inr ⟨b,o,cap,cur.setIfInBounds (o+s.length) (.int .i64 (k:Int)),by simp,h1,?_,by simpa using hr,h4,by simpa using h5,λj hj=>?_⟩,?_,.inl rfl⟩
   ·show (w.setCell ⟨b,o+s.length,none⟩ (.int .i64 (k:Int))).heap[b]?=_
    simp [World.setCell,Array.getElem?_modify,h2]
   ·rw [zAP,zAL,zAg] at hj
    rw [zAq]
    by_cases hjs:j=s.length
    ·subst hjs
     rw [zp rfl,zp zO]
     simp
    ·rw [z6 zO,h6 j zO,List.getElem_append_left zO]
   ·exact ⟨rfl,rfl,rfl,by simp [World.setCells,World.setCell],λx hx hne=>zAF w ⟨b,o+s.length,none⟩ _ x (λe=>hne (by rw [e];rfl))⟩
  ·obtain ⟨v',w',hrun,r1,r2⟩:=run_append_arg_grows (P:=P) w t ty e i (.int .i64 0) 1 8 ht hi hz hsize hby rfl zO ⟨b,o,none⟩ s.length cap (s.map λn:Nat=>Value.int .i64 (n:Int)) zA1 (λj u hj=>by
    rw [jK,uK h2]
    have hjl:j<s.length:=by
     have:=(zAj.1 hj).1
     simpa using this
    rw [h6 j hjl]
    simpa [hjl] using hj) a 1 1 [.int .i64 (k:Int)] rfl hnews zO zA2 zO
   rw [hfl] at r1
   have r4:w'.ownsRow w.heap.size e 1 v' (s++[k]).length ((s++[k]).flatMap nCs):=by simpa using r1
   have r5:=qO r4 hbase
   refine ⟨v',w',hrun,zZ.qA r5,⟨r2.os,r2.tape,r2.output,r2.size,λx hx _=>r2.block x hx zA1⟩,.inr ?_⟩
   rcases r4.2 with ⟨_,hx⟩|⟨g',cap',cur',hv',hg',hh',_⟩
   ·cases s<;>simp [nCs] at hx
   ·exact ⟨g',by rw [hv'];rfl,hg'⟩
section
variable {P:Program} (w:World)
theorem acM {o:Oper} {a:Act} {K:Act->World->Prop} {Q:Exit->Act->World->Prop} (s x:Operand) (t:TypeId)
 (ho:o.op=.call {callee:=.builtin .append,args:=#[s,x],argTypes:=#[t,t]})
 (base:Nat) (e:TypeId) (i:TypeInfo) (ht:P.underlying t=some (.slice e)) (hi:P.info? e=some i) (hz:i.zero=some (.int .i64 0)) (hsize:i.size=1) (hby:i.bytes=8)
 (v:Value) (l:List Nat) (hs:a.eval s=v) (hown:zZ w base e v l) (ad:Addr) (k:Nat) (hx:a.eval x=.slice (some ad) 1 1) (ha:w.cell? ad=some (.int .i64 (k:Int))) (hl:l.length<=1000) (hbase:base<=w.heap.size)
 (h:∀v' w',zZ w' base e v' (l++[k])->w.grownBy w' v.ownBlock->(v'.ownBlock=v.ownBlock\/∃g,v'.ownBlock=some g/\w.heap.size<=g)->K (a.put o.dst v') w'):o.wp P a w K Q:=by
 obtain ⟨v',w',hrun,h2,h3,h4⟩:=al0 (P:=P) w base t o.type e i ht hi hz hsize hby v l hown ad k ha hl hbase
 unfold Oper.wp
 simp [execOp,ho,resolve,invoke,builtin,hs,hx,hrun,Result.andThen]
 exact h v' w' h2 h3 h4
theorem wpList_append_mid {ops:Array Oper} {rest:List Oper} {o:Oper} {a:Act} {Q:Exit->Act->World->Prop} (hgd:o.guard=none) (s x:Operand) (t:TypeId)
 (ho:o.op=.call {callee:=.builtin .append,args:=#[s,x],argTypes:=#[t,t]})
 (base:Nat) (e:TypeId) (i:TypeInfo) (ht:P.underlying t=some (.slice e)) (hi:P.info? e=some i) (hz:i.zero=some (.int .i64 0)) (hsize:i.size=1) (hby:i.bytes=8)
 (v:Value) (l:List Nat) (hs:a.eval s=v) (hown:zZ w base e v l) (ad:Addr) (k:Nat) (hx:a.eval x=.slice (some ad) 1 1) (ha:w.cell? ad=some (.int .i64 (k:Int))) (hl:l.length<=1000) (hbase:base<=w.heap.size)
 (h:∀v' w',zZ w' base e v' (l++[k])->w.grownBy w' v.ownBlock->(v'.ownBlock=v.ownBlock\/∃g,v'.ownBlock=some g/\w.heap.size<=g)->wpList P ops Q rest (a.put o.dst v') w'):wpList P ops Q (o::rest) a w:=
 wpList_plain hgd λ_ hK=>acM w s x t ho base e i ht hi hz hsize hby v l hs hown ad k hx ha hl hbase λv' w' h2 h3 h4=>hK _ _ (h v' w' h2 h3 h4)
theorem jF {ops:Array Oper} {o:Oper} {a:Act} {K:Act->World->Prop} {Q:Exit->Act->World->Prop} {E:Prop} (hgd:o.guard=none) (s x:Operand) (t:TypeId)
 (ho:o.op=.call {callee:=.builtin .append,args:=#[s,x],argTypes:=#[t,t]})
 (base:Nat) (e:TypeId) (i:TypeInfo) (ht:P.underlying t=some (.slice e)) (hi:P.info? e=some i) (hz:i.zero=some (.int .i64 0)) (hsize:i.size=1) (hby:i.bytes=8)
 (v:Value) (l:List Nat) (hs:a.eval s=v) (hown:zZ w base e v l) (ad:Addr) (k:Nat) (hx:a.eval x=.slice (some ad) 1 1) (ha:w.cell? ad=some (.int .i64 (k:Int))) (hl:l.length<=1000) (hbase:base<=w.heap.size)
 (h:∀v' w',zZ w' base e v' (l++[k])->w.grownBy w' v.ownBlock->(v'.ownBlock=v.ownBlock\/∃g,v'.ownBlock=some g/\w.heap.size<=g)->K (a.put o.dst v') w'):
 if Region.wanted o (yielded ops a.tmps)=true then Oper.wp P o a w K Q else E:=by
 have hw:Region.wanted o (yielded ops a.tmps)=true:=by simp [Region.wanted,hgd]
 rw [zp hw]
 exact acM w s x t ho base e i ht hi hz hsize hby v l hs hown ad k hx ha hl hbase h
end
def svV:Option Nat->Value
 |none=>.int .i64 (-1)
 |some g=>.int .i64 (g:Int)
structure yj (B g:Nat) (vp vq:Value) (w:World) (own:Nat->Prop) (s:RS) (cs:Array Value) (qv:Nat->Value) (rv:Value):Prop where
 blk:Blk w g 258 cs
 size:cs.size=20
 c0:cs[0]?=some vp
 c1:cs[1]?=some vq
 cq:∀f,f<8->cs[2+f]?=some (qv f)
 cc:∀f,f<8->cs[10+f]?=some (.int .i64 (s.c f))
 cr:cs[18]?=some rv
 cv:cs[19]?=some (svV s.sv)
 q:∀f,f<8->zZ w B 3 (qv f) (s.q f)
 r:zZ w B 3 rv s.row
 hB:B<=g
 gq:∀f,f<8->(qv f).ownBlock≠some g
 gr:rv.ownBlock≠some g
 qr:∀f,f<8->∀b,(qv f).ownBlock=some b->rv.ownBlock≠some b
 qq:∀f f',f<8->f'<8->f≠f'->∀b,(qv f).ownBlock=some b->(qv f').ownBlock≠some b
 o:∀b,own b ↔ b=g\/rv.ownBlock=some b\/∃f,f<8/\(qv f).ownBlock=some b
section
variable {B g:Nat} {vp vq:Value} {w w':World} {own:Nat->Prop} {s:RS} {cs:Array Value} {qv:Nat->Value} {rv:Value}
theorem yj.same (h:yj B g vp vq w own s cs qv rv) (hs:∀b,own b->w'.heap[b]?=w.heap[b]?):yj B g vp vq w' own s cs qv rv:=
 {h with
  blk:=h.blk.same (hs g ((h.o g).2 (.inl rfl)))
  q:=λf hf=>(h.q f hf).same λb hb=>hs b ((h.o b).2 (.inr (.inr ⟨f,hf,hb⟩)))
  r:=h.r.same λb hb=>hs b ((h.o b).2 (.inr (.inl hb)))}
theorem yj.xQ (h:yj B g vp vq w own s cs qv rv) {b:Nat} (hb:own b):B<=b/\b<w.heap.size:=by
 rcases (h.o b).1 hb with rfl|hb|⟨f,hf,hb⟩
 ·exact ⟨h.hB,h.blk.lt⟩
 ·exact h.r.lt b hb
 ·exact (h.q f hf).lt b hb
theorem yj.alloc (h:yj B g vp vq w own s cs qv rv) (o:Obj):yj B g vp vq (w.alloc o) own s cs qv rv:=h.same λb hb=>zAr w o b (h.xQ hb).2
theorem yj.drewN (h:yj B g vp vq w own s cs qv rv) (m:Nat):yj B g vp vq (w.drewN m) own s cs qv rv:=h.same λ_ _=>rfl
theorem yj.drew (h:yj B g vp vq w own s cs qv rv):yj B g vp vq w.drew own s cs qv rv:=h.same λ_ _=>rfl
theorem yj.zP (h:yj B g vp vq w own s cs qv rv):B<=w.heap.size:=zAB h.hB (Nat.le_of_lt h.blk.lt)
theorem yj.at_ (h:yj B g vp vq w own s cs qv rv) (i:Nat):w.cell? ⟨g,i,none⟩=cs[i]?:=h.blk.cell i
theorem yI {cs:Array Value} {i j:Nat} {u:Value} (h:j≠i):(cs.setIfInBounds i u)[j]?=cs[j]?:=by rw [zAq,z6 (λe=>h e.symm)]
theorem jO {cs:Array Value} {i:Nat} {u:Value} (h:i<cs.size):(cs.setIfInBounds i u)[i]?=some u:=by rw [zAq,zp rfl,zp h]
theorem yj.af9 (h:yj B g vp vq w own s cs qv rv) {f:Nat} (hf:f<8) (x:Int):yj B g vp vq (w.setCell ⟨g,10+f,none⟩ (.int .i64 x)) own {s with c:=upd s.c f x} (cs.setIfInBounds (10+f) (.int .i64 x)) qv rv where
 blk:=h.blk.qi _ _
 size:=by rw [Array.size_setIfInBounds];exact h.size
 c0:=(yI zO).trans h.c0
 c1:=(yI zO).trans h.c1
 cq:=λf' hf'=>(yI zO).trans (h.cq f' hf')
 cc:=λf' hf'=>by
  show _=some (Value.int .i64 (upd s.c f x f'))
  by_cases he:f'=f
  ·subst he;rw [upd_same];exact jO (by rw [h.size];omega)
  ·rw [qx _ _ he];exact (yI zO).trans (h.cc f' hf')
 cr:=(yI zO).trans h.cr
 cv:=(yI zO).trans h.cv
 q:=λf' hf'=>(h.q f' hf').qi (a:=⟨g,10+f,none⟩) (h.gq f' hf') _
 r:=h.r.qi (a:=⟨g,10+f,none⟩) h.gr _
 hB:=h.hB
 gq:=h.gq
 gr:=h.gr
 qr:=h.qr
 qq:=h.qq
 o:=h.o
theorem yj.agZ (h:yj B g vp vq w own s cs qv rv) (x:Option Nat):yj B g vp vq (w.setCell ⟨g,19,none⟩ (svV x)) own {s with sv:=x} (cs.setIfInBounds 19 (svV x)) qv rv where
 blk:=h.blk.qi _ _
 size:=by rw [Array.size_setIfInBounds];exact h.size
 c0:=(yI zO).trans h.c0
 c1:=(yI zO).trans h.c1
 cq:=λf' hf'=>(yI zO).trans (h.cq f' hf')
 cc:=λf' hf'=>(yI zO).trans (h.cc f' hf')
 cr:=(yI zO).trans h.cr
 cv:=jO (by rw [h.size];omega)
 q:=λf' hf'=>(h.q f' hf').qi (a:=⟨g,19,none⟩) (h.gq f' hf') _
 r:=h.r.qi (a:=⟨g,19,none⟩) h.gr _
 hB:=h.hB
 gq:=h.gq
 gr:=h.gr
 qr:=h.qr
 qq:=h.qq
 o:=h.o
def jI (g:Nat) (qv:Nat->Value) (rv:Value) (b:Nat):Prop:=b=g\/rv.ownBlock=some b\/∃f,f<8/\(qv f).ownBlock=some b
theorem yj.a3O (h:yj B g vp vq w own s cs qv rv) {f:Nat} (hf:f<8) {v':Value} {q':List Nat} (hm:zZ w' B 3 v' q') (hg:w.grownBy w' (qv f).ownBlock) (hb:v'.ownBlock=(qv f).ownBlock\/∃b,v'.ownBlock=some b/\w.heap.size<=b):
 yj B g vp vq (w'.setCell ⟨g,2+f,none⟩ v') (jI g (upd qv f v') rv) {s with q:=upd s.q f q'} (cs.setIfInBounds (2+f) v') (upd qv f v') rv/\(∀b,jI g (upd qv f v') rv b->own b\/w.heap.size<=b):=by
 have hgl:=h.blk.lt
 have hne:v'.ownBlock≠some g:=by
  rcases hb with e|⟨b,e,e2⟩
  ·rw [e];exact h.gq f hf
  ·rw [e];intro e3;injection e3 with e3;omega
 have old:∀b,b<w.heap.size->(qv f).ownBlock≠some b->w'.heap[b]?=w.heap[b]?:=λb hb1 hb2=>hg.block b hb1 λe=>hb2 e.symm
 have hv2:∀b,v'.ownBlock=some b->(qv f).ownBlock=some b\/w.heap.size<=b:=λb e=>by
  exact zFE
 refine ⟨{blk:=?_,size:=?_,c0:=?_,c1:=?_,cq:=?_,cc:=?_,cr:=?_,cv:=?_,q:=?_,r:=?_,hB:=h.hB,gq:=?_,gr:=h.gr,qr:=?_,qq:=?_,o:=λb=>Iff.rfl},λb hb2=>?_⟩
 ·exact (h.blk.same (old g hgl (h.gq f hf))).qi _ _
 ·rw [Array.size_setIfInBounds];exact h.size
 ·exact (yI zO).trans h.c0
 ·exact (yI zO).trans h.c1
 ·intro f' hf'
  by_cases he:f'=f
  ·subst he;rw [upd_same];exact jO (by rw [h.size];omega)
  ·rw [qx _ _ he];exact (yI zO).trans (h.cq f' hf')
 ·exact λf' hf'=>(yI zO).trans (h.cc f' hf')
 ·exact (yI zO).trans h.cr
 ·exact (yI zO).trans h.cv
 ·intro f' hf'
  show zZ _ B _ (upd qv f v' f') (upd s.q f q' f')
  by_cases he:f'=f
  ·subst he;rw [upd_same,upd_same];exact hm.qi (a:=⟨g,2+f',none⟩) hne _
  ·rw [qx _ _ he,qx _ _ he]
   exact ((h.q f' hf').same λb hb2=>old b ((h.q f' hf').lt b hb2).2 (h.qq f' f hf' hf he b hb2)).qi (a:=⟨g,2+f,none⟩) (h.gq f' hf') _
 ·exact (h.r.same λb hb2=>old b (h.r.lt b hb2).2 (λe=>h.qr f hf b e hb2)).qi (a:=⟨g,2+f,none⟩) h.gr _
 ·intro f' hf'
  by_cases he:f'=f
  ·subst he;rw [upd_same];exact hne
  ·rw [qx _ _ he];exact h.gq f' hf'
 ·intro f' hf' b hb2
  by_cases he:f'=f
  ·subst he
   rw [upd_same] at hb2
   rcases hv2 b hb2 with e|e
   ·exact h.qr f' hf' b e
   ·intro e2;have:=(h.r.lt b e2).2;omega
  ·rw [qx _ _ he] at hb2;exact h.qr f' hf' b hb2
 ·intro f1 f2 hf1 hf2 hne2 b hb2
  by_cases he1:f1=f
  ·subst he1
   rw [upd_same] at hb2
   rw [qx _ _ (λe=>hne2 e.symm)]
   rcases hv2 b hb2 with e|e
   ·exact h.qq f1 f2 hf1 hf2 hne2 b e
   ·intro e2;have:=((h.q f2 hf2).lt b e2).2;omega
  ·rw [qx _ _ he1] at hb2
   by_cases he2:f2=f
   ·subst he2
    rw [upd_same]
    intro e
    rcases hv2 b e with e2|e2
    ·exact h.qq f1 f2 hf1 hf2 hne2 b hb2 e2
    ·have:=((h.q f1 hf1).lt b hb2).2;omega
   ·rw [qx _ _ he2];exact h.qq f1 f2 hf1 hf2 hne2 b hb2
 ·rcases hb2 with e|e|⟨f',hf',e⟩
  ·exact .inl ((h.o b).2 (.inl e))
  ·exact .inl ((h.o b).2 (.inr (.inl e)))
  ·by_cases he:f'=f
   ·subst he
    rw [upd_same] at e
    rcases hv2 b e with e2|e2
    ·exact .inl ((h.o b).2 (.inr (.inr ⟨f',hf',e2⟩)))
    ·exact .inr e2
   ·rw [qx _ _ he] at e
    exact .inl ((h.o b).2 (.inr (.inr ⟨f',hf',e⟩)))
theorem yj.a3N (h:yj B g vp vq w own s cs qv rv) {v':Value} {r':List Nat} (hm:zZ w' B 3 v' r') (hg:w.grownBy w' rv.ownBlock) (hv2:∀b,v'.ownBlock=some b->rv.ownBlock=some b\/w.heap.size<=b):
 yj B g vp vq (w'.setCell ⟨g,18,none⟩ v') (jI g qv v') {s with row:=r'} (cs.setIfInBounds 18 v') qv v'/\(∀b,jI g qv v' b->own b\/w.heap.size<=b):=by
 have hgl:=h.blk.lt
 have hne:v'.ownBlock≠some g:=λe=>by
  rcases hv2 g e with e2|e2
  ·exact h.gr e2
  ·omega
 have old:∀b,b<w.heap.size->rv.ownBlock≠some b->w'.heap[b]?=w.heap[b]?:=λb hb1 hb2=>hg.block b hb1 λe=>hb2 e.symm
 refine ⟨{blk:=?_,size:=?_,c0:=?_,c1:=?_,cq:=?_,cc:=?_,cr:=?_,cv:=?_,q:=?_,r:=?_,hB:=h.hB,gq:=h.gq,gr:=hne,qr:=?_,qq:=h.qq,o:=λb=>Iff.rfl},λb hb2=>?_⟩
 ·exact (h.blk.same (old g hgl h.gr)).qi _ _
 ·rw [Array.size_setIfInBounds];exact h.size
 ·exact (yI zO).trans h.c0
 ·exact (yI zO).trans h.c1
 ·exact λf' hf'=>(yI zO).trans (h.cq f' hf')
 ·exact λf' hf'=>(yI zO).trans (h.cc f' hf')
 ·exact jO (by rw [h.size];omega)
 ·exact (yI zO).trans h.cv
 ·intro f' hf'
  exact ((h.q f' hf').same λb hb2=>old b ((h.q f' hf').lt b hb2).2 (h.qr f' hf' b hb2)).qi (a:=⟨g,18,none⟩) (h.gq f' hf') _
 ·exact hm.qi (a:=⟨g,18,none⟩) hne _
 ·intro f' hf' b hb2 e
  rcases hv2 b e with e2|e2
  ·exact h.qr f' hf' b hb2 e2
  ·have:=((h.q f' hf').lt b hb2).2;omega
 ·rcases hb2 with e|e|e
  ·exact .inl ((h.o b).2 (.inl e))
  ·rcases hv2 b e with e2|e2
   ·exact .inl ((h.o b).2 (.inr (.inl e2)))
   ·exact .inr e2
  ·exact .inl ((h.o b).2 (.inr (.inr e)))
end
theorem ahN {B:Nat} {own:Nat->Prop} {w w1 w2:World} {row:Option Nat} (h:zh B own w own w1) (hg:w1.grownBy w2 row) (hr:∀b,row=some b->own b/\B<=b) (hB:B<=w1.heap.size):zh B own w own w2:=
 ⟨h.1.grown hg hB λb hb=>(hr b hb).2,λb hb ho=>(hg.block b (zAG hb h.1.size) (λe=>ho (hr b e.symm).1)).trans (h.2.1 b hb ho),λ_ hb=>.inl hb⟩
theorem amI {B:Nat} {own own':Nat->Prop} {w w1:World} (h:zh B own w own w1) (ho:∀b,own' b->own b\/w.heap.size<=b):zh B own w own' w1:=⟨h.1,h.2.1,ho⟩
theorem yj.akH {B g:Nat} {vp vq:Value} {w w':World} {own:Nat->Prop} {s:RS} {cs:Array Value} {qv:Nat->Value} {rv:Value} (h:yj B g vp vq w own s cs qv rv) {f:Nat} (hf:f<8) {v':Value} {q':List Nat} (hm:zZ w' B 3 v' q') (hg:w.grownBy w' (qv f).ownBlock) (hb:v'.ownBlock=(qv f).ownBlock\/∃b,v'.ownBlock=some b/\w.heap.size<=b):
 yj B g vp vq (w'.setCell ⟨g,2+f,none⟩ v') (jI g (upd qv f v') rv) {s with q:=upd s.q f q'} (cs.setIfInBounds (2+f) v') (upd qv f v') rv/\zh B own w (jI g (upd qv f v') rv) (w'.setCell ⟨g,2+f,none⟩ v'):=by
 obtain ⟨t,o⟩:=h.a3O hf hm hg hb
 have hown:own g:=(h.o g).2 (.inl rfl)
 exact ⟨t,amI (zJ (ahN (qB B own w) hg (λb e=>⟨(h.o b).2 (.inr (.inr ⟨f,hf,e⟩)),((h.q f hf).lt b e).1⟩) h.zP) hown h.hB _) o⟩
theorem yj.a0P {B g:Nat} {vp vq:Value} {w w':World} {own:Nat->Prop} {s:RS} {cs:Array Value} {qv:Nat->Value} {rv:Value} (h:yj B g vp vq w own s cs qv rv) {v':Value} {r':List Nat} (hm:zZ w' B 3 v' r') (hg:w.grownBy w' rv.ownBlock) (hb:∀b,v'.ownBlock=some b->rv.ownBlock=some b\/w.heap.size<=b):
 yj B g vp vq (w'.setCell ⟨g,18,none⟩ v') (jI g qv v') {s with row:=r'} (cs.setIfInBounds 18 v') qv v'/\zh B own w (jI g qv v') (w'.setCell ⟨g,18,none⟩ v'):=by
 obtain ⟨t,o⟩:=h.a3N hm hg hb
 have hown:own g:=(h.o g).2 (.inl rfl)
 exact ⟨t,amI (zJ (ahN (qB B own w) hg (λb e=>⟨(h.o b).2 (.inr (.inl e)),(h.r.lt b e).1⟩) h.zP) hown h.hB _) o⟩
theorem yj.a02 {B g:Nat} {vp vq:Value} {w w':World} {own:Nat->Prop} {s:RS} {cs:Array Value} {qv:Nat->Value} {rv:Value} (h:yj B g vp vq w own s cs qv rv) {v':Value} {r':List Nat} (hm:zZ w' B 3 v' r') (hg:w.grownBy w' rv.ownBlock) (hb:v'.ownBlock=rv.ownBlock\/∃b,v'.ownBlock=some b/\w.heap.size<=b):
 yj B g vp vq (w'.setCell ⟨g,18,none⟩ v') (jI g qv v') {s with row:=r'} (cs.setIfInBounds 18 v') qv v'/\zh B own w (jI g qv v') (w'.setCell ⟨g,18,none⟩ v'):=
 h.a0P hm hg λb e=>by
  exact zFE
theorem awY {w w':World} (h:w.grownBy w' none) (row:Option Nat):w.grownBy w' row:=⟨h.os,h.tape,h.output,h.size,λx hx _=>h.block x hx zA1⟩
theorem xH {B:Nat} {own own':Nat->Prop} {w w':World} (h:zh B own w own' w'):zh B own w own' w'.drew:=⟨h.1.drew,h.2.1,h.2.2⟩
theorem abA {B:Nat} {own own':Nat->Prop} {w w':World} (h:zh B own w own' w') (n:Nat):zh B own w own' (w'.drewN n):=⟨below_drewN h.1 n,h.2.1,h.2.2⟩
theorem al2 (s:List Nat) (j:Nat) (hj:j<s.length):(s.map Int.ofNat).getD j 0=(s[j]:Int):=by simp [List.getD,hj]
theorem aeB (f:Nat) (v:Value) (l:List Nat) (w:World) (B:Nat) (h:zZ w B 3 v l) (hl:l.length<=1000):
 Calls Tryz.prog 198 #[v,.int .i64 (f:Int)] w λe w'=>e=.returned (.bool (decide (f∈l)))/\w=w':=by
 rcases Nat.eq_zero_or_pos l.length with h0|h0
 ·obtain ⟨A,c,rfl⟩:=h.slice
  obtain rfl:=zAm h0
  refine (Tryz.slices_Contains_int_empty A c (f:Int) w).mono ?_
  rintro e w' ⟨rfl,rfl⟩
  exact ⟨by simp,rfl⟩
 ·obtain ⟨b,o,c,rfl,_,_,hc⟩:=h.at_ h0
  refine (Tryz.slices_Contains_int b o l.length c (l.map Int.ofNat) (f:Int) w zA1 zO (λj hj=>?_)).mono ?_
  ·have hj':j<l.length:=by simpa using hj
   rw [hc j hj',al2 l j hj']
  ·rintro e w' ⟨rfl,rfl⟩
   refine ⟨?_,rfl⟩
   congr 2
   rw [zAZ zA1,Bool.eq_iff_iff,zAe,List.contains_iff_mem,zAT]
   constructor
   ·rintro ⟨y,hy,e⟩
    have:y=f:=Int.ofNat.inj e
    rw [<-this];exact hy
   ·intro hf
    exact ⟨f,hf,rfl⟩
set_option maxHeartbeats 1000000 in
theorem asF (B g k:Nat) (A A':Option Addr) (c c':Nat) (p:List Pk) (qs:List Int) (w:World) (own:Nat->Prop) (s:RS) (cs:Array Value) (qv:Nat->Value) (rv:Value) (h:yj B g (.slice A p.length c) (.slice A' qs.length c') w own s cs qv rv) (hp:RdP w B A p) (hpk:∀x∈p,zg x) (hk:k<p.length) (hq:∀f,f<8->(s.q f).length<=900) (hr:s.row.length<=900):
 Calls Tryz.prog 177 #[.pointer (some ⟨g,0,none⟩),.int .i64 k] w λe w'=>e=.returned (.tuple #[])/\∃own' cs' qv' rv',yj B g (.slice A p.length c) (.slice A' qs.length c') w' own' (uf p s k) cs' qv' rv'/\zh B own w own' w':=by
 obtain ⟨b,o,rfl,hb,d0,d1,d2⟩:=RdP.get hp hk
 have hok:=hpk _ (zd hk)
 obtain ⟨f,hf⟩:∃f:Nat,p[k].f=f:=⟨p[k].f.toNat,by have:=hok.1;omega⟩
 have hf8:f<8:=by have:=hok.2.1;omega
 have hfl:flN p k=f:=by unfold flN;rw [vR hk,hf,zAX]
 rw [hf] at d0
 obtain ⟨i0,hi0,hz0,hz1,hz2⟩:=info_parts wO
 have c0:w.cell? ⟨g,0,none⟩=some (.slice (some ⟨b,o,none⟩) p.length c):=(h.at_ 0).trans h.c0
 have c18:w.cell? ⟨g,18,none⟩=some rv:=(h.at_ 18).trans h.cr
 have c19:w.cell? ⟨g,19,none⟩=some (svV s.sv):=(h.at_ 19).trans h.cv
 have cq:w.cell? ⟨g,2+f,none⟩=some (qv f):=(h.at_ _).trans (h.cq f hf8)
 have q1:(0:Int)<=(k:Int):=zO
 have q2:(k:Int)<(p.length:Int):=zO
 have q3:(0:Int)<=(f:Int):=zO
 have q4:(f:Int)<8:=zO
 have H:=zL h
 have Hfl:=zL hfl
 have hqf:=hq f hf8
 have hBs:=h.zP
 clear hfl hf hok h
 obtain ⟨x,hx,hxl⟩:∃x:Int,svV s.sv=.int .i64 x/\(f∈lst s ↔ x=f\/f∈s.row):=by
  cases hsv:s.sv with
  |none=>
   refine ⟨-1,rfl,?_⟩
   unfold lst
   rw [hsv]
   exact ⟨λe=>.inr e,λe=>e.resolve_left zO⟩
  |some g'=>
   refine ⟨g',rfl,?_⟩
   unfold lst
   rw [hsv]
   constructor
   ·intro e
    rcases zAM.1 e with e|e
    ·exact .inl (by rw [e])
    ·exact .inr e
   ·rintro (e|e)
    ·have:g'=f:=Int.ofNat.inj e
     rw [this];exact zAD
    ·exact zAJ _ e
 have hrr:s.row.length<=1000:=zO
 rw [hx] at c19
 by_cases hxf:x=f
 ·have hm:f∈lst s:=hxl.2 (.inl hxf)
  have Hc:Hid (uf p s k={s with q:=upd s.q f (s.q f++[k])}):=zL (by unfold uf;rw [Hfl.o,zp hm])
  clear hm hxl hx
  subst hxf
  have hb1:((f:Int) !=(f:Int))=false:=zA1
  go_enter Tryz.func177,Tryz.ntmps177
  go_wp2_with fail
  exact zDQ
 ·have hb1:(x !=(f:Int))=true:=by simp [hxf]
  have Hx:=zL hx
  clear hx
  by_cases hmr:f∈s.row
  ·have hm:f∈lst s:=hxl.2 (.inr hmr)
   have Hc:Hid (uf p s k={s with q:=upd s.q f (s.q f++[k])}):=zL (by unfold uf;rw [Hfl.o,zp hm])
   have hfr:(decide (f∈s.row))=true:=zAI hmr
   clear hm hxl
   go_enter Tryz.func177,Tryz.ntmps177
   go_wp2_with (go_at_call 198;refine (aeB f rv s.row w B H.o.r hrr).mono ?_;rintro e w1 ⟨rfl,rfl⟩;rw [hfr])
   exact zDQ
  ·have hm:¬f∈lst s:=λe=>(hxl.1 e).elim hxf hmr
   have Hc:Hid (uf p s k={s with row:=s.row++[f],q:=upd s.q f (s.q f++[k])}):=zL (by unfold uf;rw [Hfl.o,z6 hm])
   have hfr:(decide (f∈s.row))=false:=zAH hmr
   clear hm hxl
   have hR:=zL (H.o.r.alloc (.cells #[.int .i64 (f:Int)] 3))
   have xf:(w.alloc (.cells #[.int .i64 (f:Int)] 3)).cell? ⟨w.heap.size,0,none⟩=some (.int .i64 (f:Int)):=(Blk.new w 3 #[.int .i64 (f:Int)]).cell 0
   have hbl:Hid (Blk (w.alloc (.cells #[.int .i64 (f:Int)] 3)) g 258 cs):=zL (H.o.blk.alloc (.cells #[.int .i64 (f:Int)] 3))
   have hba:B<=(w.alloc (.cells #[.int .i64 (f:Int)] 3)).heap.size:=qG H.o.zP _
   have hgr:some g≠rv.ownBlock:=λe=>H.o.gr e.symm
   have hcr:=H.o.cr
   go_enter Tryz.func177,Tryz.ntmps177
   go_wp2_with first |(go_at_call 198;refine (aeB f rv s.row w B H.o.r hrr).mono ?_;rintro e w1 ⟨rfl,rfl⟩;rw [hfr])|(refine wpList_append_mid _ rfl (.tmp 32) (.tmp 34) 27 rfl B 3 i0 Tryz.underlying27 hi0 hz0 hz1 hz2 rv s.row rfl hR.o ⟨w.heap.size,0,none⟩ f rfl xf hrr hba ?_;intro v4 w4 row4 g4 at4;have b4:=Blk.grown hbl.out g4 hgr;have y4:=(b4.cell 18).trans hcr;have z4:=b4.frozen 18;clear b4;obtain ⟨A4,n4,c4,e4⟩:=row4.acT;subst e4)
   have kk0:=qQ (qB B own w) H.o.zP (.cells #[.int .i64 (f:Int)] 3)
   obtain ⟨t4,k4⟩:=yj.a02 (w:=w.alloc (.cells #[.int .i64 (f:Int)] 3)) (H.o.alloc (.cells #[.int .i64 (f:Int)] 3)) row4 g4 at4
   have k5:=qy kk0 k4
   clear hbl hba y4 z4 row4 g4 at4 k4 kk0
   generalize w4.setCell ⟨g,18,none⟩ (.slice A4 n4 c4)=w2 at t4 k5 ⊢
   generalize Value.slice A4 n4 c4=rv2 at t4 k5 ⊢
   have H2:=zL t4
   have K5:=zL k5
   clear t4 k5
   have hQ:=zL ((H2.o.q f hf8).alloc (.cells #[.int .i64 (k:Int)] 3))
   have hbl:Hid (Blk (w2.alloc (.cells #[.int .i64 (k:Int)] 3)).drew g 258 _):=zL (H2.o.blk.alloc (.cells #[.int .i64 (k:Int)] 3))
   have x2:w2.cell? ⟨g,2+f,none⟩=some (qv f):=(H2.o.at_ _).trans (H2.o.cq f hf8)
   have x2b:(w2.alloc (.cells #[.int .i64 (k:Int)] 3)).cell? ⟨g,2+f,none⟩=some (qv f):=((H2.o.blk.alloc (.cells #[.int .i64 (k:Int)] 3)).cell (2+f)).trans (H2.o.cq f hf8)
   have hgq:some g≠(qv f).ownBlock:=λe=>H2.o.gq f hf8 e.symm
   have hcq:=H2.o.cq f hf8
   have hba:B<=(w2.alloc (.cells #[.int .i64 (k:Int)] 3)).heap.size:=qG H2.o.zP _
   have xk:(w2.alloc (.cells #[.int .i64 (k:Int)] 3)).cell? ⟨w2.heap.size,0,none⟩=some (.int .i64 (k:Int)):=(Blk.new w2 3 #[.int .i64 (k:Int)]).cell 0
   have xq1:(s.q f).length<=1000:=zO
   go_region_law (refine jF _ rfl (.tmp 45) (.tmp 47) 27 rfl B 3 i0 Tryz.underlying27 hi0 hz0 hz1 hz2 (qv f) (s.q f) rfl hQ.o ⟨w2.heap.size,0,none⟩ k rfl xk xq1 hba ?_;intro v5 w5 row5 g5 at5;have b5:=Blk.grown hbl.out g5 hgq;have y2:=(b5.cell (2+f)).trans hcq;have z2:=b5.frozen (2+f);clear b5;obtain ⟨A5,n5,c5,e5⟩:=row5.acT;subst e5)
   all_goals
    go_end0
    have kk:=xH (qQ (qB B (jI g qv rv2) w2) H2.o.zP (.cells #[.int .i64 (k:Int)] 3))
    obtain ⟨t9,k9⟩:=yj.akH (w:=(w2.alloc (.cells #[.int .i64 (k:Int)] 3)).drew) (H2.o.alloc (.cells #[.int .i64 (k:Int)] 3)).drew hf8 row5 g5 at5
    rw [Hc.out]
    exact ⟨rfl,_,_,_,_,t9,qy K5.o (qy kk k9)⟩
theorem azH (l:List Nat):(l.map Int.ofNat).map (Value.int .i64)=l.flatMap nCs:=by
 induction l with
 |nil=>rfl
 |cons x r ih=>rw [List.map_cons,List.map_cons,ih,List.flatMap_cons];rfl
theorem apX (B n:Nat) (A:Option Addr) (c:Nat) (l:List Nat) (w:World) (h:zZ w B 3 (.slice A n c) l) (hA:∃a,A=some a) (hn:n=l.length) (hl:l.length<=1000) (hB:B<=w.heap.size):
 Calls Tryz.prog 199 #[.slice A n c] w λe w'=>∃v',e=.returned v'/\zZ w' B 3 v' l/\w.grownBy w' none/\(∀g,v'.ownBlock=some g->w.heap.size<=g):=by
 have key:∀(w':World) (v':Value),w'.ownsRow w.heap.size 3 1 v' l.length (l.flatMap nCs)->Below w.heap.size w w'->zZ w' B 3 v' l/\w.grownBy w' none/\(∀g,v'.ownBlock=some g->w.heap.size<=g):=λw' v' r1 r2=>
  ⟨zZ.qA (qO r1 hB),⟨r2.os,r2.tape,r2.output,r2.size,λx hx _=>r2.block x hx⟩,λg hg=>zH r1 g hg⟩
 obtain ⟨a,rfl⟩:=hA
 subst hn
 rcases Nat.eq_zero_or_pos l.length with h0|h0
 ·obtain rfl:=zAm h0
  refine (Tryz.slices_Clone_int_zero a c w).mono ?_
  rintro e w' ⟨v',rfl,r1,_,r2⟩
  exact ⟨v',rfl,key w' v' r1 r2⟩
 ·obtain ⟨b',o',c',hv,_,_,hc⟩:=h.at_ h0
  simp only [zAp,zAC] at hv
  obtain ⟨rfl,_,rfl⟩:=hv
  refine (Tryz.slices_Clone_int b' o' l.length c (l.map Int.ofNat) w zA1 zO (λj hj=>?_)).mono ?_
  ·have hj':j<l.length:=by simpa using hj
   rw [hc j hj',al2 l j hj']
  ·rintro e w' ⟨v',rfl,r1,_,r2⟩
   have e1:((l.map Int.ofNat).take l.length).map (Value.int .i64)=l.flatMap nCs:=by
    rw [zAZ zA1]
    exact azH l
   rw [e1] at r1
   exact ⟨v',rfl,key w' v' r1 r2⟩
theorem zZ.aq2 {w:World} {B k:Nat} {e:TypeId} {v:Value} {t:List Nat} (h:zZ w B e v (k::t)):∃b o c,v=.slice (some ⟨b,o,none⟩) (t.length+1) c/\t.length+1<=c/\w.cell? ⟨b,o,none⟩=some (.int .i64 (k:Int)):=by
 obtain ⟨b,o,c,hv,hc,_,h1⟩:=h.at_ zA1
 have:=h1 0 zA1
 exact ⟨b,o,c,by simpa using hv,by simpa using hc,by simpa using this⟩
theorem asH {qs:List Int} {s s1:RS} {g:Nat} (hs:s.sv=none) (h:vM qs s=some (g,s1)):∃r,s.row=g::r/\s1={s with row:=r,sv:=some g,c:=upd s.c g (s.c g+qu qs g)}:=by
 unfold vM at h
 rw [hs] at h
 simp only at h
 split at h
 ·cases h
 ·rename_i g' r h2
  simp only [zAC,Prod.mk.injEq] at h
  obtain ⟨rfl,rfl⟩:=h
  exact ⟨r,h2,rfl⟩
theorem jY (w:World) (row:Option Nat):w.grownBy w row:=⟨rfl,rfl,rfl,zD _,λ_ _ _=>rfl⟩
theorem aoG {p:List Pk} {qs:List Int} {n k:Nat} {s s':RS} (h:wF p qs (n+1) s=some (k,s')):∃g s1,vM qs s=some (g,s1)/\((sOf p (yH s1 g)<=s1.c g/\k=yH s1 g/\s'=wY p s1 g)\/(¬sOf p (yH s1 g)<=s1.c g/\wF p qs n (rEnd s1 g)=some (k,s'))):=by
 unfold wF at h
 split at h
 ·cases h
 ·rename_i g s1 ht
  refine ⟨g,s1,ht,?_⟩
  split at h
  ·rename_i hc
   simp only [zAC,Prod.mk.injEq] at h
   exact .inl ⟨hc,h.1.symm,h.2.symm⟩
  ·rename_i hc
   exact .inr ⟨hc,h⟩
structure a3H (p:List Pk) (m g:Nat) (W:World) (s:RS) (qv:Nat->Value) (f k:Nat) (tl:List Nat) (qb qo qc N b o:Nat) (c:Nat):Prop where
 q:s.q f=k::tl
 kp:k<p.length
 N_:N=tl.length+1
 Nc:N<=qc
 qv_:qv f=.slice (some ⟨qb,qo,none⟩) N qc
 ck:W.cell? ⟨qb,qo,none⟩=some (.int .i64 (k:Int))
 f8:f<8
 hd:yH s f=k
theorem ahP {B g m:Nat} {vp vq:Value} {p:List Pk} {qs:List Int} {w:World} {own:Nat->Prop} {s:RS} {cs:Array Value} {qv:Nat->Value} {rv:Value} (hpk:∀x∈p,zg x) (h:yj B g vp vq w own s cs qv rv) (hri:RI p qs m s) {f:Nat} (hf:s.q f≠[]):
 ∃k tl qb qo qc N,a3H p m g w s qv f k tl qb qo qc N 0 0 0:=by
 have f8:=hri.g8 hpk hf
 have hh:=hri.head hf
 have e:=jV hf
 have hq:=h.q f f8
 rw [e] at hq
 obtain ⟨qb,qo,qc,hv,hc,hk⟩:=hq.aq2
 exact ⟨_,_,qb,qo,qc,_,⟨e,by have:=hri.le;omega,rfl,hc,hv,hk,f8,rfl⟩⟩
theorem a01 {p:List Pk} {qs:List Int} {m:Nat} {s:RS} (hri:RI p qs m s) (hp:p.length<=300) (f:Nat):(s.q f).length<=300:=by
 rcases asc_len m (s.q f) 0 (λ_ _=>zAK _) (λj hj=>(hri.fl f j hj).1) (hri.so f) with h9|h9
 ·rw [h9];simp
 ·have:=hri.le;omega
theorem a1A (n:Nat) (l:List Nat) (h:l.Nodup) (h8:∀x∈l,x<n):l.length<=n:=by
 induction n generalizing l with
 |zero=>
  cases l with
  |nil=>simp
  |cons x r=>exact zAv (h8 x zAD) (Nat.not_lt_zero x)
 |succ n ih=>
  have h1:=ih (l.erase n) (h.erase n) λx hx=>by
   obtain ⟨h2,h3⟩:=(h.mem_erase_iff).1 hx
   have:=h8 x h3;omega
  rw [List.length_erase] at h1
  split at h1<;>omega
theorem aaS {p:List Pk} {qs:List Int} {m:Nat} {s:RS} (hpk:∀x∈p,zg x) (hri:RI p qs m s):(lst s).length<=8:=
 a1A 8 _ hri.nd λx hx=>hri.g8 hpk ((hri.mem x).1 hx)
theorem alO {p:List Pk} {qs:List Int} {m:Nat} {s:RS} (hpk:∀x∈p,zg x) (hq1:∀g,g<8->1<=qu qs g/\qu qs g<=3000) (hri:RI p qs m s) {f:Nat} (f8:f<8):0<=s.c f/\s.c f<=4500/\(s.sv≠some f->s.c f<=1500):=by
 have hz:∀j,j<p.length->sOf p j<=1500:=λj hj=>by rw [yA hj];exact (hpk _ (zd hj)).2.2.2.1
 have h0:=hri.pos f
 have h1:=(hq1 f f8).2
 by_cases hs:s.sv=some f
 ·rcases hri.in_ f hs with h9|⟨j,h9,h8⟩
  ·exact ⟨h0,by omega,λe=>zAv hs e⟩
  ·have:=hz j h9;exact ⟨h0,by omega,λe=>zAv hs e⟩
 ·rcases hri.out f hs with h9|⟨k,r,h9,h8⟩
  ·exact ⟨h0,by omega,λ_=>by omega⟩
  ·have hk:=(hri.fl f k (by rw [h9];exact zAD)).1
   have:=hz k (by have:=hri.le;omega)
   exact ⟨h0,by omega,λ_=>by omega⟩
set_option maxHeartbeats 4000000 in
theorem an1 (B g m k0:Nat) (A A':Option Addr) (c c':Nat) (p:List Pk) (qs:List Int) (w:World) (own:Nat->Prop) (s s':RS) (cs:Array Value) (qv:Nat->Value) (rv:Value) (h:yj B g (.slice A p.length c) (.slice A' qs.length c') w own s cs qv rv) (hp:RdP w B A p) (hq:RdI w B A' qs) (hpk:∀x∈p,zg x) (hql:qs.length=8) (hq1:∀g,g<8->1<=qu qs g/\qu qs g<=3000) (hpl:p.length<=300) (hri:RI p qs m s) (hk:wF p qs (rMu s) s=some (k0,s')):
 Calls Tryz.prog 178 #[.pointer (some ⟨g,0,none⟩)] w λe w'=>e=.returned (.tuple #[.int .i64 k0,.bool true])/\∃own' cs' qv' rv',yj B g (.slice A p.length c) (.slice A' qs.length c') w' own' s' cs' qv' rv'/\zh B own w own' w':=by
 obtain ⟨i0,hi0,hz0,hz1,hz2⟩:=info_parts wO
 have hq0:∀g,0<=qu qs g:=λg=>by
  by_cases h8:g<8
  ·have:=(hq1 g h8).1;omega
  ·exact zEp
 have Hql:=zL hql
 clear hql
 go_enter Tryz.func178,Tryz.ntmps178
 go_wp2
 go_loopg [4] (rMu s) (λn fv wr=>∃(s1:RS) (own1:Nat->Prop) (cs1:Array Value) (qv1:Nat->Value) (rv1:Value),yj B g (.slice A p.length c) (.slice A' qs.length c') wr own1 s1 cs1 qv1 rv1/\RI p qs m s1/\rMu s1<=n/\wF p qs n s1=some (k0,s')/\zh B own w own1 wr)
 case atStart=>exact ⟨s,own,cs,qv,rv,h,hri,zD _,hk,qB _ _ _⟩
 case round=>
  obtain ⟨s1,own1,cs1,qv1,rv1,h1,hri1,hmu,hpk1,k1⟩:=hrel
  clear hk hri h
  cases gk with
  |zero=>unfold rMu at hmu;omega
  |succ n=>
   obtain ⟨f,s2,ht,hcase⟩:=aoG hpk1
   obtain ⟨hri2,hsv2,hq2,hl2,hne1,ho⟩:=hri1.turn hq0 ht
   have hne2:s2.q f≠[]:=by rw [hq2];exact hne1
   have hend:¬sOf p (yH s2 f)<=s2.c f->RI p qs m (rEnd s2 f)/\rMu (rEnd s2 f)<=n:=λhc=>by
    have hh:=(hri2.head hne2).1
    have hk':yH s2 f<p.length:=by have:=hri2.le;omega
    have hz:=(hpk _ (zd hk')).2.2.2.1
    have hc':=hc
    rw [yA hk'] at hc'
    have hmu2:=akN (hq1 f (hri2.g8 hpk hne2)).1 (hri2.g8 hpk hne2) ht hsv2 zO ho
    exact ⟨(hri2.agB hsv2 hc).1,by omega⟩
   clear hpk1
   have H1:=zL h1
   have K1:=zL k1
   have Hmu:=zL hmu
   clear h1 k1 hmu
   rcases ho with ⟨hsv1,rfl⟩|⟨hsv1,hc2⟩
   ·have HW:=H1
    have KW:=K1
    obtain ⟨W,rfl⟩:∃W:World,W=wr:=⟨_,rfl⟩
    clear ht hri1 hl2 hne1 hsv1 hq2
    obtain ⟨k,tl,qb,qo,qc,N,hF⟩:=ahP hpk HW.o hri2 hne2
    have hkp:=hF.kp
    obtain ⟨b,o,rfl,hb,d0,d1,d2⟩:=RdP.get (hp.below KW.o.1) hkp
    have hok:=hpk _ (zd hkp)
    obtain ⟨c20,c2m,_⟩:=alO hpk hq1 hri2 hF.f8
    have e19:W.cell? ⟨g,19,none⟩=some (.int .i64 (f:Int)):=((HW.o.at_ 19).trans HW.o.cv).trans (by rw [hsv2];rfl)
    have e0:W.cell? ⟨g,0,none⟩=some (.slice (some ⟨b,o,none⟩) p.length c):=(HW.o.at_ 0).trans HW.o.c0
    have eq:W.cell? ⟨g,2+f,none⟩=some (.slice (some ⟨qb,qo,none⟩) N qc):=((HW.o.at_ _).trans (HW.o.cq f hF.f8)).trans (by rw [hF.qv_])
    have ec:W.cell? ⟨g,10+f,none⟩=some (.int .i64 (s2.c f)):=(HW.o.at_ _).trans (HW.o.cc f hF.f8)
    have ek:W.cell? ⟨qb,qo,none⟩=some (.int .i64 (k:Int)):=hF.ck
    have q1:(0:Int)<=(f:Int):=zO
    have q2:(f:Int)<8:=by have:=hF.f8;omega
    have q3:(0:Int)<(N:Int):=by have:=hF.N_;omega
    have q4:(0:Int)<=(k:Int):=zO
    have q5:(k:Int)<(p.length:Int):=by have:=hF.kp;omega
    have q6:(1:Int)<=(N:Int):=zO
    have q7:(N:Int)<=(qc:Int):=by have:=hF.Nc;omega
    have q8:¬(f:Int)<0:=zO
    obtain ⟨z,hz⟩:∃z,z=p[k].s:=⟨_,rfl⟩
    rw [<-hz] at d1
    have zb:1<=z/\z<=1500:=by rw [hz];exact ⟨hok.2.2.1,hok.2.2.2.1⟩
    obtain ⟨zb0,zb1⟩:=zb
    have hzk:sOf p (yH s2 f)=z:=by rw [hF.hd,yA hF.kp,hz]
    rw [hzk] at hcase hend
    have d1w:W.cell? ⟨b,o+k*3+1,none⟩=some (.int .i64 z):=d1
    obtain ⟨cr,hcr⟩:∃cr,cr=s2.c f:=⟨_,rfl⟩
    rw [<-hcr] at ec c20 c2m hcase hend
    have HF:=zL hF
    have Hz:=zL hz
    have Hcr:=zL hcr
    have Hzk:=zL hzk
    have Hsv:=zL hsv2
    have Hne:=zL hne2
    have Hri:=zL hri2
    clear hF hz hcr hok hzk hsv2 hne2 hri2
    rcases hcase with ⟨hc1,hk0,hs'⟩|⟨hc1,hrest⟩
    ·obtain rfl:k0=k:=hk0.trans HF.o.hd
     have Hs':=zL hs'
     clear hk0 hs'
     go_wp2_with fail
     obtain ⟨V,hV⟩:∃V:World,V=W:=⟨_,rfl⟩
     have TV:yj B g (.slice (some ⟨b,o,none⟩) p.length c) (.slice A' qs.length c') V own1 s2 cs1 qv1 rv1:=by rw [hV];exact HW.o
     have KV:zh B own w own1 V:=by rw [hV];exact KW.o
     have v0:V.cell? ⟨g,0,none⟩=some (.slice (some ⟨b,o,none⟩) p.length c):=by rw [hV];exact e0
     have vc:V.cell? ⟨g,10+f,none⟩=some (.int .i64 cr):=by rw [hV];exact ec
     have vd:V.cell? ⟨b,o+k0*3+1,none⟩=some (.int .i64 z):=by rw [hV];exact d1w
     have HTV:=zL TV
     have HKV:=zL KV
     rw [<-hV]
     clear hV e19 e0 eq ec ek d0 d1 d1w d2 TV KV
     go_quiet (fail)
     rename Nat=>nq1
     obtain ⟨W1,hW1⟩:∃W1:World,W1=V.drewN nq1:=⟨_,rfl⟩
     have T1:yj B g (.slice (some ⟨b,o,none⟩) p.length c) (.slice A' qs.length c') W1 own1 s2 cs1 qv1 rv1:=zCI
     have k1:zh B own w own1 W1:=zCS
     have y0:W1.cell? ⟨g,0,none⟩=some (.slice (some ⟨b,o,none⟩) p.length c):=(T1.at_ 0).trans T1.c0
     have yc:W1.cell? ⟨g,10+f,none⟩=some (.int .i64 cr):=by rw [Hcr.o];exact (T1.at_ _).trans (T1.cc f HF.o.f8)
     have yz:W1.frozen? ⟨g,10+f,none⟩=false:=T1.blk.frozen _
     have yd:W1.cell? ⟨b,o+k0*3+1,none⟩=some (.int .i64 z):=by rw [hW1];exact vd
     have yb1:-9223372036854775808<=cr - z:=zO
     have yb2:cr - z<=9223372036854775807:=zO
     have HT1:=zL T1
     have HK1:=zL k1
     rw [<-hW1]
     clear hW1 v0 vc vd HTV HKV T1 k1 HW KW
     go_wp2_with fail
     go_still_tail 18,zK
     go_wp2_with fail
     obtain ⟨W2,hW2⟩:∃W2:World,W2=(W1.setCell ⟨g,10+f,none⟩ (.int .i64 (cr - z))).drew:=⟨_,rfl⟩
     have T2:yj B g (.slice (some ⟨b,o,none⟩) p.length c) (.slice A' qs.length c') W2 own1 {s2 with c:=upd s2.c f (cr - z)} (cs1.setIfInBounds (10+f) (.int .i64 (cr - z))) qv1 rv1:=by rw [hW2];exact (HT1.o.af9 HF.o.f8 _).drew
     have k2:zh B own w own1 W2:=by rw [hW2];exact xH (qy HK1.o (zJ (a:=⟨g,10+f,none⟩) (qB B own1 W1) ((HT1.o.o g).2 (.inl rfl)) HT1.o.hB _))
     have y2:W2.cell? ⟨g,2+f,none⟩=some (.slice (some ⟨qb,qo,none⟩) N qc):=((T2.at_ _).trans (T2.cq f HF.o.f8)).trans (by rw [HF.o.qv_])
     have y2f:W2.frozen? ⟨g,2+f,none⟩=false:=T2.blk.frozen _
     have y10c:W2.cell? ⟨g,10+f,none⟩=some (.int .i64 (cr - z)):=(T2.at_ _).trans ((T2.cc f HF.o.f8).trans zCo)
     have y19c:W2.cell? ⟨g,19,none⟩=some (.int .i64 (f:Int)):=(T2.at_ 19).trans (T2.cv.trans (by show some (svV s2.sv)=_;rw [Hsv.o];rfl))
     have y10:W2.frozen? ⟨g,10+f,none⟩=false:=T2.blk.frozen _
     have y19:W2.frozen? ⟨g,19,none⟩=false:=T2.blk.frozen _
     have HT2:=zL T2
     have HK2:=zL k2
     rw [<-hW2]
     clear hW2 T2 k2 HT1 HK1 y0 yc yz yd
     rcases tl with _|⟨k2,tl⟩
     ·obtain rfl:N=1:=HF.o.N_
      have hsd:wY p s2 f={s2 with q:=upd s2.q f [],c:=upd (upd s2.c f (cr - z)) f 0,sv:=none}:=by
       unfold wY
       rw [HF.o.q,List.tail_cons,zp rfl,agF]
      exact zDP
     ·exact zFr
    ·obtain ⟨hri3,hmu3⟩:=hend hc1
     have Hrest:=zL hrest
     clear hrest
     go_wp2_with fail
     obtain ⟨V,hV⟩:∃V:World,V=W:=⟨_,rfl⟩
     have TV:yj B g (.slice (some ⟨b,o,none⟩) p.length c) (.slice A' qs.length c') V own1 s2 cs1 qv1 rv1:=by rw [hV];exact HW.o
     have KV:zh B own w own1 V:=by rw [hV];exact KW.o
     have v0:V.cell? ⟨g,0,none⟩=some (.slice (some ⟨b,o,none⟩) p.length c):=by rw [hV];exact e0
     have vc:V.cell? ⟨g,10+f,none⟩=some (.int .i64 cr):=by rw [hV];exact ec
     have vd:V.cell? ⟨b,o+k*3+1,none⟩=some (.int .i64 z):=by rw [hV];exact d1w
     have HTV:=zL TV
     have HKV:=zL KV
     rw [<-hV]
     clear hV e19 e0 eq ec ek d0 d1 d1w d2 TV KV
     go_quiet (fail)
     rename Nat=>nq1
     obtain ⟨W1,hW1⟩:∃W1:World,W1=V.drewN nq1:=⟨_,rfl⟩
     have T1:yj B g (.slice (some ⟨b,o,none⟩) p.length c) (.slice A' qs.length c') W1 own1 s2 cs1 qv1 rv1:=zCI
     have k1:zh B own w own1 W1:=zCS
     have y18:W1.cell? ⟨g,18,none⟩=some rv1:=(T1.at_ 18).trans T1.cr
     have hrl:s2.row.length<=1000:=zFK
     have hR:=zL (T1.r.alloc (.cells #[.int .i64 (f:Int)] 3))
     have xf:(W1.alloc (.cells #[.int .i64 (f:Int)] 3)).cell? ⟨W1.heap.size,0,none⟩=some (.int .i64 (f:Int)):=(Blk.new W1 3 #[.int .i64 (f:Int)]).cell 0
     have hbl:Hid (Blk (W1.alloc (.cells #[.int .i64 (f:Int)] 3)) g 258 cs1):=zL (T1.blk.alloc (.cells #[.int .i64 (f:Int)] 3))
     have hba:B<=(W1.alloc (.cells #[.int .i64 (f:Int)] 3)).heap.size:=qG T1.zP _
     have hgr:some g≠(rv1).ownBlock:=λe=>T1.gr e.symm
     have hcr18:=T1.cr
     have hcr19:cs1[19]?=some (.int .i64 (f:Int)):=T1.cv.trans (by rw [Hsv.o];rfl)
     have HT1:=zL T1
     have HK1:=zL k1
     rw [<-hW1]
     clear hW1 v0 vc vd HTV HKV T1 k1 HW KW
     go_wp2_with (refine wpList_append_mid _ rfl (.tmp 137) (.tmp 139) 27 rfl B 3 i0 Tryz.underlying27 hi0 hz0 hz1 hz2 rv1 s2.row rfl hR.o ⟨W1.heap.size,0,none⟩ f rfl xf hrl hba ?_;intro v4 w4 row4 g4 at4;have b4:=Blk.grown hbl.out g4 hgr;have y4:=(b4.cell 18).trans hcr18;have z4:=b4.frozen 18;have y5:=(b4.cell 19).trans hcr19;have z5:=b4.frozen 19;clear b4;obtain ⟨A4,n4,c4,e4⟩:=row4.acT;subst e4)
     obtain ⟨t4,k4⟩:=yj.a02 (HT1.o.alloc (.cells #[.int .i64 (f:Int)] 3)) row4 g4 at4
     have k5:=qy (qy HK1.o (qQ (qB B own1 W1) HT1.o.zP (.cells #[.int .i64 (f:Int)] 3))) (qy k4 (zJ (a:=⟨g,19,none⟩) (qB B _ _) ((t4.o g).2 (.inl rfl)) HT1.o.hB (.int .i64 (-1))))
     exact zE5
   ·obtain ⟨r,hr,hs2⟩:=asH hsv1 ht
    have f8:=hri1.g8 hpk hne1
    have hrow:=H1.o.r
    rw [hr] at hrow
    obtain ⟨rb,ro,rc,hrv,hrc,her⟩:=hrow.aq2
    obtain ⟨RN,hRN⟩:∃RN,RN=r.length+1:=⟨_,rfl⟩
    rw [<-hRN] at hrv hrc
    obtain ⟨b2,o2,rfl,hb2,eq2⟩:=RdI.get (hq.below K1.o.1) (show f<qs.length by rw [Hql.o];exact f8)
    have hquf:qu qs f=qs[f]'(by rw [Hql.o];exact f8):=by unfold qu;simp [List.getD,show f<qs.length by rw [Hql.o];exact f8]
    rw [<-hquf] at eq2
    have hqb:=hq1 f f8
    obtain ⟨x0,x1,x2⟩:=alO hpk hq1 hri1 f8
    have x3:=x2 (by rw [hsv1];simp)
    obtain ⟨cf,hcf⟩:∃cf,cf=s1.c f:=⟨_,rfl⟩
    rw [<-hcf] at x0 x3 x1
    obtain ⟨qf,hqf⟩:∃qf,qf=qu qs f:=⟨_,rfl⟩
    rw [<-hqf] at hqb eq2
    obtain ⟨hqb1,hqb2⟩:=hqb
    subst hrv
    have hrl:r.length<=1000:=by
     have h8:=aaS hpk hri1
     unfold lst at h8
     rw [hsv1] at h8
     simp only [hr,zAL] at h8
     omega
    have e19:wr.cell? ⟨g,19,none⟩=some (.int .i64 (-1)):=((H1.o.at_ 19).trans H1.o.cv).trans (by rw [hsv1];rfl)
    have e18:wr.cell? ⟨g,18,none⟩=some (.slice (some ⟨rb,ro,none⟩) RN rc):=(H1.o.at_ 18).trans H1.o.cr
    have z19:wr.frozen? ⟨g,19,none⟩=false:=H1.o.blk.frozen _
    have p1:¬(RN:Int)=0:=zO
    have p2:(0:Int)<(RN:Int):=zO
    have p3:(1:Int)<=(RN:Int):=zO
    have p4:(RN:Int)<=(rc:Int):=zO
    have T4:=H1.o.agZ (some f)
    have hm4:=T4.r
    simp only [hr] at hm4
    rw [hRN] at hm4
    have hmt:=zZ.tail (s:=r) hm4
    rw [show r.length=RN - 1 by omega] at hmt
    have w18:(wr.setCell ⟨g,19,none⟩ (.int .i64 (f:Int))).cell? ⟨g,18,none⟩=some (.slice (some ⟨rb,ro,none⟩) RN rc):=(T4.at_ 18).trans T4.cr
    have hmt2:zZ (wr.setCell ⟨g,19,none⟩ (.int .i64 (f:Int))) B 3 (.slice (if rc=1 then some ⟨rb,ro,none⟩ else some ⟨rb,ro+1,none⟩) (RN - 1) (rc - 1)) r:=by
     by_cases h9:rc=1
     ·rw [zp h9] at hmt ⊢;exact hmt
     ·rw [z6 h9] at hmt ⊢;exact hmt
    have hA4:∃a,(if rc=1 then some (⟨rb,ro,none⟩:Addr) else some ⟨rb,ro+1,none⟩)=some a:=by
     by_cases h9:rc=1
     ·rw [zp h9];exact ⟨_,rfl⟩
     ·rw [z6 h9];exact ⟨_,rfl⟩
    have hn4:RN - 1=r.length:=zO
    have hB4:B<=(wr.setCell ⟨g,19,none⟩ (.int .i64 (f:Int))).heap.size:=T4.zP
    have hbl4:Hid (Blk (wr.setCell ⟨g,19,none⟩ (.int .i64 (f:Int))) g 258 _):=zL T4.blk
    have hcr4:=T4.cr
    have Hn4:=zL hn4
    have HA4:=zL hA4
    have HT4:=zL T4
    have Hmt:=zL hmt2
    have Hr:=zL hr
    have Hs2:=zL hs2
    have HRN:=zL hRN
    have Hcf:=zL hcf
    have Hqf:=zL hqf
    have Hsv1:=zL hsv1
    have Hcase:=zL hcase
    have Hend:=zL hend
    have Hne2:=zL hne2
    have Hri2:=zL hri2
    have Hsv2:=zL hsv2
    clear T4 hm4 hmt hmt2 hn4 hA4 hr hs2 hRN hcf hqf hquf hsv1 hc2 ht hq2 hl2 hne1 x2 hrow hcase hend hri1 hri2 hsv2 hne2
    go_wp2_with (go_at_call 199;refine (apX B _ _ _ r _ Hmt.o HA4.o Hn4.o hrl hB4).mono ?_;rintro e w4 ⟨v4,rfl,row4,g4,at4⟩;have b4:=Blk.grown hbl4.out g4 zA1;have y4:=(b4.cell 18).trans hcr4;have z4:=b4.frozen 18;clear b4;obtain ⟨A4,n4,c4,e4⟩:=row4.acT;subst e4)
    all_goals
     obtain ⟨t5,k5⟩:=yj.a0P HT4.o row4 (awY g4 _) (λb e=>.inr (at4 b e))
     have k6:=qy K1.o (qy (zJ (a:=⟨g,19,none⟩) (qB B own1 wr) ((H1.o.o g).2 (.inl rfl)) H1.o.hB (.int .i64 (f:Int))) k5)
     have b4:=((zAA B wr).setCell (p:=⟨g,19,none⟩) H1.o.hB (.int .i64 (f:Int)))
     clear row4 g4 at4 k5 y4 z4 e18 e19 z19 w18 her
     generalize w4.setCell ⟨g,18,none⟩ (.slice A4 n4 c4)=W5 at t5 k6 ⊢
     generalize Value.slice A4 n4 c4=rv2 at t5 k6 ⊢
     have x19:W5.cell? ⟨g,19,none⟩=some (.int .i64 (f:Int)):=(t5.at_ 19).trans t5.cv
     have x1:W5.cell? ⟨g,1,none⟩=some (.slice (some ⟨b2,o2,none⟩) qs.length c'):=(t5.at_ 1).trans t5.c1
     have xc:W5.cell? ⟨g,10+f,none⟩=some (.int .i64 cf):=by rw [Hcf.o];exact (t5.at_ _).trans (t5.cc f f8)
     have xz:W5.frozen? ⟨g,10+f,none⟩=false:=t5.blk.frozen _
     have xq:W5.cell? ⟨b2,o2+f,none⟩=some (.int .i64 qf):=by
      obtain ⟨b3,o3,e3,_,e5⟩:=RdI.get (hq.below k6.1) (show f<qs.length by rw [Hql.o];exact f8)
      simp only [zAC,zAS,and_true] at e3
      obtain ⟨rfl,rfl⟩:=e3
      rw [e5,Hqf.o]
      unfold qu
      simp [List.getD,show f<qs.length by rw [Hql.o];exact f8]
     have q1:(0:Int)<=(f:Int):=zO
     have q2:(f:Int)<8:=zO
     have q3:(f:Int)<(qs.length:Int):=by rw [Hql.o];omega
     have yb1:-9223372036854775808<=cf+qf:=zO
     have yb2:cf+qf<=9223372036854775807:=zO
     have HT5:=zL t5
     have HK5:=zL k6
     clear t5 k6 eq2
     go_still_tail 23,zK
     obtain ⟨W,hW⟩:∃W:World,W=W5.setCell ⟨g,10+f,none⟩ (.int .i64 (cf+qf)):=⟨_,rfl⟩
     obtain ⟨cs2,t6⟩:∃cs2,yj B g (.slice A p.length c) (.slice (some ⟨b2,o2,none⟩) qs.length c') W (jI g qv1 rv2) s2 cs2 qv1 rv2:=⟨_,by
      rw [hW,Hs2.o,<-Hqf.o,<-Hcf.o]
      exact HT5.o.af9 f8 (cf+qf)⟩
     have k6:zh B own w (jI g qv1 rv2) W:=by
      rw [hW]
      exact qy HK5.o (zJ (a:=⟨g,10+f,none⟩) (qB B _ W5) ((HT5.o.o g).2 (.inl rfl)) HT5.o.hB _)
     have HW:=zL t6
     have KW:=zL k6
     have hcase:=Hcase.o
     have hend:=Hend.o
     have hne2:=Hne2.o
     have hri2:=Hri2.o
     have hsv2:=Hsv2.o
     subst hW
     clear t6 k6 x19 x1 xq q1 q2 q3 HT5 HK5 H1 K1 hbl4 hcr4 b4 HT4 Hmt HA4 Hn4
     obtain ⟨k,tl,qb,qo,qc,N,hF⟩:=ahP hpk HW.o hri2 hne2
     have hkp:=hF.kp
     obtain ⟨b,o,rfl,hb,d0,d1,d2⟩:=RdP.get (hp.below KW.o.1) hkp
     have hok:=hpk _ (zd hkp)
     obtain ⟨c20,c2m,_⟩:=alO hpk hq1 hri2 hF.f8
     have e19:(W5.setCell ⟨g,10+f,none⟩ (.int .i64 (cf+qf))).cell? ⟨g,19,none⟩=some (.int .i64 (f:Int)):=((HW.o.at_ 19).trans HW.o.cv).trans (by rw [hsv2];rfl)
     have e0:(W5.setCell ⟨g,10+f,none⟩ (.int .i64 (cf+qf))).cell? ⟨g,0,none⟩=some (.slice (some ⟨b,o,none⟩) p.length c):=(HW.o.at_ 0).trans HW.o.c0
     have eq:(W5.setCell ⟨g,10+f,none⟩ (.int .i64 (cf+qf))).cell? ⟨g,2+f,none⟩=some (.slice (some ⟨qb,qo,none⟩) N qc):=((HW.o.at_ _).trans (HW.o.cq f hF.f8)).trans (by rw [hF.qv_])
     have ec:(W5.setCell ⟨g,10+f,none⟩ (.int .i64 (cf+qf))).cell? ⟨g,10+f,none⟩=some (.int .i64 (s2.c f)):=(HW.o.at_ _).trans (HW.o.cc f hF.f8)
     have ek:(W5.setCell ⟨g,10+f,none⟩ (.int .i64 (cf+qf))).cell? ⟨qb,qo,none⟩=some (.int .i64 (k:Int)):=hF.ck
     have q1:(0:Int)<=(f:Int):=zO
     have q2:(f:Int)<8:=by have:=hF.f8;omega
     have q3:(0:Int)<(N:Int):=by have:=hF.N_;omega
     have q4:(0:Int)<=(k:Int):=zO
     have q5:(k:Int)<(p.length:Int):=by have:=hF.kp;omega
     have q6:(1:Int)<=(N:Int):=zO
     have q7:(N:Int)<=(qc:Int):=by have:=hF.Nc;omega
     have q8:¬(f:Int)<0:=zO
     obtain ⟨z,hz⟩:∃z,z=p[k].s:=⟨_,rfl⟩
     rw [<-hz] at d1
     have zb:1<=z/\z<=1500:=by rw [hz];exact ⟨hok.2.2.1,hok.2.2.2.1⟩
     obtain ⟨zb0,zb1⟩:=zb
     have hzk:sOf p (yH s2 f)=z:=by rw [hF.hd,yA hF.kp,hz]
     rw [hzk] at hcase hend
     have d1w:(W5.setCell ⟨g,10+f,none⟩ (.int .i64 (cf+qf))).cell? ⟨b,o+k*3+1,none⟩=some (.int .i64 z):=d1
     obtain ⟨cr,hcr⟩:∃cr,cr=s2.c f:=⟨_,rfl⟩
     rw [<-hcr] at ec c20 c2m hcase hend
     have HF:=zL hF
     have Hz:=zL hz
     have Hcr:=zL hcr
     have Hzk:=zL hzk
     have Hsv:=zL hsv2
     have Hne:=zL hne2
     have Hri:=zL hri2
     clear hF hz hcr hok hzk hsv2 hne2 hri2
     rcases hcase with ⟨hc1,hk0,hs'⟩|⟨hc1,hrest⟩
     ·obtain rfl:k0=k:=hk0.trans HF.o.hd
      have Hs':=zL hs'
      clear hk0 hs'
      go_wp2_with fail
      obtain ⟨V,hV⟩:∃V:World,V=(W5.setCell ⟨g,10+f,none⟩ (.int .i64 (cf+qf))).drew:=⟨_,rfl⟩
      have TV:yj B g (.slice (some ⟨b,o,none⟩) p.length c) (.slice (some ⟨b2,o2,none⟩) qs.length c') V (jI g qv1 rv2) s2 cs2 qv1 rv2:=by rw [hV];exact HW.o.drew
      have KV:zh B own w (jI g qv1 rv2) V:=by rw [hV];exact xH KW.o
      have v0:V.cell? ⟨g,0,none⟩=some (.slice (some ⟨b,o,none⟩) p.length c):=by rw [hV];exact e0
      have vc:V.cell? ⟨g,10+f,none⟩=some (.int .i64 cr):=by rw [hV];exact ec
      have vd:V.cell? ⟨b,o+k0*3+1,none⟩=some (.int .i64 z):=by rw [hV];exact d1w
      have HTV:=zL TV
      have HKV:=zL KV
      rw [<-hV]
      clear hV e19 e0 eq ec ek d0 d1 d1w d2 TV KV
      go_quiet (fail)
      rename Nat=>nq1
      obtain ⟨W1,hW1⟩:∃W1:World,W1=V.drewN nq1:=⟨_,rfl⟩
      have T1:yj B g (.slice (some ⟨b,o,none⟩) p.length c) (.slice (some ⟨b2,o2,none⟩) qs.length c') W1 (jI g qv1 rv2) s2 cs2 qv1 rv2:=zCI
      have k1:zh B own w (jI g qv1 rv2) W1:=zCS
      have y0:W1.cell? ⟨g,0,none⟩=some (.slice (some ⟨b,o,none⟩) p.length c):=(T1.at_ 0).trans T1.c0
      have yc:W1.cell? ⟨g,10+f,none⟩=some (.int .i64 cr):=by rw [Hcr.o];exact (T1.at_ _).trans (T1.cc f HF.o.f8)
      have yz:W1.frozen? ⟨g,10+f,none⟩=false:=T1.blk.frozen _
      have yd:W1.cell? ⟨b,o+k0*3+1,none⟩=some (.int .i64 z):=by rw [hW1];exact vd
      have yb1:-9223372036854775808<=cr - z:=zO
      have yb2:cr - z<=9223372036854775807:=zO
      have HT1:=zL T1
      have HK1:=zL k1
      rw [<-hW1]
      clear hW1 v0 vc vd HTV HKV T1 k1 HW KW
      go_wp2_with fail
      go_still_tail 18,zK
      go_wp2_with fail
      obtain ⟨W2,hW2⟩:∃W2:World,W2=(W1.setCell ⟨g,10+f,none⟩ (.int .i64 (cr - z))).drew:=⟨_,rfl⟩
      have T2:yj B g (.slice (some ⟨b,o,none⟩) p.length c) (.slice (some ⟨b2,o2,none⟩) qs.length c') W2 (jI g qv1 rv2) {s2 with c:=upd s2.c f (cr - z)} (cs2.setIfInBounds (10+f) (.int .i64 (cr - z))) qv1 rv2:=by rw [hW2];exact (HT1.o.af9 HF.o.f8 _).drew
      have k2:zh B own w (jI g qv1 rv2) W2:=by rw [hW2];exact xH (qy HK1.o (zJ (a:=⟨g,10+f,none⟩) (qB B (jI g qv1 rv2) W1) ((HT1.o.o g).2 (.inl rfl)) HT1.o.hB _))
      have y2:W2.cell? ⟨g,2+f,none⟩=some (.slice (some ⟨qb,qo,none⟩) N qc):=((T2.at_ _).trans (T2.cq f HF.o.f8)).trans (by rw [HF.o.qv_])
      have y2f:W2.frozen? ⟨g,2+f,none⟩=false:=T2.blk.frozen _
      have y10c:W2.cell? ⟨g,10+f,none⟩=some (.int .i64 (cr - z)):=(T2.at_ _).trans ((T2.cc f HF.o.f8).trans zCo)
      have y19c:W2.cell? ⟨g,19,none⟩=some (.int .i64 (f:Int)):=(T2.at_ 19).trans (T2.cv.trans (by show some (svV s2.sv)=_;rw [Hsv.o];rfl))
      have y10:W2.frozen? ⟨g,10+f,none⟩=false:=T2.blk.frozen _
      have y19:W2.frozen? ⟨g,19,none⟩=false:=T2.blk.frozen _
      have HT2:=zL T2
      have HK2:=zL k2
      rw [<-hW2]
      clear hW2 T2 k2 HT1 HK1 y0 yc yz yd
      rcases tl with _|⟨k2,tl⟩
      ·obtain rfl:N=1:=HF.o.N_
       have hsd:wY p s2 f={s2 with q:=upd s2.q f [],c:=upd (upd s2.c f (cr - z)) f 0,sv:=none}:=by
            unfold wY
            rw [HF.o.q,List.tail_cons,zp rfl,agF]
       exact zDP
      ·exact zFr
     ·obtain ⟨hri3,hmu3⟩:=hend hc1
      have Hrest:=zL hrest
      clear hrest
      go_wp2_with fail
      obtain ⟨V,hV⟩:∃V:World,V=(W5.setCell ⟨g,10+f,none⟩ (.int .i64 (cf+qf))).drew:=⟨_,rfl⟩
      have TV:yj B g (.slice (some ⟨b,o,none⟩) p.length c) (.slice (some ⟨b2,o2,none⟩) qs.length c') V (jI g qv1 rv2) s2 cs2 qv1 rv2:=by rw [hV];exact HW.o.drew
      have KV:zh B own w (jI g qv1 rv2) V:=by rw [hV];exact xH KW.o
      have v0:V.cell? ⟨g,0,none⟩=some (.slice (some ⟨b,o,none⟩) p.length c):=by rw [hV];exact e0
      have vc:V.cell? ⟨g,10+f,none⟩=some (.int .i64 cr):=by rw [hV];exact ec
      have vd:V.cell? ⟨b,o+k*3+1,none⟩=some (.int .i64 z):=by rw [hV];exact d1w
      have HTV:=zL TV
      have HKV:=zL KV
      rw [<-hV]
      clear hV e19 e0 eq ec ek d0 d1 d1w d2 TV KV
      go_quiet (fail)
      rename Nat=>nq1
      obtain ⟨W1,hW1⟩:∃W1:World,W1=V.drewN nq1:=⟨_,rfl⟩
      have T1:yj B g (.slice (some ⟨b,o,none⟩) p.length c) (.slice (some ⟨b2,o2,none⟩) qs.length c') W1 (jI g qv1 rv2) s2 cs2 qv1 rv2:=zCI
      have k1:zh B own w (jI g qv1 rv2) W1:=zCS
      have y18:W1.cell? ⟨g,18,none⟩=some rv2:=(T1.at_ 18).trans T1.cr
      have hrl:s2.row.length<=1000:=zFK
      have hR:=zL (T1.r.alloc (.cells #[.int .i64 (f:Int)] 3))
      have xf:(W1.alloc (.cells #[.int .i64 (f:Int)] 3)).cell? ⟨W1.heap.size,0,none⟩=some (.int .i64 (f:Int)):=(Blk.new W1 3 #[.int .i64 (f:Int)]).cell 0
      have hbl:Hid (Blk (W1.alloc (.cells #[.int .i64 (f:Int)] 3)) g 258 cs2):=zL (T1.blk.alloc (.cells #[.int .i64 (f:Int)] 3))
      have hba:B<=(W1.alloc (.cells #[.int .i64 (f:Int)] 3)).heap.size:=qG T1.zP _
      have hgr:some g≠(rv2).ownBlock:=λe=>T1.gr e.symm
      have hcr18:=T1.cr
      have hcr19:cs2[19]?=some (.int .i64 (f:Int)):=T1.cv.trans (by rw [Hsv.o];rfl)
      have HT1:=zL T1
      have HK1:=zL k1
      rw [<-hW1]
      clear hW1 v0 vc vd HTV HKV T1 k1 HW KW
      go_wp2_with (refine wpList_append_mid _ rfl (.tmp 137) (.tmp 139) 27 rfl B 3 i0 Tryz.underlying27 hi0 hz0 hz1 hz2 rv2 s2.row rfl hR.o ⟨W1.heap.size,0,none⟩ f rfl xf hrl hba ?_;intro v4 w4 row4 g4 at4;have b4:=Blk.grown hbl.out g4 hgr;have y4:=(b4.cell 18).trans hcr18;have z4:=b4.frozen 18;have y5:=(b4.cell 19).trans hcr19;have z5:=b4.frozen 19;clear b4;obtain ⟨A4,n4,c4,e4⟩:=row4.acT;subst e4)
      obtain ⟨t4,k4⟩:=yj.a02 (HT1.o.alloc (.cells #[.int .i64 (f:Int)] 3)) row4 g4 at4
      have k5:=qy (qy HK1.o (qQ (qB B (jI g qv1 rv2) W1) HT1.o.zP (.cells #[.int .i64 (f:Int)] 3))) (qy k4 (zJ (a:=⟨g,19,none⟩) (qB B _ _) ((t4.o g).2 (.inl rfl)) HT1.o.hB (.int .i64 (-1))))
      exact zE5
def aiQ (n:Int):Bool:=decide (n<1\/3000<n)
theorem asL (n:Int) (w:World):
 Calls Tryz.prog 197 #[.int .i64 n] w λe w'=>e=.returned (.bool (aiQ n))/\w=w':=by
 by_cases h0:n<1
 ·go_enter Tryz.func197,Tryz.ntmps197
  go_wp2
  go_ret
  exact ⟨vL (by symm;exact zAI (.inl h0)),rfl⟩
 ·have h1:1<=n:=by omega
  have He:=zM (aiQ n=decide (3000<n)) (decide_eq_decide.2 zO)
  clear h0
  go_enter Tryz.func197,Tryz.ntmps197
  exact zFj
def abM:List Int->Nat->Int
 |[],_=>-1
 |n::r,k=>if aiQ n then k else abM r (k+1)
theorem asM {l:List Int} {k:Nat} (h:¬0<=abM l k):∀n∈l,1<=n/\n<=3000:=by
 induction l generalizing k with
 |nil=>simp
 |cons x r ih=>
  unfold abM at h
  split at h
  ·exact zAv (zAf k) h
  ·rename_i h1
   intro n hn
   rcases zAM.1 hn with rfl|hn
   ·simp only [aiQ,decide_eq_true_eq] at h1;omega
   ·exact ih h n hn
theorem avT (A:Option Addr) (c:Nat) (l:List Int) (w:World) (B:Nat) (h:RdI w B A l) (hl:l.length<=9223372036854775807):
 Calls Tryz.prog 216 #[.slice A l.length c,.func (.func 197) #[] #[]] w λe w'=>e=.returned (.int .i64 (abM l 0))/\w=w':=by
 go_enter Tryz.func216,Tryz.ntmps216
 go_wp2
 go_loopw [5,8] (λ_ i wr=>∃k:Nat,k<=l.length/\i=.int .i64 k/\abM l 0=abM (l.drop k) k/\w=wr) (λ_ i _=>l.length - (intOf i).toNat)
 case atStart=>exact ⟨0,zAK _,rfl,rfl,rfl⟩
 case round=>
  obtain ⟨k,hk,rfl,hbad,rfl⟩:=hrel
  by_cases hlt:k<l.length
  ·obtain ⟨q,o,rfl,hq,h0⟩:=RdI.get h hlt
   rw [zAE hlt] at hbad
   have Hbad:=zL hbad
   clear hbad
   go_wp2_with fail
   refine (asL _ _).mono ?_
   rintro e w1 ⟨rfl,rfl⟩
   cases hx:aiQ l[k]
   ·have Hx:=zL hx;clear hx
    go_wp2_with fail
    go_roundw
    case rel=>exact ⟨k+1,by omega,by go_num,by rw [Hbad.o];simp [abM,Hx.o],by trivial⟩
    case measure=>simp [intOf];omega
   ·have Hx:=zL hx;clear hx
    go_wp2_with fail
    go_ret
    exact ⟨yh (by rw [Hbad.o];simp [abM,Hx.o]),rfl⟩
  ·exact zEJ
theorem acN (A:Option Addr) (c:Nat) (l:List Int) (w:World) (B:Nat) (h:RdI w B A l) (hl:l.length<=9223372036854775807):
 Calls Tryz.prog 192 #[.slice A l.length c,.func (.func 197) #[] #[]] w λe w'=>e=.returned (.bool (decide (0<=abM l 0)))/\w=w':=by
 go_enter Tryz.func192,Tryz.ntmps192
 go_wp2_with fail
 refine (avT A c l w B h hl).mono ?_
 rintro e w1 ⟨rfl,rfl⟩
 go_wp2_with fail
 go_ret
 exact ⟨rfl,rfl⟩
def kG (l:List Int):Nat:=if l.length=8 then (if 0<=abM l 0 then 2 else 0) else 3
theorem adL (A:Option Addr) (c:Nat) (l:List Int) (S:Nat->Addr) (w:World) (B:Nat) (hB:B<=w.heap.size) (h:RdI w B A l) (hS:Snt w B S [2,3]) (hl:l.length<=9223372036854775807):
 Calls Tryz.prog 175 #[.slice A l.length c] w (aiH S (kG l) (-1) w):=by
 have ba:=zAA w.heap.size w
 have g2:w.cell? ⟨G 2,0,none⟩=some (sv S 2):=((hS.below (ba.mono hB)) 2 zA1).2.2
 have g3:w.cell? ⟨G 3,0,none⟩=some (sv S 3):=((hS.below (ba.mono hB)) 3 zA1).2.2
 have l2:=(hS 2 zA1).1
 have l3:=(hS 3 zA1).1
 simp only [G,sv] at g2 g3 l2 l3
 by_cases h8:l.length=8
 ·have hb1:((l.length:Int) !=8)=false:=by rw [h8];rfl
  by_cases ho:0<=abM l 0
  ·have Hf:=zM (kG l=2) (by unfold kG;rw [zp h8,zp ho])
   have Ho:=zM (decide (0<=abM l 0)=true) (zAI ho)
   clear h8 ho
   go_enter Tryz.func175,Tryz.ntmps175
   go_wp2_with fail
   refine (acN A c l _ B h hl).mono ?_
   exact zE3
  ·have Hf:=zM (kG l=0) (by unfold kG;rw [zp h8,z6 ho])
   have Ho:=zM (decide (0<=abM l 0)=false) (zAH ho)
   clear h8 ho
   go_enter Tryz.func175,Tryz.ntmps175
   go_wp2_with fail
   refine (acN A c l _ B h hl).mono ?_
   exact zE7
 ·have hb1:((l.length:Int) !=8)=true:=by simp;omega
  have Hf:=zM (kG l=3) (z6 h8)
  clear h8
  go_enter Tryz.func175,Tryz.ntmps175
  exact zFk
def aeX (g:Nat):Value:=.agg #[.func (.func 177) #[.pointer (some ⟨g,0,none⟩)] #[],.func (.func 178) #[.pointer (some ⟨g,0,none⟩)] #[],.nilFunc]
structure anH (p:List Pk) (qs:List Int) (A A':Option Addr) (c c' B g:Nat) (w0 w:World) (own:Nat->Prop) (s:RS):Prop where
 bel:Below B w0 w
 tm:∃cs qv rv,yj B g (.slice A p.length c) (.slice A' qs.length c') w own s cs qv rv
set_option maxHeartbeats 1000000 in
theorem an2 (B g m:Nat) (vp vq:Value) (p:List Pk) (qs:List Int) (w:World) (own:Nat->Prop) (s:RS) (cs:Array Value) (qv:Nat->Value) (rv:Value) (h:yj B g vp vq w own s cs qv rv) (hs:lst s=[]):
 Calls Tryz.prog 178 #[.pointer (some ⟨g,0,none⟩)] w λe w'=>e=.returned (.tuple #[.int .i64 0,.bool false])/\w=w':=by
 obtain ⟨hsv,hrow⟩:s.sv=none/\s.row=[]:=by
  unfold lst at hs
  cases hv:s.sv with
  |none=>rw [hv] at hs;exact ⟨rfl,hs⟩
  |some g=>rw [hv] at hs;cases hs
 have hr:=h.r
 rw [hrow] at hr
 obtain ⟨A,c,hv⟩:=hr.slice
 have hv:rv=.slice A 0 c:=hv
 have e19:w.cell? ⟨g,19,none⟩=some (.int .i64 (-1)):=((h.at_ 19).trans h.cv).trans (by rw [hsv];rfl)
 have e18:w.cell? ⟨g,18,none⟩=some (.slice A 0 c):=((h.at_ 18).trans h.cr).trans (by rw [hv])
 clear h hs hsv hrow hr hv
 go_enter Tryz.func178,Tryz.ntmps178
 go_wp2
 go_loopg [4] 1 (λn fv wr=>w=wr)
 case atStart=>trivial
 case round=>
  subst hrel
  go_wp2_with fail
  go_ret2
  exact ⟨rfl,rfl⟩
def ag3 (g:Nat):Obj:=.cells #[.func (.func 177) #[.pointer (some ⟨g,0,none⟩)] #[],.func (.func 178) #[.pointer (some ⟨g,0,none⟩)] #[],.nilFunc] 262
theorem alK (w0:World) (B g:Nat) (A A':Option Addr) (c c':Nat) (p:List Pk) (qs:List Int) (hp:RdP w0 B A p) (hq:RdI w0 B A' qs) (hpk:∀x∈p,zg x) (hql:qs.length=8) (hq1:∀g,g<8->1<=qu qs g/\qu qs g<=3000) (hpl:p.length<=300):
 afM (aeX g) (yn p qs) p.length B (anH p qs A A' c c' B g w0) where
 own_:=fun {w own s} h b hb=>by
  obtain ⟨cs,qv,rv,h⟩:=h.tm
  exact h.xQ hb
 stay:=fun {w w' own s} h hs hb=>by
  obtain ⟨hb0,cs,qv,rv,h⟩:=h
  exact ⟨hb0.trans hb,cs,qv,rv,h.same hs⟩
 come:=fun {w own s} k h hok hkn=>by
  obtain ⟨hb0,cs,qv,rv,h⟩:=h
  have hB:=h.zP
  have kk:=qQ (qB B own w) hB (ag3 g)
  have hl:=aaS hpk hok
  have hrl:s.row.length<=900:=by
   unfold lst at hl
   cases hv:s.sv with
   |none=>rw [hv] at hl;simp only at hl;omega
   |some g=>rw [hv] at hl;simp only [zAL] at hl;omega
  unfold aeX
  go_enter Tryz.func278,Tryz.ntmps278
  go_wp2_with fail
  refine (asF B g k A A' c c' p qs _ own s cs qv rv (h.alloc (ag3 g)) (hp.below (hb0.trans kk.1)) hpk hkn (λf _=>by have:=a01 hok hpl f;omega) hrl).mono ?_
  rintro e w1 ⟨rfl,own',cs',qv',rv',h',k'⟩
  go_wp2_with fail
  go_end0
  exact zFd
 none_:=fun {w own s m} h hok hk=>by
  obtain ⟨hb0,cs,qv,rv,h⟩:=h
  have hB:=h.zP
  have hq0:∀g,0<=qu qs g:=λg=>by
   by_cases h8:g<8
   ·have:=(hq1 g h8).1;omega
   ·exact zEp
  have hl:=acV hpk hq0 (λg hg=>(hq1 g hg).1) _ s m hok (zD _) hk
  clear hk hok
  have kk:=qQ (qB B own w) hB (ag3 g)
  unfold aeX
  go_enter Tryz.func279,Tryz.ntmps279
  go_wp2_with fail
  refine (an2 B g m _ _ p qs _ own s cs qv rv (h.alloc (ag3 g)) hl).mono ?_
  rintro e w1 ⟨rfl,rfl⟩
  go_wp2_with fail
  go_ret2
  exact ⟨rfl,own,⟨hb0.trans kk.1,cs,qv,rv,h.alloc _⟩,kk⟩
 some_:=fun {w own s m} k s' h hok hk=>by
  obtain ⟨hb0,cs,qv,rv,h⟩:=h
  have hB:=h.zP
  have kk:=qQ (qB B own w) hB (ag3 g)
  have Hk:=zM (wF p qs (rMu s) s=some (k,s')) hk
  clear hk
  unfold aeX
  go_enter Tryz.func279,Tryz.ntmps279
  go_wp2_with fail
  refine (an1 B g m k A A' c c' p qs _ own s s' cs qv rv (h.alloc (ag3 g)) (hp.below (hb0.trans kk.1)) (hq.below (hb0.trans kk.1)) hpk hql hq1 hpl hok Hk.o).mono ?_
  rintro e w1 ⟨rfl,own',cs',qv',rv',h',k'⟩
  go_wp2_with fail
  go_ret2
  exact zFd
 rest:=fun {w own s m} h hok hw=>by
  obtain ⟨hb0,cs,qv,rv,h⟩:=h
  have hB:=h.zP
  have f1:=aaH
  have kk:=qQ (qB B own w) hB (ag3 g)
  unfold aeX
  go_enter Tryz.func280,Tryz.ntmps280
  go_wp2_with fail
  go_end0
  exact ⟨rfl,own,⟨hb0.trans kk.1,cs,qv,rv,h.alloc _⟩,kk⟩
def zt (p:List Pk) (per:Int) (l:List Int):Nat × Int:=if (qm p per).1=0 then (kG l,-1) else qm p per
theorem aaF {p:List Pk} {per:Int} {l:List Int} (h:(zt p per l).1=0):(qm p per).1=0/\kG l=0/\l.length=8/\(∀n∈l,1<=n/\n<=3000)/\zt p per l=(0,-1):=by
 unfold zt at h ⊢
 by_cases h1:(qm p per).1=0
 ·rw [zp h1] at h ⊢
  have h':=h
  unfold kG at h
  by_cases h8:l.length=8
  ·rw [zp h8] at h
   by_cases ho:0<=abM l 0
   ·rw [zp ho] at h;simp at h
   ·exact ⟨h1,h',h8,asM ho,by rw [show kG l=0 from h']⟩
  ·rw [z6 h8] at h;simp at h
 ·rw [z6 h1] at h;exact zAv h h1
theorem a2H {l:List Int} (h8:l.length=8) (h:∀n∈l,1<=n/\n<=3000):∀g,g<8->1<=qu l g/\qu l g<=3000:=λg hg=>by
 unfold qu
 have hgl:g<l.length:=zO
 simp only [List.getD,zAR hgl,Option.getD_some]
 exact h _ (zd hgl)
def akB (vp vq:Value):Array Value:=#[vp,vq,.slice none 0 0,.slice none 0 0,.slice none 0 0,.slice none 0 0,.slice none 0 0,.slice none 0 0,.slice none 0 0,.slice none 0 0,.int .i64 0,.int .i64 0,.int .i64 0,.int .i64 0,.int .i64 0,.int .i64 0,.int .i64 0,.int .i64 0,.slice none 0 0,.int .i64 (-1)]
theorem lt8 {P:Nat->Prop} (h0:P 0) (h1:P 1) (h2:P 2) (h3:P 3) (h4:P 4) (h5:P 5) (h6:P 6) (h7:P 7) (f:Nat) (hf:f<8):P f:=by
 have h:f=0\/f=1\/f=2\/f=3\/f=4\/f=5\/f=6\/f=7:=zO
 rcases h with rfl|rfl|rfl|rfl|rfl|rfl|rfl|rfl<;>assumption
theorem arW (B:Nat) (vp vq:Value) (w:World) (hB:B<=w.heap.size):yj B w.heap.size vp vq (w.alloc (.cells (akB vp vq) 258)) (λb=>b=w.heap.size) rs0 (akB vp vq) (λ_=>.slice none 0 0) (.slice none 0 0) where
 blk:=Blk.new _ _ _
 size:=rfl
 c0:=rfl
 c1:=rfl
 cq:=lt8 rfl rfl rfl rfl rfl rfl rfl rfl
 cc:=lt8 rfl rfl rfl rfl rfl rfl rfl rfl
 cr:=rfl
 cv:=rfl
 q:=λ_ _=>zZ.ui _ _ _
 r:=zZ.ui _ _ _
 hB:=hB
 gq:=λ_ _=>by simp [Value.ownBlock]
 gr:=zBO
 qr:=λ_ _ _ h=>by simp [Value.ownBlock] at h
 qq:=λ_ _ _ _ _ _ h=>by simp [Value.ownBlock] at h
 o:=λb=>⟨λh=>.inl h,λh=>by
  rcases h with h|h|⟨f,_,h⟩
  ·exact h
  ·simp [Value.ownBlock] at h
  ·simp [Value.ownBlock] at h⟩
set_option maxHeartbeats 1000000 in
theorem alJ (A A':Option Addr) (c c':Nat) (p:List Pk) (per:Int) (qs:List Int) (S:Nat->Addr) (w:World) (B:Nat) (hB:B<=w.heap.size) (h:RdP w B A p) (h':RdI w B A' qs) (hS:Snt w B S [2,3,5]) (hl:p.length<=9223372036854775807) (hl':qs.length<=9223372036854775807) (hok:(zt p per qs).1=0):
 Calls Tryz.prog 148 #[.slice A p.length c,.int .i64 per,.slice A' qs.length c'] w (yE Sn.cs 3 64 (acU p per qs) S (zt p per qs).1 (zt p per qs).2 w):=by
 obtain ⟨e1,e2,h8,hn,e3⟩:=aaF hok
 obtain ⟨hf,h300,hpk,h0,h1⟩:=zI e1
 have hq1:=a2H h8 hn
 have hq0:∀g,0<=qu qs g:=λg=>by
  by_cases h9:g<8
  ·have:=(hq1 g h9).1;omega
  ·exact zEp
 have Hf:=zL hf
 have Hn:=zL e2
 have He:=zL e3
 have H8:=zL h8
 clear hf hok e1 e2 e3 h8
 go_enter Tryz.func148,Tryz.ntmps148
 go_wp2_with fail
 refine (xK A c p per S w B hB h (hS.sub zA1) hl).mono ?_
 rintro e w1 ⟨v,rfl,hv,hb1⟩
 obtain rfl:=hv.qK zCF
 go_wp2_with fail
 refine (adL A' c' qs S w1 B (zAB hB hb1.size) (h'.below (hb1.mono hB)) ((hS.below (hb1.mono hB)).sub zA1) hl').mono ?_
 rintro e w2 ⟨v,rfl,hv,hb2⟩
 obtain rfl:=hv.qK Hn.o
 have k2:Below w.heap.size w w2:=hb1.trans (hb2.mono hb1.size)
 have z2:=k2.size
 go_wp2_with fail
 have tn:=arW (w2.heap.size) (.slice A p.length c) (.slice A' qs.length c') w2 (zD _)
 have bn:Below w2.heap.size w2 (w2.alloc (.cells (akB (.slice A p.length c) (.slice A' qs.length c')) 258)):=(zAA _ _).alloc (zD _) _
 refine (adG (R:=aeX w2.heap.size) (M:=yn p qs) (Mem:=anH p qs A A' c c' w2.heap.size w2.heap.size (w2.alloc (.cells (akB (.slice A p.length c) (.slice A' qs.length c')) 258))) A c p per w2.heap.size rs0 _ _ zA1
  (((h.below (k2.mono hB)).more (zAB hB z2)).below bn) hpk h300 h0 h1 (aa5 hpk hq0 (λg hg=>(hq1 g hg).1)) (alK _ _ _ A A' c c' p qs (((h.below (k2.mono hB)).more (zAB hB z2)).below bn) (((h'.below (k2.mono hB)).more (zAB hB z2)).below bn) hpk H8.o hq1 h300) ⟨zAA _ _,_,_,_,tn⟩ ag4 (akE p qs)).mono ?_
 rintro e w3 ⟨A3,c3,own',rfl,row,hb3,_⟩
 go_wp2_with fail
 go_ret2
 rw [He.o]
 exact ⟨A3,c3,_,rfl,qO row (zAB k2.size bn.size),.nil,(k2.trans (bn.mono k2.size)).trans (hb3.mono k2.size)⟩
set_option maxHeartbeats 1000000 in
theorem akF (A A':Option Addr) (c c':Nat) (p:List Pk) (per:Int) (qs:List Int) (S:Nat->Addr) (w:World) (B:Nat) (hB:B<=w.heap.size) (h:RdP w B A p) (h':RdI w B A' qs) (hS:Snt w B S [2,3,5]) (hl:p.length<=9223372036854775807) (hl':qs.length<=9223372036854775807) (hok:(zt p per qs).1≠0):
 Calls Tryz.prog 148 #[.slice A p.length c,.int .i64 per,.slice A' qs.length c'] w (yE Sn.cs 3 64 [] S (zt p per qs).1 (zt p per qs).2 w):=by
 by_cases h1:(qm p per).1=0
 ·obtain ⟨hf,_,_,_,_⟩:=zI h1
  have He:=zM (zt p per qs=(kG qs,-1)) (zp h1)
  have Hn:=zM (kG qs≠0) zCV
  have Hf:=zL hf
  clear hok hf h1
  go_enter Tryz.func148,Tryz.ntmps148
  go_wp2_with fail
  refine (xK A c p per S w B hB h (hS.sub zA1) hl).mono ?_
  rintro e w1 ⟨v,rfl,hv,hb1⟩
  obtain rfl:=hv.qK zCF
  go_wp2_with fail
  refine (adL A' c' qs S w1 B (zAB hB hb1.size) (h'.below (hb1.mono hB)) ((hS.below (hb1.mono hB)).sub zA1) hl').mono ?_
  rintro e w2 ⟨v,rfl,hv,hb2⟩
  obtain ⟨T,a,rfl⟩:=hv.qW Hn.o
  go_wp2_with fail
  go_ret2
  rw [He.o]
  exact ⟨none,0,_,rfl,⟨by simp,.inl ⟨rfl,rfl⟩⟩,hv,hb1.trans (hb2.mono hb1.size)⟩
 ·have He:=zM (zt p per qs=qm p per) (z6 h1)
  have Hn:=zL h1
  clear hok h1
  go_enter Tryz.func148,Tryz.ntmps148
  go_wp2_with fail
  refine (xK A c p per S w B hB h (hS.sub zA1) hl).mono ?_
  rintro e w1 ⟨v,rfl,hv,hb1⟩
  obtain ⟨T,a,rfl⟩:=hv.qW Hn.o
  go_wp2_with fail
  go_ret2
  rw [He.o]
  exact ⟨none,0,_,rfl,⟨by simp,.inl ⟨rfl,rfl⟩⟩,hv,hb1⟩
def kK (l:List Int) (least most:Int):Nat:=if l.length=8 then (if l.all (λn=>decide (least<=n/\n<=most)) then 0 else 2) else 3
theorem aqQ (l:List Int) (most:Int):kK l 0 most=vz l most:=by
 have key:∀(l:List Int) (k:Nat),l.all (λn=>decide (0<=n/\n<=most))=decide (¬0<=vN most l k):=λl=>by
  induction l with
  |nil=>intro k;rfl
  |cons x r ih=>
   intro k
   show (decide (0<=x/\x<=most)&&_)=_
   unfold vN
   by_cases hx:0<=x/\x<=most
   ·rw [zAI hx,z6 (by unfold aoR;rw [zAe];omega),Bool.true_and]
    exact ih (k+1)
   ·rw [zAH hx,zp (by unfold aoR;rw [zAe];omega),Bool.false_and]
    symm
    rw [decide_eq_false_iff_not]
    exact λh=>h (zAf k)
 unfold kK vz
 split
 ·rw [key l 0]
  by_cases h:0<=vN most l 0
  ·rw [zp h,zAH (λh9=>h9 h)];rfl
  ·rw [z6 h,zAI h];rfl
 ·rfl
theorem zu (A:Option Addr) (c:Nat) (l:List Int) (least most:Int) (w:World) (B:Nat) (h:RdI w B A l) (hl:l.length<=9223372036854775807):
 Calls Tryz.prog 46 #[.slice A l.length c,.int .i64 least,.int .i64 most] w λe w'=>e=.returned (.int .i64 (kK l least most))/\w=w':=by
 by_cases h8:l.length=8
 ·have hb1:((l.length:Int) !=8)=false:=by rw [h8];rfl
  have H8:=zL h8
  clear h8
  go_enter Tryz.func46,Tryz.ntmps46
  go_wp2_with fail
  go_loopw [7] (λi wr=>∃k:Nat,k<=l.length/\i=.int .i64 k/\l.all (λn=>decide (least<=n/\n<=most))=(l.drop k).all (λn=>decide (least<=n/\n<=most))/\w=wr) (λi _=>l.length - (intOf i).toNat)
  case atStart=>exact ⟨0,zAK _,rfl,rfl,rfl⟩
  case round=>
   obtain ⟨k,hk,rfl,hb,rfl⟩:=hrel
   by_cases hlt:k<l.length
   ·obtain ⟨b,o,rfl,hbb,d0⟩:=RdI.get h hlt
    rw [zAE hlt] at hb
    have q1:(k:Int)<(l.length:Int):=zO
    have q2:(0:Int)<=(k:Int):=zO
    by_cases hx:least<=l[k]/\l[k]<=most
    ·have Hb:=zM (l.all (λn=>decide (least<=n/\n<=most))=(l.drop (k+1)).all (λn=>decide (least<=n/\n<=most))) (by rw [hb,List.all_cons,zAI hx,Bool.true_and])
     obtain ⟨x1,x2⟩:=hx
     clear hb
     go_wp2_with fail
     go_roundw
     case rel=>exact ⟨k+1,hlt,by go_num,Hb.o,by trivial⟩
     case measure=>simp [intOf];omega
    ·have Hb:=zM (kK l least most=2) (by unfold kK;rw [zp H8.o,hb,List.all_cons,zAH hx];rfl)
     have hx2:l[k]<least\/(least<=l[k]/\most<l[k]):=zO
     clear hb hx
     rcases hx2 with x1|⟨x1,x2⟩
     all_goals
            exact zEv
   ·have Hb:=zM (kK l least most=0) (by unfold kK;rw [zp H8.o,hb,zAO zO];rfl)
    clear hb
    exact zEv
 ·have hb1:((l.length:Int) !=8)=true:=by simp;omega
  have Hb:=zM (kK l least most=3) (z6 h8)
  clear h8
  go_enter Tryz.func46,Tryz.ntmps46
  exact zEv
end Go.Proofs.YtoomffajodheaaaGreatDoor
