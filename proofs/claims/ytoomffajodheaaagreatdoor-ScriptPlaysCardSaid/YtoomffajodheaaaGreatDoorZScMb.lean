/- The proof of ScriptPlays, part ScMb. Conditions: in each statement. -/
import Derived.Test.YtoomffajodheaaaGreatDoorZScMa
import Derived.Lib.ItoaLen
set_option linter.all false
namespace Go.Proofs.YtoomffajodheaaaGreatDoor
open Go.RowKit
set_option maxRecDepth 100000
theorem zCN{p:Prop}(h:p:=by have:=HL8.o;omega):p:=h
theorem zC2{p:Prop}(h:p:=by rw [<-hq];simp):p:=h
theorem zDn{p:Prop}(h:p:=by
 all_goals
  have hq:r++[x]=P.take (k+1):=by rw [HRR.o,HX.o,zAN hlt]
  have hlen:r.length+1=(P.take (k+1)).length:=zC2
  have HLN:=zL hlen
  rw [hq] at o10 ⊢
  have HO:=zL o10
  have HK:=zL KD
  clear hlen hq o10 KD g10 h10 d1 d2
  go_wp2_with fail
  go_roundw
  case rel=>exact ⟨k+1,A10,c10,hlt,λh9=>by omega,by first |rfl|rw [<-HLN.o],by have:=HJ.o;simp only [Value.int.injEq,true_and];omega,HO.o,HK.o⟩
  case measure=>simp [intOf];omega):p:=h
theorem zEO{p:Prop}(h:p:=by
 have a1:2*k+1<n.length:=zO
 have a2:2*k+2<n.length:=zO
 refine ⟨a1,a2,?_⟩
 subst hP
 rw [acY _ k h]
 simp [List.getD,List.getElem?_drop,show 1+2*k=2*k+1 by omega,show 1+(2*k+1)=2*k+2 by omega,a1,a2]):p:=h
theorem zFU{p:Prop}(h:p:=by
 rw [<-List.map_cons] at hy
 obtain ⟨z,hz,rfl⟩:=zAT.1 hy
 exact ai8 (h z hz)):p:=h
theorem zFf{p:Prop}(h:p:=by rw [HW7.o,zAb (a:=⟨b,o,none⟩) (zAF w6 ⟨pb,0,none⟩ _ b hbp)];exact HE6.o):p:=h
theorem al6 {n:Nat} {p:List Pk} {per:Int} {ns:List Int} (h:(qE n p per ns).1=0):ns.length<=8:=by
 have hr:∀m,(qM p per ns m).1=0->ns.length<=8:=λm h=>by
  unfold qM at h
  split at h
  ·unfold vz at h
   by_cases h8:ns.length=8
   ·omega
   ·rw [z6 h8] at h;simp at h
  ·rename_i h2;exact zAv h h2
 match n,h with
 |0,h=>
  unfold qE at h
  simp only at h
  split at h
  ·rename_i h2;exact zAv h h2
  ·split at h
   ·simp at h
   ·omega
 |1,h=>exact hr 100 h
 |2,h=>exact hr 1099511627776 h
 |3,h=>have:=(aaF h).2.2.1;omega
 |4,h=>have:=(kU h).2.2.1;omega
 |n+5,h=>exact zAv h (by simp [qE])
theorem akU {n:Nat} {l:List Sn} (h:∀x∈l,0<=x.p/\x.p.toNat<n) (k:Nat):uo n l k=-1:=by
 induction l generalizing k with
 |nil=>rfl
 |cons x r ih=>
  have:=h x zAD
  unfold uo
  rw [zp ⟨by omega,by omega⟩]
  exact ih (λy hy=>h y (zAJ _ hy)) (k+1)
theorem ag2 {cs:List (List Ln)} {n:Nat} {per:Int} {ns:List Int} {p:List Pk} (h:(zq cs n per ns p).1=0):(uR cs n per ns p).length=p.length/\abH (uR cs n per ns p) per (uS cs n per ns p)/\(qj (uR cs n per ns p)).1=0:=by
 obtain ⟨h1,h2,h3,h4,h5,h6⟩:=aeV h
 have hq:uR cs n per ns p=ab2 p (zF cs p 8).1:=zp h
 have hl:uS cs n per ns p=vD n (ab2 p (zF cs p 8).1) per ns:=zp h
 rw [hq,hl]
 exact ⟨ahS _ _,azK (by rw [h6]),h5⟩
theorem Sc.ok.ns {s:Sc} (h:s.ok):s.ns.length<=8:=al6 (xL h.1).2.2.1
def i64 (n:Int):Prop:=-9223372036854775808<=n/\n<=9223372036854775807
theorem Sc.ok.run {s:Sc} (h:s.ok):(scL s).length<=300/\∀x∈scL s,i64 x.p/\i64 x.f/\i64 x.t:=by
 by_cases hr:(scE s).1=0
 ·obtain ⟨h1,h2,-⟩:=ag2 hr
  have h3:=h.pl
  refine ⟨by have:=h2.len;show (uS s.cs (qg s.K) s.per s.ns s.p).length<=300;omega,λx hx=>?_⟩
  have a:=h2.each x hx
  have b:=h2.tame x hx
  have c:=h2.tame' x hx
  unfold wQ at b c
  unfold i64
  exact ⟨by omega,by omega,by omega⟩
 ·have hl:scL s=[]:=z6 hr
  rw [hl]
  exact ⟨by simp,by simp⟩
theorem ai8 {x:Sn} (h:i64 x.p/\i64 x.f/\i64 x.t):(vZ x).length<=65:=by
 obtain ⟨⟨a,b⟩,⟨c,d⟩,⟨e,f⟩⟩:=h
 have h1:=Lib.itoa_length_le x.p a b
 have h2:=Lib.itoa_length_le x.f c d
 have h3:=Lib.itoa_length_le x.t e f
 unfold vZ
 simp only [zAP,zAL]
 omega
theorem aqT {l:List (List UInt8)} {k:Nat} (h:∀x∈l,x.length<=k):Lib.lens l<=k*l.length:=by
 induction l with
 |nil=>simp [Lib.lens]
 |cons x r ih=>
  have:=ih λy hy=>h y (zAJ _ hy)
  have h1:=h x zAD
  rw [zAL,Nat.mul_succ]
  simp only [Lib.lens,List.map_cons,List.sum_cons] at this ⊢
  omega
theorem atK {l:List Sn} (h:∀x∈l,i64 x.p/\i64 x.f/\i64 x.t) (h3:l.length<=300):(Lib.join (l.map vZ) [32]).length<=140737488355328:=by
 cases l with
 |nil=>simp [Lib.join_nil]
 |cons x r=>
  rw [List.map_cons,Lib.join_length]
  have:=aqT (l:=vZ x::r.map vZ) (k:=65) λy hy=>by
   exact zFU
  simp only [zAL,List.length_map,zAg] at this h3 ⊢
  omega
def stB (x:Sn):ByteArray:=⟨(vZ x).toArray⟩
theorem akW:(Tryz.prog.info? 9).map (λi=>(i.zero,i.size,i.bytes))=some (some (.string ⟨#[]⟩),1,16):=zK
theorem aa7 {w:World} {base:Nat} {e:TypeId} {size:Nat} {v:Value} {n:Nat} {xs:List Value} (h:w.ownsRow base e size v n xs):∀k,v.ownBlock=some k->k<w.heap.size:=λk hk=>by
 obtain ⟨hl,⟨h1,h2⟩|⟨g,cap,cur,hv,hg,hh,hr⟩⟩:=h
 ·rw [h1] at hk;cases hk
 ·rw [hv] at hk
  simp only [Value.ownBlock,zAC] at hk
  subst hk
  exact (Array.getElem?_eq_some_iff.1 hh).1
section
variable (F:Nat->Prop) (pb:Nat) (s:Sc) (S:Nat->Addr) (w:World) (B:Nat) (hpB:B<=pb) (hB:B<=w.heap.size) (hS:SX w B S) (hm:jD F w pb s) (hF:∀b,F b->b<w.heap.size) (hok:s.ok)
include hpB hB hS hm hF hok
set_option maxHeartbeats 4000000 in
theorem ayX:Calls Tryz.prog 71 #[.pointer (some ⟨pb,0,none⟩)] w (aeK F pb S (abR s) w):=by
 obtain ⟨h8,hll⟩:=hok.ll
 have hm':=hm
 obtain ⟨Ac,cc,An,cn,Ap,cp,h1,h2,h3,h4,h5,h6,h7⟩:=hm'
 have c0:=h1.cell 0
 have c1:=h1.cell 1
 have c2:=h1.cell 2
 have c3:=h1.cell 3
 have c4:=h1.cell 4
 simp only [zc,zE,zj] at c0 c1 c2 c3 c4
 have hpbl:=h1.lt
 have hpl:=hok.pl
 have hnl:s.ns.length<=9223372036854775807:=by have:=hok.ns;omega
 have HRN:=zL (λW (hb:Below w.heap.size w W)=>amK Ac An Ap cc cn cp s.cs s.K s.per s.ns s.p S W w.heap.size hb.size (abF.below h3.ll hb) (Rd.below h4 hb) (Rd.below h6 hb) ((hS.gs.below (hb.mono hB)).more hB) hll hnl zO)
 have Hkeep:=zM (∀W:World,Below w.heap.size w W->W.cell? ⟨pb,0,none⟩=some (.slice Ac s.cs.length cc)/\W.cell? ⟨pb,1,none⟩=some (.string s.K)/\W.cell? ⟨pb,2,none⟩=some (.int .i64 s.per)/\W.cell? ⟨pb,3,none⟩=some (.slice An s.ns.length cn)/\W.cell? ⟨pb,4,none⟩=some (.slice Ap s.p.length cp)) (λW hW=>⟨(hW.cell (p:=⟨pb,0,none⟩) hpbl).trans c0,(hW.cell (p:=⟨pb,1,none⟩) hpbl).trans c1,(hW.cell (p:=⟨pb,2,none⟩) hpbl).trans c2,(hW.cell (p:=⟨pb,3,none⟩) hpbl).trans c3,(hW.cell (p:=⟨pb,4,none⟩) hpbl).trans c4⟩)
 have HM:=zL hm
 have _hp:=hpB
 clear _hp
 have HF:=zL hF
 clear hF
 have hok':=hok
 clear h1 h2 h3 h4 h5 h6 h7 hm hok hll hnl h8
 go_enter Tryz.func71,Tryz.ntmps71
 go_wp2_with fail
 go_region_held3 (λw'=>w'.cell? ⟨pb,0,none⟩=some (.slice Ac s.cs.length cc)/\w'.cell? ⟨pb,1,none⟩=some (.string s.K)/\w'.cell? ⟨pb,2,none⟩=some (.int .i64 s.per)/\w'.cell? ⟨pb,3,none⟩=some (.slice An s.ns.length cn)/\w'.cell? ⟨pb,4,none⟩=some (.slice Ap s.p.length cp))
  (first
   |go_keep
   |exact Hkeep.o _ K9)
  (first
   |(go_at_call 99;refine (HRN.o w.drew ((zAA _ _).drew)).mono ?_;rintro e w9 ⟨A8,c8,A9,c9,v9,rfl,-,o9,e9,k9⟩;have K9:Below w.heap.size w w9:=((zAA _ _).drew).trans k9)
   |fail "no arm")
 clear c0 c1 c2 c3 c4
 obtain ⟨l,hl⟩:∃l,l=uS s.cs (qg s.K) s.per s.ns s.p:=⟨_,rfl⟩
 have hrn:=hok'.run
 unfold scL at hrn
 rw [<-hl] at o9 hrn ⊢
 obtain ⟨hl3,hlx⟩:=hrn
 have RL:=zL (RdS.qA o9)
 have KK:=zL K9
 have z9:=K9.size
 have HLX:=zL hlx
 clear o9 k9 K9 hlx
 obtain ⟨i1,hi1,hy0,hy1,hy2⟩:=info_parts akW
 have one_pos:0<1:=zO
 have HLE:=zL hl
 clear hl
 go_wp2_with fail
 go_loopw [7,25] (λov iv wr=>∃(k:Nat) (A1:Option Addr) (c1:Nat),k<=l.length/\(k=0->A1=none)/\ov=.slice A1 ((l.take k).map stB).length c1/\iv=.int .i64 k/\wr.ownsRow w9.heap.size 9 1 (.slice A1 ((l.take k).map stB).length c1) ((l.take k).map stB).length (((l.take k).map stB).flatMap bCs)/\Below w9.heap.size w9 wr) (λ_ iv _=>l.length - (intOf iv).toNat)
 case atStart=>exact ⟨0,none,0,zAK _,λ_=>rfl,rfl,rfl,⟨by simp,.inl ⟨rfl,rfl⟩⟩,zAA _ _⟩
 case round=>
  obtain ⟨k,A1,c1,hk,hk0,rfl,rfl,row,hbw⟩:=hrel
  have ROW:=zL row
  have zw:=hbw.size
  clear row
  by_cases hlt:k<l.length
  ·obtain ⟨b,o,rfl,hb,d0⟩:=Rd.at_ (RL.o.below hbw) hlt
   have x0:=d0 0 _ rfl
   have x1:=d0 1 _ rfl
   have x2:=d0 2 _ rfl
   simp only [Nat.add_zero] at x0
   obtain ⟨x,hx⟩:∃x,x=l[k]:=⟨_,rfl⟩
   rw [<-hx] at x0 x1 x2
   have hxl:=HLX.o x (by rw [hx];exact zd hlt)
   have HX:=zL hx
   clear d0 hx
   have q1:(0:Int)<=(k:Int):=zO
   have q2:(k:Int)<(l.length:Int):=zO
   obtain ⟨wa,hwa⟩:∃wa,wa=wr.alloc (.cells #[.int .i64 x.p,.int .i64 x.f,.int .i64 x.t] 64):=⟨_,rfl⟩
   obtain ⟨gx,hgx⟩:∃gx,gx=wr.heap.size:=⟨_,rfl⟩
   have BX:Blk wa gx 64 #[.int .i64 x.p,.int .i64 x.f,.int .i64 x.t]:=by rw [hwa,hgx];exact Blk.new _ _ _
   have ka9:Below w9.heap.size w9 wa:=by rw [hwa];exact hbw.alloc zw _
   have rowa:=own_below ROW.o (show Below wr.heap.size wr wa by rw [hwa];exact (zAA _ _).alloc (zD _) _) (zD _)
   have HWA:=zL hwa
   have HGX:=zL hgx
   have hgl:=BX.lt
   have y0:=BX.cell 0
   have y1:=BX.cell 1
   have y2:=BX.cell 2
   simp only [zc,zE,zj] at y0 y1 y2
   clear hwa hgx
   have hm1:((l.take k).map stB).length<=300:=by rw [List.length_map,zAh];omega
   go_upto_region 6 with fail
   rw [<-HWA.o,<-HGX.o]
   clear x0 x1 x2
   obtain ⟨r,hr⟩:∃r,r=(l.take k).map stB:=⟨_,rfl⟩
   rw [<-hr] at rowa hm1 ⊢
   have HRR:=zL hr
   clear hr
   have rowr:=ROW.o
   rw [<-HRR.o] at rowr
   have ROWA:=zL rowa
   have kd:Below wa.heap.size wa wa.drew:=(zAA _ _).drew
   have za:=ka9.size
   have HIT:∀n t,i64 n->t=(⟨(Lib.itoa n).toArray⟩:ByteArray)->∀W,Below wa.heap.size wa W->Calls Tryz.prog 64 #[.int .i64 n] W (λe w'=>e=.returned (.string t)/\Below W.heap.size W w'):=λn t hn ht W hW=>(Tryz.strconv_Itoa n hn.1 hn.2 W (hS.below ((KK.o.trans ((ka9.trans (hW.mono za)).mono z9)).mono hB)).tab).mono λe w' ⟨h1,k,os,h2⟩=>⟨by rw [ht];exact h1,by rw [h2];exact jA W k os⟩
   obtain ⟨tp,htp⟩:∃t:ByteArray,t=⟨(Lib.itoa x.p).toArray⟩:=⟨_,rfl⟩
   obtain ⟨tf,htf⟩:∃t:ByteArray,t=⟨(Lib.itoa x.f).toArray⟩:=⟨_,rfl⟩
   obtain ⟨tt,htt⟩:∃t:ByteArray,t=⟨(Lib.itoa x.t).toArray⟩:=⟨_,rfl⟩
   have hIP:=zL (HIT x.p tp hxl.1 htp)
   have hIF:=zL (HIT x.f tf hxl.2.1 htf)
   have hIT:=zL (HIT x.t tt hxl.2.2 htt)
   have b1:tp.size<=21:=by rw [htp];exact Lib.itoa_length_le x.p hxl.1.1 hxl.1.2
   have b2:tf.size<=21:=by rw [htf];exact Lib.itoa_length_le x.f hxl.2.1.1 hxl.2.1.2
   have b3:tt.size<=21:=by rw [htt];exact Lib.itoa_length_le x.t hxl.2.2.1 hxl.2.2.2
   have HT0:=zL (show tp++ByteArray.mk #[58]++tf++ByteArray.mk #[45]++tt=stB x by
    rw [htp,htf,htt]
    unfold stB vZ
    apply ByteArray.ext
    simp)
   have t1:¬9223372036854775807<tp.size+1:=zO
   have t2:¬9223372036854775807<tp.size+1+tf.size:=zO
   have t3:¬9223372036854775807<tp.size+1+tf.size+1:=zO
   have t4:¬9223372036854775807<tp.size+1+tf.size+1+tt.size:=zO
   have HNE:some gx≠(Value.slice A1 r.length c1).ownBlock:=λe=>by have:=aa7 rowr gx e.symm;rw [HGX.o] at this;omega
   have u5:r.length+1<=maxLen:=zA2
   have u6:(r.length+1)*16<=140737488355328:=zO
   clear HIT htp htf htt b1 b2 b3
   have Hkeep:=zM (∀W:World,Below wa.heap.size wa W->W.cell? ⟨gx,0,none⟩=some (.int .i64 x.p)/\W.cell? ⟨gx,1,none⟩=some (.int .i64 x.f)/\W.cell? ⟨gx,2,none⟩=some (.int .i64 x.t)) (λW hW=>⟨(hW.cell (p:=⟨gx,0,none⟩) hgl).trans y0,(hW.cell (p:=⟨gx,1,none⟩) hgl).trans y1,(hW.cell (p:=⟨gx,2,none⟩) hgl).trans y2⟩)
   clear rowa hxl
   go_region_held3 (λw'=>w'.cell? ⟨gx,0,none⟩=some (.int .i64 x.p)/\w'.cell? ⟨gx,1,none⟩=some (.int .i64 x.f)/\w'.cell? ⟨gx,2,none⟩=some (.int .i64 x.t))
    (first
     |go_keep
     |exact Hkeep.o _ KA
     |exact Hkeep.o _ KB
     |exact Hkeep.o _ KC
     |exact Hkeep.o _ (KC.alloc KC.size _)
     |exact HKD)
    (first
     |(go_at_call 64;(with_reducible show Calls _ _ #[.int .i64 x.p] _ _);refine (hIP.o wa.drew kd).mono ?_;rintro e wA ⟨rfl,kA⟩;have KA:Below wa.heap.size wa wA:=kd.trans (kA.mono kd.size))
     |(go_at_call 64;(with_reducible show Calls _ _ #[.int .i64 x.f] _ _);refine (hIF.o wA KA).mono ?_;rintro e wB ⟨rfl,kB⟩;have KB:Below wa.heap.size wa wB:=KA.trans (kB.mono KA.size))
     |(go_at_call 64;(with_reducible show Calls _ _ #[.int .i64 x.t] _ _);refine (hIT.o wB KB).mono ?_;rintro e wC ⟨rfl,kC⟩;have KC:Below wa.heap.size wa wC:=KB.trans (kC.mono KB.size))
     |((with_reducible show (if _ then Oper.wp _ _ _ (wC.alloc (.cells #[.string (tp++ByteArray.mk #[58]++tf++ByteArray.mk #[45]++tt)] 9)) _ _ else _));refine yx (wC.alloc (.cells #[.string (tp++ByteArray.mk #[58]++tf++ByteArray.mk #[45]++tt)] 9)) bCs zB8 (.tmp 29) (.tmp 43) 24 zB8 _ 9 i1 (.string ⟨#[]⟩) 1 16 Tryz.underlying24 hi1 hy0 hy1 hy2 zB8 one_pos uq aeF (.slice A1 r.length c1) r.length (r.flatMap bCs) zB8 ((own_below ROWA.o KC (zD _)).alloc _) _ (some ⟨wC.heap.size,0,none⟩) 1 [tp++ByteArray.mk #[58]++tf++ByteArray.mk #[45]++tt] zB8 (Rd.zU rfl one_pos uq) u5 u6 (qG (zAB za KC.size) _) ?_;intro v10 w10 o10 g10 h10;have KD:Below w9.heap.size w9 w10:=(ql ((ka9.trans (KC.mono za)).alloc (zAB za KC.size) _) ((own_below ROWA.o KC (zD _)).alloc _) g10 (zD _) (qG (zAB za KC.size) _));have BD:=((BX.below KC hgl).below ((zAA _ _).alloc (zD _) _) (zAG hgl KC.size)).grown g10 HNE;have HKD:w10.cell? ⟨gx,0,none⟩=some (.int .i64 x.p)/\w10.cell? ⟨gx,1,none⟩=some (.int .i64 x.f)/\w10.cell? ⟨gx,2,none⟩=some (.int .i64 x.t):=⟨BD.cell 0,BD.cell 1,BD.cell 2⟩;obtain ⟨A10,c10,hv10,o10⟩:=qI o10 one_pos;rw [hv10];clear hv10)
     |fail "no arm")
   all_goals
    have hq:r++[tp++ByteArray.mk #[58]++tf++ByteArray.mk #[45]++tt]=(l.take (k+1)).map stB:=by
     have h0:=HT0.o
     rw [show tp++ByteArray.mk #[58]++tf++ByteArray.mk #[45]++tt=stB x from h0,HRR.o,HX.o,zAN hlt,List.map_append]
     rfl
    have hlen:r.length+1=((l.take (k+1)).map stB).length:=zC2
    have HLN:=zL hlen
    rw [hq] at o10 ⊢
    have HO:=zL o10
    have HK:=zL KD
    clear hlen hq o10 KD HKD BD g10 h10 kA kB kC KA KB KC y0 y1 y2
    go_wp2_with fail
    go_roundw
    case rel=>exact ⟨k+1,A10,c10,hlt,λh9=>by omega,by first |rfl|rw [<-HLN.o],by go_num,HO.o,HK.o⟩
    case measure=>simp [intOf];omega
  ·obtain rfl:k=l.length:=by omega
   rw [List.take_length] at ROW ⊢
   have r1:=@Lib.run_eql_slice_nil Tryz.prog
   have HWB:=zL hbw
   have HE9:=zL e9
   clear hbw e9
   by_cases hl0:l=[]
   ·have HR:=zM (abR s=(((scE s).1,noT),s)) (by unfold abR scL runT;rw [<-HLE.o,zp hl0])
    obtain rfl:=hk0 (by rw [hl0];rfl)
    rw [show (l.map stB).length=0 by rw [hl0];rfl]
    clear hl0 hk0
    go_wp2_with fail
    go_ret2
    rw [HR.o]
    exact ⟨_,_,_,rfl,(HE9.o.below HWB.o).more HWB.o.size,λh9=>rfl,HM.o.but (KK.o.trans (HWB.o.mono z9)),But.of_below (KK.o.trans (HWB.o.mono z9))⟩
   ·have HR:=zM (abR s=(((scE s).1,⟨(Lib.join (l.map vZ) [32]).toArray⟩),s)) (by unfold abR scL runT;rw [<-HLE.o,z6 hl0])
    obtain ⟨gs,cap,hv,hgb,hgs⟩:=ROW.o.form (by rw [List.length_map];exact List.length_pos_iff.2 hl0)
    obtain rfl:A1=some ⟨gs,0,none⟩:=by injection hv
    have hcl:(l.map stB).length<=c1:=by
     obtain ⟨-,⟨h1,-⟩|⟨g,cap,cur,hv,-,-,hn,-⟩⟩:=ROW.o
     ·cases h1
     ·injection hv with h1 h2 h3;omega
    have hrs:=Rd.qA ROW.o one_pos uq
    have hce:∀(j:Nat) x,(l.map stB)[j]?=some x->wr.cell? ⟨gs,0+j,none⟩=some (.string x):=λj x hx=>by
     obtain ⟨hj,rfl⟩:=zAj.1 hx
     obtain ⟨b9,o9,e9,-,h9⟩:=RdB.get hrs hj
     simp only [zAC,zAS,and_true] at e9
     obtain ⟨rfl,rfl⟩:=e9
     exact h9
    have hmm:(l.map stB).map (·.data.toList)=l.map vZ:=by rw [List.map_map];exact List.map_congr_left λx hx=>by simp [stB]
    have HJ:=Tryz.strings_Join gs 0 c1 (l.map stB) ⟨#[32]⟩ wr hce hgs (by rw [List.length_map];omega) hcl (by rw [hmm];exact atK HLX.o hl3)
    rw [hmm] at HJ
    obtain ⟨r,hr⟩:∃r,r=l.map stB:=⟨_,rfl⟩
    rw [<-hr] at HJ hv hcl ⊢
    have HJJ:=zL HJ
    clear hl0 hk0 HJ hmm hce hrs hv hr hcl
    go_wp2_with fail
    refine HJJ.o.mono ?_
    rintro e w5 ⟨rfl,k5⟩
    clear HJJ
    go_wp2_with fail
    go_ret2
    rw [HR.o]
    have k5':=KK.o.trans ((HWB.o.trans (k5.mono HWB.o.size)).mono z9)
    exact ⟨_,_,_,rfl,(HE9.o.below (HWB.o.trans (k5.mono HWB.o.size))).more (HWB.o.trans (k5.mono HWB.o.size)).size,λh9=>rfl,HM.o.but k5',But.of_below k5'⟩
end
theorem av7 (l:List Int) (a b:Int):vW l (max a b)=max a (vW l b):=by
 induction l generalizing b with
 |nil=>rfl
 |cons x r ih=>
  show vW r (if max a b<x then x else max a b)=max a (vW r (if b<x then x else b))
  rw [<-ih]
  congr 1
  by_cases h1:max a b<x
  ·rw [zp h1,zp zO];omega
  ·rw [z6 h1];split<;>omega
theorem abC (l:List Int) (a:Int):l.foldl max a=vW l a:=by
 induction l generalizing a with
 |nil=>rfl
 |cons x r ih=>
  show r.foldl max (max a x)=vW r (if a<x then x else a)
  rw [ih]
  congr 1
  split<;>omega
theorem aoY (d:List Int):Lib.maxOf (d++[0])=vW d 0:=by
 unfold Lib.maxOf
 rw [abC]
 cases d with
 |nil=>rfl
 |cons x r=>
  show vW (x::(r++[0])) x=vW (x::r) 0
  rw [show x::(r++[0])=(x::r)++[0] from rfl,<-abC,List.foldl_append,abC]
  rw [abC,show vW [0] (vW (x::r) x)=max 0 (vW (x::r) x) by show (if vW (x::r) x<0 then (0:Int) else vW (x::r) x)=_;split<;>omega,<-av7]
  show vW r (if max 0 x<x then x else max 0 x)=vW r (if 0<x then x else 0)
  congr 1
  split<;>split<;>omega
theorem aqS (l:List Int) (a M:Int) (h:∀x∈l,x<=M) (ha:a<=M):a<=vW l a/\vW l a<=M:=by
 induction l generalizing a with
 |nil=>exact ⟨zAV _,ha⟩
 |cons x r ih=>
  have hx:=h x zAD
  obtain ⟨h1,h2⟩:=ih (if a<x then x else a) (λy hy=>h y (zAJ _ hy)) zCB
  refine ⟨?_,h2⟩
  show a<=vW r (if a<x then x else a)
  have:a<=(if a<x then x else a):=zCB
  omega
section
variable (F:Nat->Prop) (pb:Nat) (s:Sc) (S:Nat->Addr) (w:World) (B:Nat) (hpB:B<=pb) (hB:B<=w.heap.size) (hS:SX w B S) (hm:jD F w pb s) (hF:∀b,F b->b<w.heap.size) (hok:s.ok)
include hpB hB hS hm hF hok
set_option maxHeartbeats 4000000 in
theorem arK:Calls Tryz.prog 72 #[.pointer (some ⟨pb,0,none⟩)] w (aeK F pb S (aaM s) w):=by
 obtain ⟨h8,hll⟩:=hok.ll
 have hm':=hm
 obtain ⟨Ac,cc,An,cn,Ap,cp,h1,h2,h3,h4,h5,h6,h7⟩:=hm'
 have c0:=h1.cell 0
 have c1:=h1.cell 1
 have c2:=h1.cell 2
 have c3:=h1.cell 3
 have c4:=h1.cell 4
 simp only [zc,zE,zj] at c0 c1 c2 c3 c4
 have hpbl:=h1.lt
 have hpl:=hok.pl
 have hnl:s.ns.length<=9223372036854775807:=by have:=hok.ns;omega
 have HRN:=zL (λW (hb:Below w.heap.size w W)=>amK Ac An Ap cc cn cp s.cs s.K s.per s.ns s.p S W w.heap.size hb.size (abF.below h3.ll hb) (Rd.below h4 hb) (Rd.below h6 hb) ((hS.gs.below (hb.mono hB)).more hB) hll hnl zO)
 have Hkeep:=zM (∀W:World,Below w.heap.size w W->W.cell? ⟨pb,0,none⟩=some (.slice Ac s.cs.length cc)/\W.cell? ⟨pb,1,none⟩=some (.string s.K)/\W.cell? ⟨pb,2,none⟩=some (.int .i64 s.per)/\W.cell? ⟨pb,3,none⟩=some (.slice An s.ns.length cn)/\W.cell? ⟨pb,4,none⟩=some (.slice Ap s.p.length cp)) (λW hW=>⟨(hW.cell (p:=⟨pb,0,none⟩) hpbl).trans c0,(hW.cell (p:=⟨pb,1,none⟩) hpbl).trans c1,(hW.cell (p:=⟨pb,2,none⟩) hpbl).trans c2,(hW.cell (p:=⟨pb,3,none⟩) hpbl).trans c3,(hW.cell (p:=⟨pb,4,none⟩) hpbl).trans c4⟩)
 have HM:=zL hm
 have _hp:=hpB
 clear _hp
 have HF:=zL hF
 clear hF
 have hok':=hok
 clear h1 h2 h3 h4 h5 h6 h7 hm hok hll hnl h8
 obtain ⟨i1,hi1,hy0,hy1,hy2⟩:=info_parts wO
 go_enter Tryz.func72,Tryz.ntmps72
 go_wp2_with fail
 go_region_held3 (λw'=>w'.cell? ⟨pb,0,none⟩=some (.slice Ac s.cs.length cc)/\w'.cell? ⟨pb,1,none⟩=some (.string s.K)/\w'.cell? ⟨pb,2,none⟩=some (.int .i64 s.per)/\w'.cell? ⟨pb,3,none⟩=some (.slice An s.ns.length cn)/\w'.cell? ⟨pb,4,none⟩=some (.slice Ap s.p.length cp))
  (first
   |go_keep
   |exact Hkeep.o _ K9)
  (first
   |(go_at_call 99;refine (HRN.o w.drew ((zAA _ _).drew)).mono ?_;rintro e w9 ⟨A8,c8,A9,c9,v9,rfl,o8,o9,e9,k9⟩;have K9:Below w.heap.size w w9:=((zAA _ _).drew).trans k9)
   |fail "no arm")
 clear c0 c1 c2 c3 c4
 by_cases hr:(scE s).1=0
 ·obtain ⟨hql,hlk,hqe⟩:=ag2 hr
  obtain rfl:=e9.qK hr
  have HR:=zM (aaM s=((0,aeO s),s)) (by unfold aaM;rw [hr])
  obtain ⟨q,hq⟩:∃q,q=uR s.cs (qg s.K) s.per s.ns s.p:=⟨_,rfl⟩
  obtain ⟨l,hl⟩:∃l,l=uS s.cs (qg s.K) s.per s.ns s.p:=⟨_,rfl⟩
  rw [<-hq] at o8 hql hlk hqe ⊢
  rw [<-hl] at o9 hlk ⊢
  have hll:=hlk.len
  have hl301:l.length<=301:=zO
  have hB5:∀x∈delL q l,i64 x:=λy hy=>by
   obtain ⟨x,hx,rfl⟩:=zAT.1 hy
   have a:=hlk.each x hx
   have b:=hlk.tame' x hx
   have c:=xC hqe q[x.p.toNat] (zd a.2.1)
   have d:=c.2.2.2.2.1
   have e:=c.2.2.2.2.2
   rw [<-zy a.2.1] at d e
   unfold wQ at b
   unfold i64
   exact ⟨by omega,by omega⟩
  have hde:uo q.length l 0=-1:=akU (λx hx=>⟨(hlk.each x hx).1,(hlk.each x hx).2.1⟩) 0
  have HWT:=zM (aeO s=itT (vW (delL q l) 0)) (by unfold aeO scQ scL;rw [hq,hl])
  have HDL:=zL (apQ A8 A9 c8 c9 q l S w9 w9.heap.size (zD _) (RdP.qA o8) (RdS.qA o9) (((hS.gs.s.below (K9.mono hB)).more (zAB hB K9.size)).sub zA1) zO zO hlk.tame' (λx hx=>by have:=xC hqe x hx;have:=this.2.2.2.2;unfold wQ;omega))
  rw [show ak2 q l=delL q l from zp hde,show (ac4 q.length l).1=0 by unfold ac4;rw [zp hde]] at HDL
  have KK:=zL K9
  have z9:=K9.size
  clear o8 o9 k9 K9 e9 hq hl hql hlk hqe hll hde hr
  go_wp2_with fail
  refine HDL.o.mono ?_
  rintro e w5 ⟨A5,c5,v5,rfl,o5,e5,k5⟩
  obtain rfl:=e5.qK rfl
  obtain ⟨D,hD⟩:∃D,D=delL q l:=⟨_,rfl⟩
  rw [<-hD] at o5 ⊢
  have HDD:=zL hD
  have HB5:=zL hB5
  rw [<-hD] at HB5
  have O5:=zL o5
  have K5:=zL k5
  have z5:=k5.size
  have hDl:D.length<=301:=by rw [hD];unfold delL;rw [List.length_map];omega
  have M1:=zM (D.length+[(0:Int)].length<=maxLen) zA8
  have M2:=zM ((D.length+[(0:Int)].length)*8<=140737488355328) zBF
  have HNW:=zM (Rd (w5.alloc (.cells #[.int .i64 0] 3)) (w5.heap.size+1) 1 iCs (some ⟨w5.heap.size,0,none⟩) [0]) (Rd.zU rfl zO yJ)
  clear o5 k5 e5 hD HDL hB5
  go_wp2_with (at_builtin;refine qd _ iCs rfl (.tmp 30) (.tmp 31) 27 rfl w9.heap.size 3 i1 (.int .i64 0) 1 8 Tryz.underlying27 hi1 hy0 hy1 hy2 rfl zO yJ acF (.slice A5 D.length c5) D.length (D.flatMap iCs) rfl (O5.o.alloc _) (w5.heap.size+1) (some ⟨w5.heap.size,0,none⟩) 1 [0] rfl HNW.o M1.o M2.o (qG z5 _) ?_;intro v4 w4 row4 g4 at4;obtain ⟨A6,c6,hv6,row5⟩:=qI row4 zO;subst hv6;have ROW4:=zL row5;have k4:=ql (K5.o.alloc z5 _) (O5.o.alloc _) g4 (zD _) (qG z5 _);clear row4 row5 at4)
  have hrs:=Rd.qA ROW4.o zO yJ
  have hne:0<(D++[0]).length:=zA1
  obtain ⟨b6,o6,rfl,-,-⟩:=hrs hne
  have hce:∀j,j<(D++[0]).length->w4.cell? ⟨b6,o6+j,none⟩=some (.int .i64 ((D++[0]).getD j 0)):=λj hj=>by
   obtain ⟨b9,o9,e9,-,h9⟩:=RdI.get hrs hj
   simp only [zAC,zAS,and_true] at e9
   obtain ⟨rfl,rfl⟩:=e9
   rw [h9,List.getD,zAR hj]
   rfl
  have hdl1:(D++[0]).length=D.length+1:=zA1
  have HMX:=Tryz.slices_Max_int b6 o6 (D.length+1) c6 (D++[0]) w4 zO zO zO hce
  rw [zAZ zO,aoY] at HMX
  have HMM:=zL HMX
  obtain ⟨m0,m1⟩:=aqS D 0 9223372036854775807 (λx hx=>(HB5.o x hx).2) zO
  have H4:=zL (KK.o.trans (k4.mono z9))
  clear hrs hce hdl1 HMX hne k4 g4
  refine HMM.o.mono ?_
  rintro e w6 ⟨rfl,rfl⟩
  clear HMM
  go_wp2_with fail
  refine (Tryz.strconv_Itoa (vW D 0) zO zO _ (hS.below (H4.o.mono hB)).tab).mono ?_
  rintro e w2 ⟨rfl,k2,os,rfl⟩
  go_wp2_with fail
  go_ret2
  rw [HR.o]
  have KS:=H4.o.trans ((jA w6 k2 os).mono H4.o.size)
  exact ⟨_,_,_,rfl,.nil,λh9=>by rw [HWT.o,<-HDD.o];rfl,HM.o.but KS,But.of_below KS⟩
 ·have HR:=zM (aaM s=(((scE s).1,aeO s),s)) rfl
  have HE:=zL e9
  obtain ⟨T,ad,rfl⟩:=e9.qW hr
  have KK:=zL K9
  have HHR:=zL hr
  clear o8 o9 k9 K9 e9 hr
  go_wp2_with fail
  go_ret2
  rw [HR.o]
  exact ⟨_,_,_,rfl,HE.o,λh9=>zAv h9 HHR.o,HM.o.but KK.o,But.of_below KK.o⟩
end
abbrev Sl:=Option Addr × Nat × Nat
def sCs (x:Sl):List Value:=[.slice x.1 x.2.1 x.2.2]
theorem ayW (x:Sl):(sCs x).length=1:=rfl
theorem ayU (x:Sl):∀u∈sCs x,u.oneCell'=true:=by simp [sCs,Value.oneCell']
theorem ao9:(Tryz.prog.info? 57).map (λi=>(i.zero,i.size,i.bytes))=some (some (.slice none 0 0),1,24):=zK
theorem ak6.list {F:Nat->Prop} {w:World} {pb:Nat} {A:Option Addr} {cs:List (List Ln)} (h:ak6 F w pb A cs):∃L:List Sl,L.length=cs.length/\Rd w w.heap.size 1 sCs A L/\∀i (h1:i<L.length) (h2:i<cs.length),L[i].2.1=cs[i].length/\RdL w w.heap.size L[i].1 cs[i]/\(0<cs[i].length->ul F pb L[i].1):=by
 have key:∀n,n<=cs.length->∃L:List Sl,L.length=n/\∀i (h1:i<L.length) (h2:i<cs.length),L[i].2.1=cs[i].length/\RdL w w.heap.size L[i].1 cs[i]/\(0<cs[i].length->ul F pb L[i].1)/\∃b o,A=some ⟨b,o,none⟩/\b<w.heap.size/\w.cell? ⟨b,o+i,none⟩=some (.slice L[i].1 L[i].2.1 L[i].2.2):=by
  intro n
  induction n with
  |zero=>exact λ_=>⟨[],rfl,λi h1=>by simp at h1⟩
  |succ n ih=>
   intro hn
   obtain ⟨L,hL,hf⟩:=ih zO
   obtain ⟨b,o,a,c,e,h1,h2,h3,h4⟩:=h.2 n zO
   refine ⟨L++[(a,cs[n].length,c)],by simp [hL],λi g1 g2=>?_⟩
   by_cases hi:i<L.length
   ·rw [List.getElem_append_left hi]
    exact hf i hi g2
   ·have hi2:i=n:=by simp at g1;omega
    subst hi2
    rw [List.getElem_append_right zO]
    simp only [hL,Nat.sub_self,List.getElem_cons_zero]
    exact ⟨trivial,h3,h4,b,o,e,h1,h2⟩
 obtain ⟨L,hL,hf⟩:=key cs.length (zD _)
 refine ⟨L,hL,λh0=>?_,λi h1 h2=>⟨(hf i h1 h2).1,(hf i h1 h2).2.1,(hf i h1 h2).2.2.1⟩⟩
 obtain ⟨-,-,-,b,o,e,hb,-⟩:=hf 0 h0 zO
 refine ⟨b,o,e,hb,λi x hx j v hv=>?_⟩
 obtain ⟨hi,rfl⟩:=zAj.1 hx
 obtain ⟨-,-,-,b',o',e',-,hc⟩:=hf i hi zO
 rw [e] at e'
 simp only [zAC,zAS,and_true] at e'
 obtain ⟨rfl,rfl⟩:=e'
 cases j with
 |zero=>
  simp only [sCs,zE,zAC] at hv
  rw [<-hv]
  simpa using hc
 |succ j=>simp [sCs] at hv
set_option maxHeartbeats 4000000 in
theorem af7 (ad:Addr) (c:Nat) (l:List Sl) (w:World) (B:Nat) (hB:B<=w.heap.size) (h:Rd w B 1 sCs (some ad) l) (hl:l.length<=4294967296):
 Calls Tryz.prog 95 #[.slice (some ad) l.length c] w (vI sCs 1 57 l w):=by
 obtain ⟨i0,hi0,hz0,hz1,hz2⟩:=info_parts ao9
 have r1:=@Lib.run_eql_slice_nil Tryz.prog
 have hown:(w.alloc (.cells #[] 57)).ownsRow w.heap.size 57 1 (.slice (some ⟨w.heap.size,0,none⟩) 0 0) 0 []:=World.ownsRow_made w #[] 0 (zD _) (zAK _) rfl
 have kb:Below w.heap.size w (w.alloc (.cells #[] 57)):=(zAA _ _).alloc (zD _) _
 go_enter Tryz.func95,Tryz.ntmps95
 go_wp2_with (at_builtin;refine qd _ sCs rfl (.tmp 5) (.tmp 6) 43 rfl w.heap.size 57 i0 _ 1 24 Tryz.underlying43 hi0 hz0 hz1 hz2 rfl zO ayW ayU (.slice (some ⟨w.heap.size,0,none⟩) 0 0) 0 [] rfl hown B (some ad) c l rfl (h.below (kb.mono hB)) zA2 zO (qG (zD _) _) ?_;intro v1 w1 hown1 hg1 hat1;simp only [Nat.zero_add,zAa] at hown1;obtain ⟨A1,c1,rfl⟩:=yl hown1 zO)
 go_ret
 exact ⟨A1,c1,rfl,hown1,ql kb hown hg1 (zD _) (qG (zD _) _)⟩
theorem acX:∀m:List Int,(pairsL m).length=m.length / 2
 |[]=>rfl
 |[_]=>by simp [pairsL]
 |_::_::t=>by
  show (pairsL t).length+1=_
  rw [acX t]
  simp only [zAL]
  omega
theorem acY:∀(m:List Int) (k:Nat) (h:k<(pairsL m).length),(pairsL m)[k]=⟨m.getD (2*k) 0,m.getD (2*k+1) 0⟩
 |[],k,h=>by simp [pairsL] at h
 |[_],k,h=>by simp [pairsL] at h
 |b::r::t,0,h=>rfl
 |b::r::t,k+1,h=>by
  have h2:k<(pairsL t).length:=by simp only [pairsL,zAL] at h;omega
  show (pairsL t)[k]=_
  rw [acY t k h2,show 2*(k+1)=2*k+1+1 by omega]
  rfl
theorem ayV (L:List Sl):L.flatMap sCs=L.map λx=>.slice x.1 x.2.1 x.2.2:=by
 induction L with
 |nil=>rfl
 |cons x r ih=>rw [List.flatMap_cons,ih];rfl
theorem aj2 {F:Nat->Prop} {w wr w6:World} {pb g6 c6 ky cP cc cn cp:Nat} {s:Sc} {AP An Ap A0:Option Addr} {P:List Ln} {Ls:List Sl} {cur:Array Value}
 (KW:Below w.heap.size w wr) (k6:Below wr.heap.size wr w6) (x6:Blk w6 pb 68 #[.slice A0 s.cs.length cc,.string s.K,.int .i64 s.per,.slice An s.ns.length cn,.slice Ap s.p.length cp])
 (m4:RdI wr wr.heap.size An s.ns) (m5:0<s.ns.length->ul F pb An) (m6:RdP wr wr.heap.size Ap s.p) (m7:0<s.p.length->ul F pb Ap) (XG:Blk w6 g6 57 cur) (hpb:pb<wr.heap.size) (hg:wr.heap.size<=g6) (hsz:8<=cur.size)
 (htk:cur.toList.take 8=Ls.flatMap sCs) (h8:s.cs.length=8) (hL8:Ls.length=8) (hc:8<=c6)
 (hLf:∀i (h1:i<Ls.length) (h2:i<s.cs.length),Ls[i].2.1=s.cs[i].length/\RdL wr wr.heap.size Ls[i].1 s.cs[i]/\(0<s.cs[i].length->ul F pb Ls[i].1)) (hP:RdL wr wr.heap.size AP P) (hPn:0<P.length->ul F pb AP) (hk:ky<8) (hF6:∀b,F b->b<wr.heap.size):
 jD F ((w6.setCell ⟨pb,0,none⟩ (.slice (some ⟨g6,0,none⟩) 8 c6)).setCell ⟨g6,ky,none⟩ (.slice AP P.length cP)).drew pb {s with cs:=s.cs.set ky P}/\But pb w ((w6.setCell ⟨pb,0,none⟩ (.slice (some ⟨g6,0,none⟩) 8 c6)).setCell ⟨g6,ky,none⟩ (.slice AP P.length cP)).drew:=by
 obtain ⟨W8,hW8⟩:∃W8,W8=((w6.setCell ⟨pb,0,none⟩ (.slice (some ⟨g6,0,none⟩) 8 c6)).setCell ⟨g6,ky,none⟩ (.slice AP P.length cP)).drew:=⟨_,rfl⟩
 rw [<-hW8]
 have b1:But pb wr (w6.setCell ⟨pb,0,none⟩ (.slice (some ⟨g6,0,none⟩) 8 c6)):=(But.of_below (g:=pb) k6).qi 0 _
 have b2:But pb wr W8:=by
  rw [hW8]
  exact ⟨b1.os,b1.tape,b1.output,by have:=b1.size;show wr.heap.size<=(World.setCell _ _ _).heap.size;rw [zf];exact this,λk hk hne=>(show ((w6.setCell ⟨pb,0,none⟩ (.slice (some ⟨g6,0,none⟩) 8 c6)).setCell ⟨g6,ky,none⟩ (.slice AP P.length cP)).heap[k]?=_ from zAF _ ⟨g6,ky,none⟩ _ k (show k≠g6 by omega)).trans (b1.blk k hk hne)⟩
 have xp:Blk W8 pb 68 #[.slice (some ⟨g6,0,none⟩) 8 c6,.string s.K,.int .i64 s.per,.slice An s.ns.length cn,.slice Ap s.p.length cp]:=by
  rw [hW8]
  exact (x6.qi 0 _).far (p:=⟨g6,ky,none⟩) (show pb≠g6 by omega) _
 have xg:Blk W8 g6 57 (cur.setIfInBounds ky (.slice AP P.length cP)):=by
  rw [hW8]
  exact (XG.far (p:=⟨pb,0,none⟩) (show g6≠pb by omega) _).qi ky _
 refine ⟨⟨some ⟨g6,0,none⟩,c6,An,cn,Ap,cp,?_,?_,⟨?_,?_⟩,Rd.but m4 b2 m5,m5,Rd.but m6 b2 m7,m7⟩,(But.of_below KW).trans b2⟩
 ·show Blk W8 pb _ #[.slice _ (s.cs.set ky P).length c6,_,_,_,_]
  rw [List.length_set,h8]
  exact xp
 ·show (s.cs.set ky P).length<=c6
  rw [List.length_set];omega
 ·intro b o h
  simp only [zAC,zAS] at h
  exact ⟨by omega,λh9=>by have:=hF6 b h9;omega⟩
 ·intro i hi
  have hi8:i<8:=by have:=hi;simp only [List.length_set] at this;omega
  have hcell:W8.cell? ⟨g6,0+i,none⟩=(cur.setIfInBounds ky (.slice AP P.length cP))[i]?:=by rw [Nat.zero_add];exact xg.cell i
  have hgl:g6<W8.heap.size:=xg.lt
  by_cases he:i=ky
  ·subst he
   refine ⟨g6,0,AP,cP,rfl,hgl,?_,?_,λh9=>hPn (by simpa only [List.getElem_set_self] using h9)⟩
   ·rw [hcell]
    simp [show i<cur.size by omega]
   ·simp only [List.getElem_set_self]
    exact Rd.but hP b2 hPn
  ·obtain ⟨f1,f2,f3⟩:=hLf i zO zO
   refine ⟨g6,0,Ls[i].1,Ls[i].2.2,rfl,hgl,?_,?_,λh9=>f3 (by simpa only [List.getElem_set_ne (Ne.symm he)] using h9)⟩
   ·rw [hcell,Array.getElem?_setIfInBounds_ne (Ne.symm he),<-Array.getElem?_toList,<-List.getElem?_take_of_lt hi8,htk,ayV,List.getElem?_map,zAR zO]
    simp only [Option.map_some,List.getElem_set_ne (Ne.symm he),<-f1]
   ·simp only [List.getElem_set_ne (Ne.symm he)]
    exact Rd.but f2 b2 f3
section
variable (F:Nat->Prop) (pb:Nat) (s:Sc) (S:Nat->Addr) (w:World) (B:Nat) (hpB:B<=pb) (hB:B<=w.heap.size) (hS:SX w B S) (hm:jD F w pb s) (hF:∀b,F b->b<w.heap.size) (hok:s.ok)
include hpB hB hS hm hF hok
set_option maxHeartbeats 8000000 in
theorem auJ (A':Option Addr) (c':Nat) (n:List Int) (hn1:0<n.length) (hn8:n.length<=1000000) (hn0:0<=n.getD 0 0) (hr:RdI w w.heap.size A' n) (hnb:ul F pb A'):
 Calls Tryz.prog 68 #[.pointer (some ⟨pb,0,none⟩),.slice A' n.length c'] w (aeK F pb S (curveS s n) w):=by
 obtain ⟨h8,hll⟩:=hok.ll
 have HM:=zL hm
 have _hp:=hpB
 clear _hp
 have HF:=zL hF
 clear hF
 obtain ⟨b,o,rfl,hb,e0⟩:=RdI.get hr (i:=0) zO
 simp only [Nat.add_zero] at e0
 obtain ⟨y,hy⟩:∃y,y=n.getD 0 0:=⟨_,rfl⟩
 have g0:n[0]=y:=by rw [hy];simp [List.getD,hn1]
 rw [g0] at e0
 have y0:0<=y:=by rw [hy];exact hn0
 obtain ⟨L,hL⟩:∃L,L=n.length:=⟨_,rfl⟩
 obtain ⟨P,hP⟩:∃P,P=pairsL (n.drop 1):=⟨_,rfl⟩
 have HPS:=zM (curveS s n=if L % 2=0\/8<=y then ((1,okT),s) else if P≠[]/\(qh P).1≠0 then (((qh P).1,okT),s) else ((0,okT),{s with cs:=s.cs.set y.toNat P})) (by unfold curveS;rw [<-hy,<-hL,<-hP])
 by_cases hbad:L % 2=0\/8<=y
 ·have HR:=zM (curveS s n=((1,okT),s)) (by rw [HPS.o,zp hbad])
  have s1:=(hS.s1 1 zA1).2.2
  simp only [G,sv] at s1
  rw [<-hL]
  have L0:(0:Int)<(L:Int):=zO
  have HLL:=zL hL
  clear hy hP hL g0 HPS hr hm hok hll h8
  by_cases he:L % 2=0
  ·have t1:((L:Int) % 2==0)=true:=by simp;omega
   clear he hbad
   go_enter Tryz.func68,Tryz.ntmps68
   exact zDy
  ·have t1:((L:Int) % 2==0)=false:=by simp;omega
   have hy8:8<=y:=zO
   clear he hbad
   go_enter Tryz.func68,Tryz.ntmps68
   exact zDy
 ·obtain ⟨ky,rfl⟩:=Int.eq_ofNat_of_zero_le y0
  have hLo:L % 2=1:=zO
  have hk8:ky<8:=zO
  have HR:=zM (curveS s n=if P≠[]/\(qh P).1≠0 then (((qh P).1,okT),s) else ((0,okT),{s with cs:=s.cs.set ky P})) (by rw [HPS.o,z6 hbad,zAX])
  have t1:((L:Int) % 2==0)=false:=zA7
  have hy8:¬8<=(ky:Int):=zO
  have L0:(0:Int)<(L:Int):=zO
  have hPl:P.length=(L - 1) / 2:=by rw [hP,acX,List.length_drop,hL]
  have hPg:∀k (h:k<P.length),∃(h1:2*k+1<n.length) (h2:2*k+2<n.length),P[k]=⟨n[2*k+1],n[2*k+2]⟩:=λk h=>by
   exact zEO
  have HPG:=zL hPg
  have HPL:=zL hPl
  have HLO:=zL hLo
  have HLL:=zL hL
  have HRN:=zL hr
  rw [<-hL]
  clear hbad hy hP hL g0 HPS hr hm hok hPg hPl hLo
  go_enter Tryz.func68,Tryz.ntmps68
  go_wp2_with fail
  go_loopw [6,7] (λov iv wr=>∃(k:Nat) (A1:Option Addr) (c1:Nat),k<=P.length/\(k=0->A1=none)/\ov=.slice A1 (P.take k).length c1/\iv=.int .i64 ((2*k+1:Nat):Int)/\wr.ownsRow w.heap.size 75 2 (.slice A1 (P.take k).length c1) (P.take k).length ((P.take k).flatMap Ln.cs)/\Below w.heap.size w wr) (λ_ iv _=>L - (intOf iv).toNat)
  case atStart=>exact ⟨0,none,0,zAK _,λ_=>rfl,rfl,rfl,⟨by simp,.inl ⟨rfl,rfl⟩⟩,zAA _ _⟩
  case round=>
   obtain ⟨k,A1,c1,hk,hk0,rfl,rfl,row,hbw⟩:=hrel
   have ROW:=zL row
   have zw:=hbw.size
   have hpl9:=HPL.o
   have hlo9:=HLO.o
   clear row
   by_cases hlt:k<P.length
   ·obtain ⟨h1,h2,hpk⟩:=HPG.o k hlt
    obtain ⟨b9,o9,hA1,-,e1⟩:=RdI.get HRN.o h1
    simp only [zAC,zAS,and_true] at hA1
    obtain ⟨rfl,rfl⟩:=hA1
    obtain ⟨b9,o9,hA1,-,e2⟩:=RdI.get HRN.o h2
    simp only [zAC,zAS,and_true] at hA1
    obtain ⟨rfl,rfl⟩:=hA1
    obtain ⟨x,hx⟩:∃x,x=P[k]:=⟨_,rfl⟩
    rw [hpk] at hx
    rw [show n[2*k+1]=x.b by rw [hx]] at e1
    rw [show n[2*k+2]=x.r by rw [hx]] at e2
    obtain ⟨j,hj⟩:∃j,j=2*k+1:=⟨_,rfl⟩
    rw [show 2*k+2=j+1 by omega] at e2
    rw [<-hj] at e1 ⊢
    have HX:=zL (hx.trans hpk.symm)
    have hjn:j+1<n.length:=zO
    have hjL:j+1<L:=by rw [HLL.o];exact hjn
    have HJ:=zL hj
    have q1:(0:Int)<=(j:Int):=zO
    have q2:(j:Int)<(L:Int):=zO
    have q3:(0:Int)<=((j+1:Nat):Int):=zO
    have q4:((j+1:Nat):Int)<(L:Int):=zO
    have q6:IntKind.i64.wrap ((j:Int)+2)=(j:Int)+2:=zBB
    have q5:IntKind.i64.wrap ((j:Int)+1)=((j+1:Nat):Int):=zBB
    obtain ⟨r,hr⟩:∃r,r=P.take k:=⟨_,rfl⟩
    rw [<-hr] at ROW ⊢
    have HRR:=zL hr
    have hrl:r.length<=1000000:=by rw [hr,zAh];omega
    clear hr hx hpk hj h1 h2 hk0 hpl9 hlo9
    obtain ⟨il,hil,hl0,hl1,hl2⟩:=info_parts aaP
    have HB2:=zL hbw
    have rowd:=own_below (ROW.o.alloc (.cells #[.int .i64 x.b,.int .i64 x.r] 75)) ((zAA _ _).drew) (zD _)
    have RD:=zL rowd
    have hbd:=hbw.drew
    have hba:Below w.heap.size w (World.drew (wr.alloc (.cells #[.int .i64 x.b,.int .i64 x.r] 75))):=(hbw.alloc zw _).drew
    have Hkeep:=zM (∀W:World,Below w.heap.size w W->W.cell? ⟨b,o+j,none⟩=some (.int .i64 x.b)/\W.cell? ⟨b,o+(j+1),none⟩=some (.int .i64 x.r)) (λW hW=>⟨(hW.cell (p:=⟨b,o+j,none⟩) hb).trans e1,(hW.cell (p:=⟨b,o+(j+1),none⟩) hb).trans e2⟩)
    obtain ⟨d1,d2⟩:=Hkeep.o wr hbw
    have two_pos:0<2:=zO
    have u5:r.length+1<=maxLen:=zA2
    have u6:(r.length+1)*16<=140737488355328:=zO
    clear rowd e1 e2
    have q7:IntKind.i64.wrap ((j:Int)+1)=(j:Int)+1:=zBB
    have q8:(0:Int)<=(j:Int)+1:=zO
    have q9:(j:Int)+1<(L:Int):=zO
    go_upto_region 7 with fail
    go_region_held3 (λw'=>w'.cell? ⟨b,o+j,none⟩=some (.int .i64 x.b)/\w'.cell? ⟨b,o+(j+1),none⟩=some (.int .i64 x.r))
     (first
          |go_keep
          |exact Hkeep.o _ hbd
          |exact Hkeep.o _ (hbd.alloc hbd.size _)
          |exact Hkeep.o _ KD)
     (first
      |((with_reducible show (if _ then Oper.wp _ _ _ (World.drew (wr.alloc (.cells #[.int .i64 x.b,.int .i64 x.r] 75))) _ _ else _));refine yx (World.drew (wr.alloc (.cells #[.int .i64 x.b,.int .i64 x.r] 75))) Ln.cs zB8 (.tmp 26) (.tmp 37) 57 zB8 _ 75 il (.agg #[.int .i64 0,.int .i64 0]) 2 16 Tryz.underlying57 hil hl0 hl1 hl2 zB8 two_pos Ln.qw Ln.qV (.slice A1 r.length c1) r.length (r.flatMap Ln.cs) zB8 RD.o _ (some ⟨wr.heap.size,0,none⟩) 1 [x] zB8 ((Rd.zU rfl two_pos Ln.qw).below ((zAA _ _).drew)) u5 u6 hba.size ?_;intro v10 w10 o10 g10 h10;have KD:Below w.heap.size w w10:=ql hba RD.o g10 (zD _) hba.size;obtain ⟨A10,c10,hv10,o10⟩:=qI o10 two_pos;rw [hv10];clear hv10)
      |fail "no arm")
    exact zDn
   ·obtain rfl:k=P.length:=by omega
    rw [List.take_length] at ROW ⊢
    have j0:((2*P.length+1:Nat):Int)=(L:Int):=zO
    rw [j0]
    have HWB:=zL hbw
    have r1:=@Lib.run_eql_slice_nil Tryz.prog
    clear hbw j0
    by_cases hP0:P=[]
    ·obtain rfl:=hk0 (by rw [hP0];rfl)
     have HR2:=zM (curveS s n=((0,okT),{s with cs:=s.cs.set ky P})) (by rw [HR.o,z6 (λh9=>h9.1 hP0)])
     rw [show P.length=0 by rw [hP0];rfl]
     have HP0:=zL hP0
     clear hk0 hP0 hpl9 hlo9
     have KW:=HWB.o
     obtain ⟨Ac,cc,An,cn,Ap,cp,m1,m2,m3,m4,m5,m6,m7⟩:=HM.o.but KW
     obtain ⟨Ls,hLs,hRd,hLf⟩:=m3.list
     obtain ⟨bc,oc,rfl,-,-⟩:=hRd zO
     have c0:=m1.cell 0
     simp only [zc,zE] at c0
     have hLl:Ls.length=8:=zO
     have hcl:=af7 ⟨bc,oc,none⟩ cc Ls wr wr.heap.size (zD _) hRd zO
     rw [hLl] at hcl
     rw [h8] at c0
     have HCL:=zL hcl
     have M1:=zL m1
     have HL8:=zL hLl
     have h80:=zL h8
     clear m1 hcl hLl hLs h8
     go_wp2_with fail
     refine HCL.o.mono ?_
     rintro e w6 ⟨A6,c6,rfl,o6,k6⟩
     have x6:=M1.o.below k6 M1.o.lt
     obtain ⟨-,⟨q1,-⟩|⟨g6,cap,cur,hv,hg6,hh,hnc,hcc,hsz,htk⟩⟩:=o6
     ·exact zAv q1 (by rw [HL8.o];simp)
     ·obtain ⟨rfl,rfl⟩:A6=some ⟨g6,0,none⟩/\c6=cap:=by injection hv with h1 h2 h3;exact ⟨h1,h3⟩
      rw [HL8.o]
      have e6:w6.cell? ⟨b,o,none⟩=some (.int .i64 (ky:Int)):=((KW.trans (k6.mono KW.size)).cell (p:=⟨b,o,none⟩) hb).trans e0
      have hpbl:pb<wr.heap.size:=M1.o.lt
      have hbp:b≠pb:=(hnb b o rfl).1
      have hbg:b≠g6:=by have:=KW.size;omega
      have hgp:g6≠pb:=zO
      have XG:Blk w6 g6 57 cur:=hh
      obtain ⟨W7,hW7⟩:∃W7,W7=w6.setCell ⟨pb,0,none⟩ (.slice (some ⟨g6,0,none⟩) 8 c6):=⟨_,rfl⟩
      have x0:=x6.cell 0
      have z0:=x6.frozen 0
      simp only [zc,zE] at x0
      have HW7:=zL hW7
      have HE6:=zL e6
      have XX:=zL x6
      have XGG:=zL XG
      have HTK:=zL htk
      have HS8:=zM (8<=cur.size) zCN
      have HC8:=zM (8<=c6) zCN
      clear hv hh htk XG hW7 x6 M1 hcc
      go_upto_region 13 with fail
      rw [<-HW7.o]
      clear x0 z0 c0 e6
      have p0:W7.cell? ⟨pb,0,none⟩=some (.slice (some ⟨g6,0,none⟩) 8 c6):=by
       rw [HW7.o,(XX.o.qi 0 _).cell 0];simp
      have n0:W7.cell? ⟨b,o,none⟩=some (.int .i64 (ky:Int)):=zFf
      have XG7:Blk W7 g6 57 cur:=by rw [HW7.o];exact XGG.o.far (p:=⟨pb,0,none⟩) hgp _
      have hky:ky<cur.size:=zCN
      have gk:W7.cell? ⟨g6,ky,none⟩=some cur[ky]:=by rw [XG7.cell ky];simp [hky]
      have zk:=XG7.frozen ky
      have HSP:∀u,(W7.setCell ⟨g6,ky,none⟩ u).drew.cell? ⟨pb,0,none⟩=some (.slice (some ⟨g6,0,none⟩) 8 c6):=λu=>(zAb (a:=⟨pb,0,none⟩) (show (W7.setCell ⟨g6,ky,none⟩ u).drew.heap[pb]?=W7.heap[pb]? from zAF W7 ⟨g6,ky,none⟩ u pb (Ne.symm hgp))).trans p0
      have HSK:∀u,(W7.setCell ⟨g6,ky,none⟩ u).drew.cell? ⟨b,o,none⟩=some (.int .i64 (ky:Int)):=λu=>(zAb (a:=⟨b,o,none⟩) (show (W7.setCell ⟨g6,ky,none⟩ u).drew.heap[b]?=W7.heap[b]? from zAF W7 ⟨g6,ky,none⟩ u b hbg)).trans n0
      have kl:(ky:Int)<8:=zO
      have kz:(0:Int)<=(ky:Int):=zO
      have kLz:(0:Int)<(L:Int):=by have:=HLL.o;omega
      have kLn:0<L:=zO
      go_region_held3 (λw'=>w'.cell? ⟨pb,0,none⟩=some (.slice (some ⟨g6,0,none⟩) 8 c6)/\w'.cell? ⟨b,o,none⟩=some (.int .i64 (ky:Int)))
       (first
        |go_keep
        |exact ⟨HSP _,HSK _⟩
        |fail "keep")
       (fail)
      go_wp2_with fail
      go_ret2
      rw [HR2.o]
      have hl9:=HL8.o
      have htk:=HTK.o
      rw [hl9,Nat.mul_one] at htk
      have hcm:=aj2 (cP:=c1) KW k6 XX.o m4 m5 m6 m7 XGG.o hpbl hg6 HS8.o htk h80.o hl9 HC8.o hLf (show RdL wr wr.heap.size none P by rw [HP0.o];exact Rd.ui) (λ_=>ul.none_ F pb) hk8 (λb h9=>zAG (HF.o b h9) KW.size)
      rw [<-HW7.o,show P.length=0 by rw [HP0.o];rfl] at hcm
      exact ⟨okT,.nilIface,-1,rfl,.nil,λ_=>rfl,hcm.1,hcm.2⟩
    ·obtain ⟨gs,cap,hv,hgb,hgs⟩:=ROW.o.form (List.length_pos_iff.2 hP0)
     obtain rfl:A1=some ⟨gs,0,none⟩:=by injection hv
     have hrp:RdL wr wr.heap.size (some ⟨gs,0,none⟩) P:=RdL.qA ROW.o
     have hnp:ul F pb (some ⟨gs,0,none⟩):=kJ ROW.o (by obtain ⟨_,_,_,_,_,_,h9,-⟩:=HM.o;exact h9.lt) HF.o
     have HCK:=zL (yw (some ⟨gs,0,none⟩) c1 P S wr wr.heap.size (zD _) hrp (((hS.gs.s.below (HWB.o.mono hB)).more (zAB hB HWB.o.size)).sub zA1) (by have:=HPL.o;have:=HLL.o;omega))
     have HRP0:=zL hrp
     have HNP:=zL hnp
     have HP0:=zL hP0
     clear hv hrp hnp hP0 hk0 hpl9 hlo9
     go_wp2_with fail
     refine HCK.o.mono ?_
     rintro e wk ⟨v9,rfl,hv9,k9⟩
     have HWC:=zL (HWB.o.trans (k9.mono HWB.o.size))
     by_cases hce:(qh P).1=0
     ·obtain rfl:=hv9.qK hce
      have HR2:=zM (curveS s n=((0,okT),{s with cs:=s.cs.set ky P})) (by rw [HR.o,z6 (λh9=>h9.2 hce)])
      have HRP:=zL ((HRP0.o.below k9).more k9.size)
      clear hce HCK hv9
      have KW:=HWC.o
      obtain ⟨Ac,cc,An,cn,Ap,cp,m1,m2,m3,m4,m5,m6,m7⟩:=HM.o.but KW
      obtain ⟨Ls,hLs,hRd,hLf⟩:=m3.list
      obtain ⟨bc,oc,rfl,-,-⟩:=hRd zO
      have c0:=m1.cell 0
      simp only [zc,zE] at c0
      have hLl:Ls.length=8:=zO
      have hcl:=af7 ⟨bc,oc,none⟩ cc Ls wk wk.heap.size (zD _) hRd zO
      rw [hLl] at hcl
      rw [h8] at c0
      have HCL:=zL hcl
      have M1:=zL m1
      have HL8:=zL hLl
      have h80:=zL h8
      clear m1 hcl hLl hLs h8
      go_wp2_with fail
      refine HCL.o.mono ?_
      rintro e w6 ⟨A6,c6,rfl,o6,k6⟩
      have x6:=M1.o.below k6 M1.o.lt
      obtain ⟨-,⟨q1,-⟩|⟨g6,cap,cur,hv,hg6,hh,hnc,hcc,hsz,htk⟩⟩:=o6
      ·exact zAv q1 (by rw [HL8.o];simp)
      ·obtain ⟨rfl,rfl⟩:A6=some ⟨g6,0,none⟩/\c6=cap:=by injection hv with h1 h2 h3;exact ⟨h1,h3⟩
       rw [HL8.o]
       have e6:w6.cell? ⟨b,o,none⟩=some (.int .i64 (ky:Int)):=((KW.trans (k6.mono KW.size)).cell (p:=⟨b,o,none⟩) hb).trans e0
       have hpbl:pb<wk.heap.size:=M1.o.lt
       have hbp:b≠pb:=(hnb b o rfl).1
       have hbg:b≠g6:=by have:=KW.size;omega
       have hgp:g6≠pb:=zO
       have XG:Blk w6 g6 57 cur:=hh
       obtain ⟨W7,hW7⟩:∃W7,W7=w6.setCell ⟨pb,0,none⟩ (.slice (some ⟨g6,0,none⟩) 8 c6):=⟨_,rfl⟩
       have x0:=x6.cell 0
       have z0:=x6.frozen 0
       simp only [zc,zE] at x0
       have HW7:=zL hW7
       have HE6:=zL e6
       have XX:=zL x6
       have XGG:=zL XG
       have HTK:=zL htk
       have HS8:=zM (8<=cur.size) zCN
       have HC8:=zM (8<=c6) zCN
       clear hv hh htk XG hW7 x6 M1 hcc
       go_upto_region 13 with fail
       rw [<-HW7.o]
       clear x0 z0 c0 e6
       have p0:W7.cell? ⟨pb,0,none⟩=some (.slice (some ⟨g6,0,none⟩) 8 c6):=by
        rw [HW7.o,(XX.o.qi 0 _).cell 0];simp
       have n0:W7.cell? ⟨b,o,none⟩=some (.int .i64 (ky:Int)):=zFf
       have XG7:Blk W7 g6 57 cur:=by rw [HW7.o];exact XGG.o.far (p:=⟨pb,0,none⟩) hgp _
       have hky:ky<cur.size:=zCN
       have gk:W7.cell? ⟨g6,ky,none⟩=some cur[ky]:=by rw [XG7.cell ky];simp [hky]
       have zk:=XG7.frozen ky
       have HSP:∀u,(W7.setCell ⟨g6,ky,none⟩ u).drew.cell? ⟨pb,0,none⟩=some (.slice (some ⟨g6,0,none⟩) 8 c6):=λu=>(zAb (a:=⟨pb,0,none⟩) (show (W7.setCell ⟨g6,ky,none⟩ u).drew.heap[pb]?=W7.heap[pb]? from zAF W7 ⟨g6,ky,none⟩ u pb (Ne.symm hgp))).trans p0
       have HSK:∀u,(W7.setCell ⟨g6,ky,none⟩ u).drew.cell? ⟨b,o,none⟩=some (.int .i64 (ky:Int)):=λu=>(zAb (a:=⟨b,o,none⟩) (show (W7.setCell ⟨g6,ky,none⟩ u).drew.heap[b]?=W7.heap[b]? from zAF W7 ⟨g6,ky,none⟩ u b hbg)).trans n0
       have kl:(ky:Int)<8:=zO
       have kz:(0:Int)<=(ky:Int):=zO
       have kLz:(0:Int)<(L:Int):=by have:=HLL.o;omega
       have kLn:0<L:=zO
       go_region_held3 (λw'=>w'.cell? ⟨pb,0,none⟩=some (.slice (some ⟨g6,0,none⟩) 8 c6)/\w'.cell? ⟨b,o,none⟩=some (.int .i64 (ky:Int)))
        (first
             |go_keep
             |exact ⟨HSP _,HSK _⟩
             |fail "keep")
        (fail)
       go_wp2_with fail
       go_ret2
       rw [HR2.o]
       have hl9:=HL8.o
       have htk:=HTK.o
       rw [hl9,Nat.mul_one] at htk
       have hcm:=aj2 (cP:=c1) KW k6 XX.o m4 m5 m6 m7 XGG.o hpbl hg6 HS8.o htk h80.o hl9 HC8.o hLf HRP.o (λ_=>HNP.o) hk8 (λb h9=>zAG (HF.o b h9) KW.size)
       rw [<-HW7.o] at hcm
       exact ⟨okT,.nilIface,-1,rfl,.nil,λ_=>rfl,hcm.1,hcm.2⟩
     ·have HR2:=zM (curveS s n=(((qh P).1,okT),s)) (by rw [HR.o,zp ⟨HP0.o,hce⟩])
      have HV:=zL hv9
      have HCE:=zL hce
      obtain ⟨T,ad,rfl⟩:=hv9.qW hce
      clear hce HCK hv9
      go_wp2_with fail
      go_ret2
      rw [HR2.o]
      exact ⟨_,_,_,rfl,HV.o,λh9=>zAv h9 HCE.o,HM.o.but HWC.o,But.of_below HWC.o⟩
end
end Go.Proofs.YtoomffajodheaaaGreatDoor
