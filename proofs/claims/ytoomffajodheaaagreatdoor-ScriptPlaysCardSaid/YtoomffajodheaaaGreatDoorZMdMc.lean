/- The proof of ScriptPlays, part MdMc. Conditions: in each statement. -/
import Derived.Test.YtoomffajodheaaaGreatDoorZMdMa
set_option linter.all false
namespace Go.Proofs.YtoomffajodheaaaGreatDoor
set_option maxRecDepth 100000
theorem zBL{p:Prop}(h:p:=by first |exact aeE k1|exact ((zAA _ _).drew).trans (aeE k1)|exact ((zAA _ _).drew.drew).trans (aeE k1)):p:=h
theorem zDC{p:Prop}(h:p:=by
 clear hst hsz hk0 hs1 hs2 hs3
 by_cases hmd:m<x.t - ay
 ·have HMX:=zM (vW (delL q (l.take (k+1))) 0=x.t - ay) (by rw [hmx,zp hmd])
  clear hmx
  go_upto_region 46 with fail
  go_region
  all_goals
   go_upto_region 47 with fail
   go_region
   all_goals
        go_upto_region 50 with fail
        go_region_held3 (λw'=>w'.cell? ⟨b,o+k*3,none⟩=some (.int .i64 (kp:Int))/\w'.cell? ⟨b,o+k*3+1,none⟩=some (.int .i64 x.f)/\w'.cell? ⟨b,o+k*3+2,none⟩=some (.int .i64 x.t))
         (first
          |go_keep
          |exact HKX.o _ U3
          |exact HKX.o _ U2
          |exact HKX.o _ U1)
         (first
          |(go_at_call 15;(with_reducible show Calls _ _ _ u2 _);refine (HD3.o u2).mono ?_;rintro e u3 ⟨rfl,k3⟩;have U3:Below wr.heap.size wr u3:=U2.trans (k3.mono U2.size))
          |(go_at_call 15;(with_reducible show Calls _ _ _ u1 _);refine (HD2.o u1).mono ?_;rintro e u2 ⟨rfl,k2⟩;have U2:Below wr.heap.size wr u2:=U1.trans (k2.mono U1.size))
          |(go_at_call 15;refine (HD1.o _).mono ?_;rintro e u1 ⟨rfl,k1⟩;have U1:Below wr.heap.size wr u1:=zBL)
          |fail "no arm")
        all_goals
         go_wp2_with fail
         go_roundw
         case rel=>exact ⟨k+1,by omega,by rw [HMX.o],by rw [HST.o],by go_num,HWR.o.trans (U3.mono zw)⟩
         case measure=>simp [intOf];omega
 ·have HMX:=zM (vW (delL q (l.take (k+1))) 0=m) (by rw [hmx,z6 hmd])
  clear hmx
  go_upto_region 46 with fail
  go_region
  all_goals
   go_upto_region 50 with fail
   go_region_held3 (λw'=>w'.cell? ⟨b,o+k*3,none⟩=some (.int .i64 (kp:Int))/\w'.cell? ⟨b,o+k*3+1,none⟩=some (.int .i64 x.f)/\w'.cell? ⟨b,o+k*3+2,none⟩=some (.int .i64 x.t))
        (first
         |go_keep
         |exact HKX.o _ U3
         |exact HKX.o _ U2
         |exact HKX.o _ U1)
        (first
         |(go_at_call 15;(with_reducible show Calls _ _ _ u2 _);refine (HD3.o u2).mono ?_;rintro e u3 ⟨rfl,k3⟩;have U3:Below wr.heap.size wr u3:=U2.trans (k3.mono U2.size))
         |(go_at_call 15;(with_reducible show Calls _ _ _ u1 _);refine (HD2.o u1).mono ?_;rintro e u2 ⟨rfl,k2⟩;have U2:Below wr.heap.size wr u2:=U1.trans (k2.mono U1.size))
         |(go_at_call 15;refine (HD1.o _).mono ?_;rintro e u1 ⟨rfl,k1⟩;have U1:Below wr.heap.size wr u1:=zBL)
         |fail "no arm")
   all_goals
        go_wp2_with fail
        go_roundw
        case rel=>exact ⟨k+1,by omega,by rw [HMX.o],by rw [HST.o],by go_num,HWR.o.trans (U3.mono zw)⟩
        case measure=>simp [intOf];omega):p:=h
theorem zEK{p:Prop}(h:p:=by
 clear h hmb hm hO hse hl0 hk hlt
 go_wp2_with fail
 go_ret
 exact ⟨by rw [HRr.o.1,HR2.o];rfl,by rw [HRr.o.2];exact HMX.o.below (KW.o.trans (hbw.mono KW.o.size)),Bu2.of_below (K1.o.trans (KE.o.mono K1.o.size))⟩):p:=h
def jB (l:List Sn):ByteArray:=⟨(Lib.join (l.map vZ) [32]).toArray⟩
def aqF (x:Sn) (o:ByteArray):ByteArray:=o++itT x.p++ByteArray.mk #[58]++itT x.f++ByteArray.mk #[45]++itT x.t
theorem atJ {l:List (List UInt8)} (h:l≠[]) (y:List UInt8):Lib.join (l++[y]) [32]=Lib.join l [32]++32::y:=by
 cases l with
 |nil=>exact zAv rfl h
 |cons x r=>
  rw [List.cons_append,Lib.join_cons,Lib.join_cons]
  unfold Lib.joinTail
  simp
theorem aqW (n:Int):(itT n).data.toList=Lib.itoa n:=by unfold itT;simp
theorem a1F (x:Sn):aqF x ⟨#[]⟩=jB [x]:=by
 apply toList_inj
 unfold aqF jB
 rw [List.map_cons,List.map_nil,Lib.join_one]
 simp [vZ,aqW]
theorem azT {l:List Sn} (h:l≠[]) (x:Sn):aqF x (jB l++ByteArray.mk #[32])=jB (l++[x]):=by
 apply toList_inj
 unfold aqF jB
 rw [List.map_append,List.map_cons,List.map_nil,atJ (by simpa using h)]
 simp [vZ,aqW]
theorem akV {n:Int} (h:i64 n):(itT n).size<=21:=Lib.itoa_length_le n h.1 h.2
theorem as7 (l:List Int) (d m:Int):vW (l++[d]) m=if vW l m<d then d else vW l m:=by
 induction l generalizing m with
 |nil=>rfl
 |cons x r ih=>exact ih _
theorem awM {l:List Sn} (h:l≠[]):runT l=jB l:=z6 h
theorem a1G {l:List Sn} (h:∀x∈l,i64 x.p/\i64 x.f/\i64 x.t):(jB l).size<=66*l.length:=by
 have key:(Lib.join (l.map vZ) [32]).length<=66*l.length:=by
  cases l with
  |nil=>simp [Lib.join_nil]
  |cons x r=>
   rw [List.map_cons,Lib.join_length]
   have:=aqT (l:=vZ x::r.map vZ) (k:=65) λy hy=>by
    exact zFU
   simp only [zAL,List.length_map,zAg] at this ⊢
   omega
 have e:(jB l).size=(Lib.join (l.map vZ) [32]).length:=by unfold jB ByteArray.size;simp
 omega
theorem a2S {l:List Sn} (h:l≠[]):jB l≠⟨#[]⟩:=λh9=>by
 have:=ayY l
 rw [awM h,h9] at this
 exact this rfl
open Go.RowKit
theorem Rd.av4 {α:Type} {w:World} {B sz:Nat} {f:α->List Value} {A:Option Addr} {l:List α} {fb:Nat} {T:TypeId} {u v:Value} (h:Rd w B sz f A l) (hf:∀x,(f x).length=3) (hb:Blk w fb T #[u,v]) (hl:0<l.length):aaD (λ_=>False) fb fb A:=λb o e=>by
 have h9:b≠fb:=λe9=>by
  subst e9
  obtain ⟨b',o',e',-,hc⟩:=h hl
  rw [e] at e'
  simp only [zAC,zAS,and_true] at e'
  obtain ⟨rfl,rfl⟩:=e'
  have h2:2<(f l[0]).length:=by rw [hf];omega
  have:=hc 0 l[0] (zAR hl) 2 _ (zAR h2)
  rw [hb.cell,Array.getElem?_eq_none zA1] at this
  cases this
 exact ⟨h9,h9,id⟩
section
variable (F:Nat->Prop) (mb gb:Nat) (s:Sc) (w:World) (hm:MM F w mb gb s) (hF:∀b,F b->b<w.heap.size) (hok:s.ok) (word kind:ByteArray) (A':Option Addr) (c':Nat) (n:List Int) (hr:RdI w w.heap.size A' n)
include hm hF hok hr
set_option maxHeartbeats 16000000 in
theorem a0G (hw:word=xG\/word=qZ) (h1:n.length=0):
 Calls Tryz.prog 9 #[.pointer (some ⟨mb,0,none⟩),.agg #[.string word,.string kind,.slice A' n.length c']] w (afO F mb gb (xx s ⟨word,kind,n⟩) w):=by
 have t0:(word.toList==([99,117,114,118,101]:List UInt8))=false:=by rcases hw with h|h<;>(rw [h];first |exact tl_ne (a:=xG) (b:=qH) zA4|exact tl_ne (a:=qZ) (b:=qH) zA4)
 have t1:(word.toList==([108,105,110,107]:List UInt8))=false:=by rcases hw with h|h<;>(rw [h];first |exact tl_ne (a:=xG) (b:=qY) zA4|exact tl_ne (a:=qZ) (b:=qY) zA4)
 have t2:(word.toList==([110,117,109,98,101,114,115]:List UInt8))=false:=by rcases hw with h|h<;>(rw [h];first |exact tl_ne (a:=xG) (b:=qJ) zA4|exact tl_ne (a:=qZ) (b:=qJ) zA4)
 have t3:(word.toList==([112,97,99,107,101,116]:List UInt8))=false:=by rcases hw with h|h<;>(rw [h];first |exact tl_ne (a:=xG) (b:=qz) zA4|exact tl_ne (a:=qZ) (b:=qz) zA4)
 have t4:(word.toList==([97,116]:List UInt8))=false:=by rcases hw with h|h<;>(rw [h];first |exact tl_ne (a:=xG) (b:=wAt) zA4|exact tl_ne (a:=qZ) (b:=wAt) zA4)
 have t5:(word.toList==([99,108,101,97,114]:List UInt8))=false:=by rcases hw with h|h<;>(rw [h];first |exact tl_ne (a:=xG) (b:=zm) zA4|exact tl_ne (a:=qZ) (b:=zm) zA4)
 have t6:(word.toList==([98,111,117,110,100]:List UInt8))=false:=by rcases hw with h|h<;>(rw [h];first |exact tl_ne (a:=xG) (b:=ze) zA4|exact tl_ne (a:=qZ) (b:=ze) zA4)
 obtain ⟨X,hX⟩:∃X:World,X=w.alloc (.cells #[.string word,.string kind,.slice A' n.length c'] 29):=⟨_,rfl⟩
 obtain ⟨lb,hlb⟩:∃lb,lb=w.heap.size:=⟨_,rfl⟩
 have k1:Below w.heap.size w X:=zBA
 have y1:Blk X lb 29 #[.string word,.string kind,.slice A' n.length c']:=zBZ
 have hlw:w.heap.size<=lb:=zO
 have e0:=y1.cell 0
 have e1:=y1.cell 1
 have e2:=y1.cell 2
 simp only [zc,zE,zj] at e0 e1 e2
 have HMX:=zL (hm.below k1)
 have HRX:=zL ((hr.below k1).more k1.size)
 have HFX:=zL (λb (h9:F b)=>zAG (hF b h9) k1.size)
 have K1:=zL k1
 have Y1:=zL y1
 obtain ⟨h8,hll⟩:=hok.ll
 have hok':=hok
 obtain ⟨An,cn,Ap,cp,x1,x2,x3,x4,x5,x6,x7⟩:=HMX.o
 have c0:=x1.cell 0
 have c1:=x1.cell 1
 have c2:=x1.cell 2
 have c3:=x1.cell 3
 have c4:=x1.cell 4
 simp only [zc,zE,zj] at c0 c1 c2 c3 c4
 have hpbl:=x1.lt
 have hpl:=hok.pl
 have hnl:s.ns.length<=9223372036854775807:=by have:=hok.ns;omega
 have HRN:=zL (λW (hb:Below X.heap.size X W)=>ar8 (some ⟨gb,0,none⟩) An Ap 8 cn cp s.cs s.K s.per s.ns s.p W X.heap.size hb.size (x3.ll.below hb) (Rd.below x4 hb) (Rd.below x6 hb) hll hnl zO)
 rw [h8] at HRN
 have Hkeep:=zM (∀w':World,Below X.heap.size X w'->w'.cell? ⟨mb,0,none⟩=some (.slice (some ⟨gb,0,none⟩) 8 8)/\w'.cell? ⟨mb,1,none⟩=some (.string s.K)/\w'.cell? ⟨mb,2,none⟩=some (.int .i64 s.per)/\w'.cell? ⟨mb,3,none⟩=some (.slice An s.ns.length cn)/\w'.cell? ⟨mb,4,none⟩=some (.slice Ap s.p.length cp)) (λW hW=>⟨(hW.cell (p:=⟨mb,0,none⟩) hpbl).trans c0,(hW.cell (p:=⟨mb,1,none⟩) hpbl).trans c1,(hW.cell (p:=⟨mb,2,none⟩) hpbl).trans c2,(hW.cell (p:=⟨mb,3,none⟩) hpbl).trans c3,(hW.cell (p:=⟨mb,4,none⟩) hpbl).trans c4⟩)
 have HW:=zL hw
 have HN1:=zL h1
 clear hw h1 k1 y1 x1 x2 x3 x4 x5 x6 x7 hll hnl hm hok hr h8 HRX
 go_enter Tryz.func9,Tryz.ntmps9
 go_upto_region 1 with fail
 rw [<-hX,<-hlb]
 clear hX hlb
 obtain ⟨q,hq⟩:∃q,q=uR s.cs (qg s.K) s.per s.ns s.p:=⟨_,rfl⟩
 obtain ⟨l,hl⟩:∃l,l=uS s.cs (qg s.K) s.per s.ns s.p:=⟨_,rfl⟩
 obtain ⟨er,her⟩:∃er,er=zq s.cs (qg s.K) s.per s.ns s.p:=⟨_,rfl⟩
 rw [<-hq,<-hl,<-her] at HRN
 have HQ0:=zL hq
 have HL0:=zL hl
 have HER0:=zL her
 clear hq hl her
 go_upto_region 38 with fail
 go_cut [11,12,13] from 144 to 156 (λs11 s12 s13 wx=>∃(W:World) (A8:Option Addr) (c8:Nat) (A9:Option Addr) (c9 fb:Nat),W=wx/\s11=.slice A8 q.length c8/\s12=.slice A9 l.length c9/\s13=.pointer (some ⟨fb,0,none⟩)/\RdP W W.heap.size A8 q/\RdS W W.heap.size A9 l/\Blk W fb 55 #[.int .i64 (er.1:Int),.int .i64 er.2]/\Below X.heap.size X W)
 case first=>
  go_region_held3 (λw'=>w'.cell? ⟨mb,0,none⟩=some (.slice (some ⟨gb,0,none⟩) 8 8)/\w'.cell? ⟨mb,1,none⟩=some (.string s.K)/\w'.cell? ⟨mb,2,none⟩=some (.int .i64 s.per)/\w'.cell? ⟨mb,3,none⟩=some (.slice An s.ns.length cn)/\w'.cell? ⟨mb,4,none⟩=some (.slice Ap s.p.length cp))
   (first
    |go_keep
    |exact Hkeep.o _ (K9.alloc K9.size _)
    |exact Hkeep.o _ ((K9.setCell (p:=⟨X.heap.size,0,none⟩) (zD _) _).setCell (p:=⟨X.heap.size,1,none⟩) (zD _) _)
    |exact Hkeep.o _ K9)
   (first
    |(go_at_call 22;(with_reducible show Calls _ _ _ (X.alloc _).drew _);refine (HRN.o (World.drew (X.alloc _)) ((aj8 _).drew)).mono ?_;rintro e w9 ⟨A8,c8,A9,c9,rfl,o8,o9,k9⟩;have K9:Below X.heap.size X w9:=a3E k9;have FB:Blk w9 X.heap.size 55 #[.int .i64 0,.int .i64 0]:=(show Blk (World.drew (X.alloc (.cells #[.int .i64 0,.int .i64 0] 55))) X.heap.size 55 #[.int .i64 0,.int .i64 0] from Blk.new _ _ _).below k9 (al3 _ _);have fd0:=FB.cell 0;have fd1:=FB.cell 1;have fz0:=FB.frozen 0;have fz1:=FB.frozen 1;simp only [zc,zE,zj] at fd0 fd1;unfold fv)
    |(go_at_call 22;(with_reducible show Calls _ _ _ X.drew _);refine (HRN.o X.drew ((zAA _ _).drew)).mono ?_;rintro e w9 ⟨A8,c8,A9,c9,rfl,o8,o9,k9⟩;have K9:Below X.heap.size X w9:=((zAA _ _).drew).trans k9;unfold fv)
    |fail "no arm")
  all_goals
   first
    |(obtain ⟨W,hW⟩:∃W:World,W=w9.alloc (.cells #[.int .i64 (er.1:Int),.int .i64 er.2] 55):=⟨_,rfl⟩
      obtain ⟨fb,hfb⟩:∃fb,fb=w9.heap.size:=⟨_,rfl⟩
      rw [<-hW,<-hfb]
      have bW:Below w9.heap.size w9 W:=by rw [hW];exact aj8 _
      have kW:Below X.heap.size X W:=K9.trans (bW.mono K9.size)
      have fW:Blk W fb 55 #[.int .i64 (er.1:Int),.int .i64 er.2]:=by rw [hW,hfb];exact Blk.new _ _ _
      have p8:=(o8.below bW).more bW.size
      have p9:=(o9.below bW).more bW.size
      go_wp2_with fail
      go_meet
      exact ⟨W,A8,c8,A9,c9,fb,rfl,rfl,rfl,rfl,p8,p9,fW,kW⟩)
    |(obtain ⟨W,hW⟩:∃W:World,W=(w9.setCell ⟨X.heap.size,0,none⟩ (.int .i64 (er.1:Int))).setCell ⟨X.heap.size,1,none⟩ (.int .i64 er.2):=⟨_,rfl⟩
      obtain ⟨fb,hfb⟩:∃fb,fb=X.heap.size:=⟨_,rfl⟩
      rw [<-hW,<-hfb]
      have kW:Below X.heap.size X W:=by rw [hW];exact (K9.setCell (p:=⟨X.heap.size,0,none⟩) (zD _) _).setCell (p:=⟨X.heap.size,1,none⟩) (zD _) _
      have fW:Blk W fb 55 #[.int .i64 (er.1:Int),.int .i64 er.2]:=by rw [hW,hfb];exact (FB.qi 0 _).qi 1 _
      have p8:RdP W W.heap.size A8 q:=by rw [hW];exact Rd.bu2 o8 (((Bu2.refl X.heap.size X.heap.size w9).set1 0 _).set1 1 _) (λh0=>o8.av4 Pk.qw FB h0)
      have p9:RdS W W.heap.size A9 l:=by rw [hW];exact Rd.bu2 o9 (((Bu2.refl X.heap.size X.heap.size w9).set1 0 _).set1 1 _) (λh0=>o9.av4 Sn.qw FB h0)
      go_wp2_with fail
      go_meet
      exact ⟨W,A8,c8,A9,c9,fb,rfl,rfl,rfl,rfl,p8,p9,fW,kW⟩)
 case rest=>
  obtain ⟨W,A8,c8,A9,c9,fb,rfl,rfl,rfl,rfl,p8,p9,fW,kW⟩:=hcut
  have t0':=fW.cell 0
  simp only [zc,zE] at t0'
  have KW:=zL kW
  have zW:=kW.size
  have HFW:=zL fW
  have hq:=HQ0.o
  have hl:=HL0.o
  have her:=HER0.o
  clear kW fW c0 c1 c2 c3 c4
  have hcm:xx s ⟨word,kind,n⟩=abR s\/xx s ⟨word,kind,n⟩=aaM s:=by
   rcases HW.o with h|h
   ·left;rw [aa0 HN1.o (.inr (.inl h))];unfold uE;rw [h,z6 zA4,zp rfl]
   ·right;rw [aa0 HN1.o (.inr (.inr (.inl h)))];unfold uE;rw [h,z6 zA4,z6 zA4,zp rfl]
  have P8:=zL p8
  have P9:=zL p9
  clear p8 p9
  by_cases hr:er.1=0
  ·rw [hr] at t0'
   obtain ⟨hql,hlk,hqe⟩:=ag2 (show (zq s.cs (qg s.K) s.per s.ns s.p).1=0 by rw [<-her];exact hr)
   rw [<-hq] at hql hqe
   rw [<-hq,<-hl] at hlk
   have hll:=hlk.len
   have hl300:l.length<=300:=zO
   have hq300:q.length<=300:=zO
   have HEA:=zL (show ∀x∈l,0<=x.p/\x.p.toNat<q.length/\wQ x.f/\wQ x.t/\0<=aOf q x.p.toNat/\aOf q x.p.toNat<=1125899906842624 from λx hx=>by
    have a:=hlk.each x hx
    have c:=xC hqe q[x.p.toNat] (zd a.2.1)
    rw [zy a.2.1]
    have d:=c.2.2.2.2
    exact ⟨a.1,a.2.1,hlk.tame x hx,hlk.tame' x hx,by omega,by omega⟩)
   have HQ:=zL hq
   have HL:=zL hl
   have HER:=zL her
   have HCM:=zL hcm
   have HRR:=zL hr
   clear hq hl her hcm hr hql hlk hqe hll
   go_wp2_with fail
   go_loopw [14,15,16] (λmv ov iv wr=>∃k:Nat,k<=l.length/\mv=.int .i64 (vW (delL q (l.take k)) 0)/\ov=.string (jB (l.take k))/\iv=.int .i64 k/\Below W.heap.size W wr) (λ_ _ iv _=>l.length - (intOf iv).toNat)
   case atStart=>exact ⟨0,zAK _,rfl,rfl,rfl,zAA _ _⟩
   case round=>
    obtain ⟨k,hk,rfl,rfl,rfl,hbw⟩:=hrel
    by_cases hlt:k<l.length
    ·obtain ⟨b,o,rfl,hb,d0⟩:=Rd.at_ (P9.o.below hbw) hlt
     obtain ⟨x,hx⟩:∃x,x=l[k]:=⟨_,rfl⟩
     rw [<-hx] at d0
     obtain ⟨a1,a2,a3,a4,a5,a6⟩:=HEA.o x (by rw [hx];exact zd hlt)
     unfold wQ at a3 a4
     obtain ⟨xp,hxp⟩:∃xp,xp=x.p:=⟨_,rfl⟩
     rw [<-hxp] at a1 a2 a5 a6
     obtain ⟨kp,rfl⟩:=Int.eq_ofNat_of_zero_le a1
     simp only [zAX] at a2 a5 a6
     have x0:=d0 0 _ rfl
     have x1:=d0 1 _ rfl
     have x2:=d0 2 _ rfl
     rw [<-hxp] at x0
     simp only [Nat.add_zero] at x0
     obtain ⟨bq,oq,rfl,hbq,dq⟩:=Rd.at_ (P8.o.below hbw) a2
     have y2:=dq 2 _ rfl
     rw [<-zy a2] at y2
     obtain ⟨ay,hay⟩:∃ay,ay=aOf q kp:=⟨_,rfl⟩
     rw [<-hay] at y2 a5 a6
     have w1:IntKind.i64.wrap (x.t - ay)=x.t - ay:=zBB
     obtain ⟨m,hm⟩:∃m,m=vW (delL q (l.take k)) 0:=⟨_,rfl⟩
     obtain ⟨r,hr⟩:∃r,r=jB (l.take k):=⟨_,rfl⟩
     rw [<-hm,<-hr]
     have hdl:delL q (l.take (k+1))=delL q (l.take k)++[x.t - ay]:=by
      rw [zAN hlt,<-hx]
      unfold delL
      rw [List.map_append,List.map_cons,List.map_nil,<-hxp,zAX,<-hay]
     have hi9:i64 x.p/\i64 x.f/\i64 x.t:=by unfold i64;rw [<-hxp];exact ⟨by omega,by omega,by omega⟩
     have hsz:r.size<=20000:=by
      have:=a1G (l:=l.take k) (λy hy=>by
       obtain ⟨g1,g2,g3,g4,-,-⟩:=HEA.o y (List.mem_of_mem_take hy)
       unfold wQ at g3 g4
       exact ⟨by unfold i64;omega,by unfold i64;omega,by unfold i64;omega⟩)
      rw [hr,zAh] at*
      omega
     have q0:(0:Int)<=(k:Int):=zO
     have q1:(k:Int)<(l.length:Int):=zO
     have q2:(0:Int)<=(kp:Int):=zO
     have q3:(kp:Int)<(q.length:Int):=zO
     have zw:=hbw.size
     have hbb:b<wr.heap.size:=zAG hb zw
     have HKX:=zM (∀w':World,Below wr.heap.size wr w'->w'.cell? ⟨b,o+k*3,none⟩=some (.int .i64 (kp:Int))/\w'.cell? ⟨b,o+k*3+1,none⟩=some (.int .i64 x.f)/\w'.cell? ⟨b,o+k*3+2,none⟩=some (.int .i64 x.t)) (λw' h9=>⟨(h9.cell (p:=⟨b,o+k*3,none⟩) hbb).trans x0,(h9.cell (p:=⟨b,o+k*3+1,none⟩) hbb).trans x1,(h9.cell (p:=⟨b,o+k*3+2,none⟩) hbb).trans x2⟩)
     have HD1:=zL (λu=>wH (kp:Int) u zO zO)
     have HD2:=zL (λu=>wH x.f u zO zO)
     have HD3:=zL (λu=>wH x.t u zO zO)
     have hs1:=akV hi9.1
     have hs2:=akV hi9.2.1
     have hs3:=akV hi9.2.2
     rw [<-hxp] at hs1
     obtain ⟨P,hP⟩:∃P,P=itT (kp:Int):=⟨_,rfl⟩
     obtain ⟨Q,hQ⟩:∃Q,Q=itT x.f:=⟨_,rfl⟩
     obtain ⟨R,hR⟩:∃R,R=itT x.t:=⟨_,rfl⟩
     rw [<-hP] at HD1 hs1
     rw [<-hQ] at HD2 hs2
     rw [<-hR] at HD3 hs3
     have hstep:k=0/\r++P++ByteArray.mk #[58]++Q++ByteArray.mk #[45]++R=jB (l.take (k+1))\/0<k/\r++ByteArray.mk #[32]++P++ByteArray.mk #[58]++Q++ByteArray.mk #[45]++R=jB (l.take (k+1)):=by
      rw [zAN hlt,<-hx,hP,hxp,hQ,hR]
      by_cases hk0:k=0
      ·subst hk0
       exact .inl ⟨rfl,by rw [hr];exact a1F x⟩
      ·refine .inr ⟨by omega,?_⟩
       rw [hr]
       exact azT (λh9=>by have:=zAu List.length h9;simp only [zAh,zAg] at this;omega) x
     have hmx:vW (delL q (l.take (k+1))) 0=if m<x.t - ay then x.t - ay else m:=by rw [hdl,as7,<-hm]
     have HWR:=zL hbw
     clear hx hxp hay hm hr hP hQ hR hdl hi9 hbw hb hbq d0 dq
     rcases hstep with ⟨hk0,hst⟩|⟨hk0,hst⟩
     ·have hk9:¬(0:Int)<(k:Int):=by omega
      have HST:=zL hst
      have t0:¬9223372036854775807<r.size+1:=zO
      have t1:¬9223372036854775807<r.size+P.size:=zO
      have t2:¬9223372036854775807<r.size+P.size+1:=zO
      have t3:¬9223372036854775807<r.size+P.size+1+Q.size:=zO
      have t4:¬9223372036854775807<r.size+P.size+1+Q.size+1:=zO
      have t5:¬9223372036854775807<r.size+P.size+1+Q.size+1+R.size:=zO
      exact zDC
     ·have hk9:(0:Int)<(k:Int):=by omega
      have HST:=zL hst
      have t0:¬9223372036854775807<r.size+1:=zO
      have t1:¬9223372036854775807<r.size+1+P.size:=zO
      have t2:¬9223372036854775807<r.size+1+P.size+1:=zO
      have t3:¬9223372036854775807<r.size+1+P.size+1+Q.size:=zO
      have t4:¬9223372036854775807<r.size+1+P.size+1+Q.size+1:=zO
      have t5:¬9223372036854775807<r.size+1+P.size+1+Q.size+1+R.size:=zO
      exact zDC
    ·obtain rfl:k=l.length:=by omega
     rw [List.take_length]
     have KE:=zL (KW.o.trans (hbw.mono KW.o.size))
     have f0:=(Y1.o.below KE.o Y1.o.lt).cell 0
     simp only [zc,zE] at f0
     obtain ⟨O,hO⟩:∃O,O=jB l:=⟨_,rfl⟩
     obtain ⟨m,hm⟩:∃m,m=vW (delL q l) 0:=⟨_,rfl⟩
     rw [<-hO,<-hm]
     have hmb:0<=m/\m<=4503599627370496:=by
      rw [hm]
      exact aqS (delL q l) 0 4503599627370496 (λy hy=>by
       obtain ⟨x,hx,rfl⟩:=zAT.1 hy
       obtain ⟨-,-,-,g4,g5,-⟩:=HEA.o x hx
       unfold wQ at g4
       omega) zO
     have HDM:=zL (λu=>wH m u zO zO)
     have hse:(scE s).1=0:=by show (zq s.cs (qg s.K) s.per s.ns s.p).1=0;rw [<-HER.o];exact HRR.o
     rcases HW.o with h|h
     ·have tw:(word.toList==([119,111,114,115,116]:List UInt8))=false:=by rw [h];exact tl_ne (a:=xG) (b:=qZ) zA4
      have HRr:=zL (show outT (xx s ⟨word,kind,n⟩).1=runT l/\(xx s ⟨word,kind,n⟩).2=s by
       have e:xx s ⟨word,kind,n⟩=abR s:=by rw [aa0 HN1.o (.inr (.inl h))];unfold uE;rw [h,z6 zA4,zp rfl]
       rw [e,HL.o]
       exact ⟨zp hse,rfl⟩)
      by_cases hl0:l=[]
      ·have hO2:O=⟨#[]⟩:=by rw [hO,hl0];rfl
       have HR2:=zM (runT l=noT) (zp hl0)
       subst hO2
       exact zEK
      ·have tj:(O.toList==([]:List UInt8))=false:=by rw [hO];exact tl_ne (b:=⟨#[]⟩) (a2S hl0)
       have HR2:=zM (runT l=O) (by rw [hO];exact awM hl0)
       exact zEK
     ·have tw:(word.toList==([119,111,114,115,116]:List UInt8))=true:=by rw [h];exact yP qZ
      have HRr:=zL (show outT (xx s ⟨word,kind,n⟩).1=itT m/\(xx s ⟨word,kind,n⟩).2=s by
       have e:xx s ⟨word,kind,n⟩=aaM s:=by rw [aa0 HN1.o (.inr (.inr (.inl h)))];unfold uE;rw [h,z6 zA4,z6 zA4,zp rfl]
       rw [e,hm,HL.o,HQ.o]
       exact ⟨zp hse,rfl⟩)
      clear h hmb hm hO hse hk hlt
      go_wp2_with fail
      refine (HDM.o _).mono ?_
      rintro e w5 ⟨rfl,k5⟩
      go_wp2_with fail
      go_ret
      have KF:=KE.o.trans (k5.mono KE.o.size)
      exact ⟨by rw [HRr.o.1];rfl,by rw [HRr.o.2];exact HMX.o.below KF,Bu2.of_below (K1.o.trans (KF.mono K1.o.size))⟩
  ·have h0:(0:Int)<(er.1:Int):=by omega
   have HE:=zL (wG er.1 _ W rfl zO (by have:=avN s.cs (qg s.K) s.per s.ns s.p;rw [<-her] at this;unfold okC at this;omega))
   have HRe:=zL (show outT (xx s ⟨word,kind,n⟩).1=abN er.1/\(xx s ⟨word,kind,n⟩).2=s by
    have hse:¬(scE s).1=0:=by show ¬(zq s.cs (qg s.K) s.per s.ns s.p).1=0;rw [<-her];exact hr
    rw [her]
    rcases hcm with e|e<;>(rw [e];exact ⟨z6 hse,rfl⟩))
   clear hr hcm her hq hl
   go_wp2_with fail
   refine HE.o.mono ?_
   rintro e w5 ⟨rfl,k5⟩
   go_wp2_with fail
   go_ret
   have KF:=KW.o.trans (k5.mono KW.o.size)
   exact ⟨by rw [HRe.o.1];rfl,by rw [HRe.o.2];exact HMX.o.below KF,Bu2.of_below (K1.o.trans (KF.mono K1.o.size))⟩
end
end Go.Proofs.YtoomffajodheaaaGreatDoor
