/- The proof of ScriptPlays, part ScMd. Conditions: in each statement. -/
import Derived.Test.YtoomffajodheaaaGreatDoorZScMc
set_option linter.all false
namespace Go.Proofs.YtoomffajodheaaaGreatDoor
open Go.RowKit
set_option maxRecDepth 100000
theorem zBP{p:Prop}(h:p:=by rw [hh];exact tl_ne (b:=wAt) (by decide)):p:=h
theorem zBS{p:Prop}(h:p:=by rw [hh];exact tl_ne (b:=qH) (by decide)):p:=h
theorem zBZ{p:Prop}(h:p:=by rw [hX,hlb];exact Blk.new _ _ _):p:=h
theorem zBa{p:Prop}(h:p:=by rw [hh];decide):p:=h
theorem zBr{p:Prop}(h:p:=by rw [h];decide):p:=h
theorem zBv{p:Prop}(h:p:=by rw [<-HCW.o];exact hh):p:=h
theorem zDM{p:Prop}(h:p:=by
 have E2:(cw.toList==([97,116]:List UInt8))=false:=by rw [hh];exact tl_ne (b:=wAt) zA4
 have E3:(cw.toList==([99,117,114,118,101]:List UInt8))=false:=by rw [hh];exact tl_ne (b:=qH) zA4
 have HE:=zM (decide ((0:Nat)=0/\(cw=qz\/cw=wAt\/cw=qH))=false) zBa
 clear hh
 go_wp2_with fail
 go_meet
 exact ⟨by rw [HE.o],rfl⟩):p:=h
theorem zDT{p:Prop}(h:p:=by
 have HD:=zL (wH y wc zO zO)
 have HNX:=zL (show inK (wR c.w) c.n (j+1) from λi hi hij=>by
  by_cases hij2:i<j
  ·exact HIN.o i hi hij2
  ·obtain rfl:i=j:=by omega
   have h8:=HMO.o
   rw [<-HY.o]
   omega)
 have hts:(itT y).size<=21:=Lib.itoa_length_le y y0 y1
 obtain ⟨T,hT⟩:∃T,T=itT y:=⟨_,rfl⟩
 rw [<-hT] at HD hts
 have HST:=zM (P++ByteArray.mk #[32]++T=jr c (j+1)) (by rw [HP.o,hT,HY.o];exact ac5 hjn)
 have t1:¬9223372036854775807<P.size+1:=zO
 have t2:¬9223372036854775807<P.size+1+T.size:=zO
 clear hT hts
 go_wp2_with fail
 refine HD.o.mono ?_
 rintro e w5 ⟨rfl,k5⟩
 have K5:=zL (KW.o.trans (k5.mono KW.o.size))
 clear k5 HD f0 f2 e1
 go_wp2_with fail
 go_roundw
 case rel=>exact ⟨j+1,by omega,by rw [HST.o],by go_num,HNX.o,K5.o⟩
 case measure=>simp [intOf];omega):p:=h
theorem zDf{p:Prop}(h:p:=by
 clear hh
 go_wp2_with fail
 go_meet
 exact ⟨by rw [HE.o],rfl⟩):p:=h
theorem zDx{p:Prop}(h:p:=by
 have HNL:=zM (cw≠qY) zBa
 clear hh
 go_wp2_with fail
 go_meet
 exact ⟨by rw [z6 HNL.o],by rw [HI.o,<-HL.o,<-afZ L 0];rfl,rfl⟩):p:=h
theorem zD6{p:Prop}(h:p:=by
 go_wp2_with fail
 go_ret2
 rw [HNO.o]
 exact ⟨rfl,BX.o.trans (KW.o.mono BX.o.size)⟩):p:=h
theorem zEX{p:Prop}(h:p:=by
 have E3:(cw.toList==([99,117,114,118,101]:List UInt8))=false:=by rw [hh];exact tl_ne (b:=qH) zA4
 have HE:=zM (decide ((0:Nat)=0/\(cw=qz\/cw=wAt\/cw=qH))=true) zBa
 exact zDf):p:=h
theorem zFT{p:Prop}(h:p:=by
 rintro e w1 ⟨rfl,k1⟩
 go_wp2_with fail
 go_ret
 exact ⟨by rw [<-HI.o];rfl,k1⟩):p:=h
theorem a3B {a b:ByteArray} (h:a≠b):(a.toList==b.toList)=false:=by
 rw [show b.toList=b.data.toList from eq_of_beq (yP b)]
 exact tl_ne h
theorem a3C (a:ByteArray):(a.toList==a.toList)=true:=beq_self_eq_true _
set_option maxHeartbeats 400000 in
theorem ai9 (A A':Option Addr) (c c':Nat) (a b:List ByteArray) (w:World) (B:Nat) (h:RdB w B A a) (h':RdB w B A' b) (hl:a.length<=9223372036854775807) (hl':b.length<=9223372036854775807):
 Calls Tryz.prog 11 #[.slice A a.length c,.slice A' b.length c'] w λe w'=>e=.returned (.bool (decide (a=b)))/\∃n,w.drewN n=w':=by
 by_cases hlen:a.length=b.length
 ·have hb1:((a.length:Int) !=(b.length:Int))=false:=by rw [hlen];simp
  have Hlen:=zL hlen
  clear hlen
  go_enter Tryz.func11,Tryz.ntmps11
  go_wp2
  go_loopw [5] (λi wr=>∃k n:Nat,k<=a.length/\i=.int .i64 k/\a.take k=b.take k/\w.drewN n=wr) (λi _=>a.length - (intOf i).toNat)
  case atStart=>exact ⟨0,0,zAK _,rfl,by simp,rfl⟩
  case round=>
   obtain ⟨k,n,hk,rfl,ht,rfl⟩:=hrel
   have Ht:=zL ht
   clear ht
   by_cases hlt:k<a.length
   ·have hlt2:k<b.length:=by have:=Hlen.o;omega
    obtain ⟨q,o,rfl,hb,d0⟩:=RdB.get h hlt
    obtain ⟨q',o',rfl,hb',d0'⟩:=RdB.get h' hlt2
    have hi2:(k:Int)<(b.length:Int):=zO
    obtain ⟨x,hx⟩:∃x,x=a[k]:=⟨_,rfl⟩
    obtain ⟨y,hy⟩:∃y,y=b[k]:=⟨_,rfl⟩
    rw [<-hx] at d0
    rw [<-hy] at d0'
    have HX:=zL hx
    have HY:=zL hy
    clear hx hy
    by_cases he:x=y
    ·have He:=zM (a[k]=b[k]) (by rw [<-HX.o,<-HY.o];exact he)
     have ht:(x.toList==y.toList)=true:=by rw [he];exact a3C y
     clear he
     go_wp2_with fail
     go_quiet (fail)
     go_wp2
     go_roundw
     case rel=>exact ⟨k+1,_,by omega,by go_num,arY Ht.o hlt hlt2 He.o,rfl⟩
     case measure=>simp [intOf];omega
    ·have He:=zM (a[k]≠b[k]) (by rw [<-HX.o,<-HY.o];exact he)
     have ht:(x.toList==y.toList)=false:=a3B he
     clear he
     go_wp2_with fail
     go_quiet (fail)
     go_wp2
     go_ret
     exact ⟨vL (by symm;exact zAH (ayJ hlt hlt2 He.o)),n+nq,(World.drewN_drewN _ _ _).symm⟩
   ·have hk2:a.length<=k:=by omega
    go_wp2
    go_ret
    exact ⟨vL (by symm;exact zAI (by have:=Ht.o;rwa [zAZ hk2,zAZ (by have:=Hlen.o;omega)] at this)),n,rfl⟩
 ·have hb1:((a.length:Int) !=(b.length:Int))=true:=by simp;omega
  have Hf:=zM (decide (a=b)=false) (zAH (λe=>hlen (by rw [e])))
  clear hlen
  go_enter Tryz.func11,Tryz.ntmps11
  go_wp2
  go_ret
  exact ⟨vL Hf.o.symm,0,rfl⟩
def byB (n:Nat):ByteArray:=⟨#[UInt8.ofNat n]⟩
theorem am5 (m:Int) (n:Nat) (w:World) (hm:m=(n:Int)) (hn:n<=255):Calls Tryz.prog 44 #[.int .i64 m] w λe w'=>e=.returned (.string (byB n))/\Below w.heap.size w w':=by
 have hcv:(convert 144 9 (.slice (some ⟨w.heap.size,0,none⟩) 1 1)).run Tryz.prog (w.alloc (.cells #[.int .u8 (n:Int)] 5))=.ok (.string (byB n)) (w.alloc (.cells #[.int .u8 (n:Int)] 5)):=by
  refine run_convert_bytes_back _ _ _ 5 ⟨w.heap.size,0,none⟩ 1 [UInt8.ofNat n] Tryz.underlying144 Tryz.underlying5 Tryz.underlying9 (λj hj=>?_)
  have hj0:j=0:=by simpa using hj
  subst hj0
  have h:=(Blk.new w 5 #[.int .u8 (n:Int)]).cell 0
  simp only [List.getElem_cons_zero,UInt8.toNat_ofNat']
  rw [Nat.mod_eq_of_lt (by omega:n<2 ^ 8)]
  exact h
 have hwr:IntKind.u8.wrap m=(n:Int):=by rw [hm];unfold IntKind.wrap;have hs:IntKind.u8.signed=false:=rfl;have hb:IntKind.u8.bits=8:=rfl;simp only [hs,hb];simp;omega
 have HM:=zL hm
 clear hm
 go_enter Tryz.func44,Tryz.ntmps44
 go_wp2_with fail
 go_ret
 exact ⟨rfl,(zAA _ _).alloc (zD _) _⟩
theorem ay2 (u:Nat):(-(u:Int)).tdiv 10=-((u / 10:Nat):Int):=by
 rw [Int.neg_tdiv]
 rfl
theorem ay0 (u:Nat):(-(u:Int)).tmod 10=-((u % 10:Nat):Int):=by
 rw [Int.neg_tmod]
 rfl
def afC (u:Nat):ByteArray:=⟨(Lib.decDigits u).toArray⟩
theorem axK (u:Nat) (h:u<10):byB (48+u)=afC u:=by
 unfold byB afC
 rw [Lib.decDigits,dif_pos h]
theorem auH (u:Nat) (h:¬u<10):afC (u / 10)++byB (48+u % 10)=afC u:=by
 apply toList_inj
 unfold byB afC
 rw [Lib.decDigits.eq_def u,dif_neg h]
 simp
theorem aj1 (k u:Nat) (h:u<10 ^ (k+1)):(afC u).size<=k+1:=by
 have:=aq8 k u h
 show (Lib.decDigits u).toArray.size<=k+1
 simpa using this
theorem aj6 (m:Int) (u:Nat) (w:World) (hm:m=-(u:Int)) (h10:u<10):
 Calls Tryz.prog 26 #[.int .i64 m] w λe w'=>e=.returned (.string (afC u))/\Below w.heap.size w w':=by
 have h1:-10<m:=zO
 have HB:=zL (λx (hx:x=48 - m)=>am5 x (48+u) w zO zO)
 have h48:IntKind.i64.wrap (48 - m)=48 - m:=zBB
 have h2:m<=0:=zO
 clear hm
 go_enter Tryz.func26,Tryz.ntmps26
 go_wp2_with fail
 refine (HB.o _ zO).mono ?_
 rintro e w1 ⟨rfl,k1⟩
 go_wp2_with fail
 go_ret
 exact ⟨by rw [<-axK u h10];rfl,k1⟩
theorem aj7 (k:Nat):∀(m:Int) (u:Nat) (w:World),m=-(u:Int)->u<=k->u<=9223372036854775807→
 Calls Tryz.prog 26 #[.int .i64 m] w λe w'=>e=.returned (.string (afC u))/\Below w.heap.size w w':=by
 induction k with
 |zero=>exact λm u w hm hk _=>aj6 m u w hm zO
 |succ k ih=>
  intro m u w hm hk hu
  have hq:=ay2 u
  have hr:=ay0 u
  rw [<-hm] at hq hr
  have HM:=zL hm
  by_cases h10:u<10
  ·exact aj6 m u w hm h10
  ·have h1:m≤-10:=by omega
   obtain ⟨Q,hQ⟩:∃Q:Int,Q=-((u / 10:Nat):Int):=⟨_,rfl⟩
   obtain ⟨R,hR⟩:∃R:Int,R=-((u % 10:Nat):Int):=⟨_,rfl⟩
   rw [<-hQ] at hq
   rw [<-hR] at hr
   have HIH:=zL (λx (hx:x=Q)=>ih x (u / 10) w (by rw [hx,hQ]) zO zO)
   have HB:=zL (λx (hx:x=48 - R) W=>am5 x (48+u % 10) W zO zO)
   have HD:=zL (auH u h10)
   have q1:-922337203685477580<=Q:=zO
   have q2:Q≤-1:=zO
   have q3:-9<=R:=zO
   have q4:R<=0:=zO
   have hs1:=aj1 18 (u / 10) zO
   have hs2:(byB (48+u % 10)).size=1:=rfl
   have hm0:m<0:=zO
   obtain ⟨D,hD⟩:∃D,D=afC (u / 10):=⟨_,rfl⟩
   obtain ⟨E,hE⟩:∃E,E=byB (48+u % 10):=⟨_,rfl⟩
   rw [<-hD] at HD HIH hs1
   rw [<-hE] at HD HB hs2
   have t1:¬9223372036854775807<D.size+E.size:=zO
   have HQ:=zL hQ
   have HR:=zL hR
   clear hm hQ hR hD hE hs1 hs2 h10
   go_enter Tryz.func26,Tryz.ntmps26
   go_wp2_with fail
   refine (HIH.o _ zO).mono ?_
   rintro e w1 ⟨rfl,k1⟩
   go_wp2_with fail
   refine (HB.o _ zO w1).mono ?_
   rintro e w2 ⟨rfl,k2⟩
   go_wp2_with fail
   go_ret
   exact ⟨by rw [<-HD.o];rfl,k1.trans (k2.mono k1.size)⟩
theorem wH (n:Int) (w:World) (h0:-9223372036854775807<=n) (h1:n<=9223372036854775807):Calls Tryz.prog 15 #[.int .i64 n] w λe w'=>e=.returned (.string (itT n))/\Below w.heap.size w w':=by
 by_cases hn:n<0
 ·have HB:=zL (aj7 n.natAbs n n.natAbs w zO (zD _) zO)
  have hs:=aj1 18 n.natAbs zO
  obtain ⟨D,hD⟩:∃D,D=afC n.natAbs:=⟨_,rfl⟩
  have HI:=zL (show ByteArray.mk #[45]++D=itT n by
   apply toList_inj
   rw [hD]
   unfold afC itT Lib.itoa
   rw [zp hn]
   simp)
  rw [<-hD] at HB hs
  have t1:¬9223372036854775807<1+D.size:=zO
  clear hD hs
  go_enter Tryz.func15,Tryz.ntmps15
  go_wp2_with fail
  refine (HB.o).mono ?_
  exact zFT
 ·have HB:=zL (λx (hx:x=-n)=>aj7 n.toNat x n.toNat w zO (zD _) zO)
  have HI:=zM (afC n.toNat=itT n) (by unfold afC itT Lib.itoa;rw [z6 hn])
  go_enter Tryz.func15,Tryz.ntmps15
  go_wp2_with fail
  refine (HB.o _ zO).mono ?_
  exact zFT
theorem agH {w:World} {base:Nat} {A:Option Addr} {c:Nat} {l:List ByteArray} (h:w.ownsRow base 9 1 (.slice A l.length c) l.length (l.flatMap bCs)):RdB w w.heap.size A l:=Rd.qA h zO uq
theorem aqH (w:World) (l:List ByteArray) (arr:Array Value) (ha:arr=(l.map Value.string).toArray):RdB (w.alloc (.cells arr 9)) (w.heap.size+1) (some ⟨w.heap.size,0,none⟩) l:=λh0=>by
 refine ⟨w.heap.size,0,rfl,by omega,λi x hx j v hv=>?_⟩
 cases j with
 |zero=>
  simp only [bCs,zE,zAC] at hv
  subst hv
  have hb:=(Blk.new w 9 arr).cell i
  simp only [Nat.zero_add,Nat.mul_one,Nat.add_zero]
  refine Eq.trans hb ?_
  rw [ha,zc,List.getElem?_map,hx]
  rfl
 |succ j=>simp [bCs] at hv
theorem Below.axD {B:Nat} {a w:World} (h:Below B a w) (n:Nat):Below B a (w.drewN n):=⟨h.os,h.tape,h.output,h.size,h.block⟩
theorem atQ (S:Nat->Addr) (w:World) (B:Nat) (hB:B<=w.heap.size) (hS:SX w B S):Calls Tryz.prog 6 #[] w λe w'=>e=.returned (.bool true)/\Below w.heap.size w w':=by
 obtain ⟨X,hX⟩:∃X,X=w.alloc (.cells #[.string ⟨#[108,105,110,107,32,102,105,102,111,32,50]⟩,.string ⟨#[112,97,99,107,101,116,32,48,32,51,32,53]⟩,.string ⟨#[114,117,110]⟩,.string ⟨#[119,111,114,115,116]⟩,.string ⟨#[98,111,117,110,100]⟩] 9):=⟨_,rfl⟩
 have kX:Below w.heap.size w X:=zBA
 have rX:RdB X X.heap.size (some ⟨w.heap.size,0,none⟩) hIn:=by rw [hX];exact (aqH w hIn _ rfl).more zA1
 have HR:=alG (some ⟨w.heap.size,0,none⟩) 5 hIn S X B (zAB hB kX.size) (hS.below (kX.mono hB)) rX zA4 (by
  intro x hx
  simp only [hIn,zAM,List.not_mem_nil,or_false] at hx
  rcases hx with rfl|rfl|rfl|rfl|rfl<;>decide)
 rw [a1I] at HR
 have HRR:=zL HR
 have HX:=zL hX
 have KX:=zL kX
 clear hX kX rX HR
 go_enter Tryz.func6,Tryz.ntmps6
 go_wp2_with fail
 rw [<-HX.o]
 refine HRR.o.mono ?_
 rintro e w2 ⟨A,c,rfl,ow,k2⟩
 have K2:=zL (KX.o.trans (k2.mono KX.o.size))
 have z2:=K2.o.size
 have rd2:RdB w2 w2.heap.size A apC:=agH ow
 have HR2:=zL rd2
 clear ow k2 rd2 HRR
 obtain ⟨Y,hY⟩:∃Y,Y=w2.alloc (.cells #[.string ⟨#[111,107]⟩,.string ⟨#[111,107]⟩,.string ⟨#[48,58,53,45,49,49]⟩,.string ⟨#[54]⟩,.string ⟨#[102,108,111,111,100,103,97,116,101,58,32,110,111,110,101]⟩] 9):=⟨_,rfl⟩
 have rY:RdB Y (w2.heap.size+1) (some ⟨w2.heap.size,0,none⟩) apC:=by rw [hY];exact aqH w2 apC _ rfl
 have kY:Below w2.heap.size w2 Y:=by rw [hY];exact (zAA _ _).alloc (zD _) _
 have HST0:=(ai9 A (some ⟨w2.heap.size,0,none⟩) c 5 apC apC Y (w2.heap.size+1) ((HR2.o.below kY).more zO) rY zA4 zA4)
 have HST:=zM (Calls Tryz.prog 11 #[.slice A apC.length c,.slice (some ⟨w2.heap.size,0,none⟩) 5 5] Y λe w'=>e=.returned (.bool true)/\∃n,Y.drewN n=w') (HST0.mono λe w' h9=>⟨by rw [h9.1,zAI rfl],h9.2⟩)
 clear HST0
 have HY:=zL hY
 have KY:=zL kY
 clear hY rY kY
 go_wp2_with fail
 rw [<-HY.o]
 refine HST.o.mono ?_
 rintro e w3 ⟨rfl,n,rfl⟩
 clear HST
 go_wp2_with fail
 go_ret
 exact ⟨rfl,Below.axD (K2.o.trans (KY.o.mono z2)) n⟩
set_option maxHeartbeats 4000000 in
theorem wG (k:Nat) (x:Int) (w:World) (hx:x=(k:Int)) (h1:1<=k) (h9:k<=9):Calls Tryz.prog 13 #[.int .i64 x] w λe w'=>e=.returned (.string (abN k))/\Below w.heap.size w w':=by
 subst hx
 have hk:k=1\/k=2\/k=3\/k=4\/k=5\/k=6\/k=7\/k=8\/k=9:=zO
 clear h1 h9
 rcases hk with rfl|rfl|rfl|rfl|rfl|rfl|rfl|rfl|rfl
 all_goals
  go_enter Tryz.func13,Tryz.ntmps13
  go_wp2_with fail
  go_ret
  exact ⟨rfl,(zAA _ _).alloc (zD _) _⟩
theorem adR (k:Nat) (x:Int) (w:World) (hx:x=(k:Int)) (h9:k<=9):Calls Tryz.prog 19 #[.int .i64 x] w λe w'=>e=.returned (.string (outT (k,okT)))/\Below w.heap.size w w':=by
 by_cases h0:k=0
 ·subst h0
  subst hx
  go_enter Tryz.func19,Tryz.ntmps19
  go_wp2_with fail
  go_ret
  exact ⟨rfl,zAA _ _⟩
 ·have HE:=zL (wG k x w hx zO h9)
  have HO:=zM (outT (k,okT)=abN k) (z6 h0)
  have hx0:0<x:=zO
  clear hx
  go_enter Tryz.func19,Tryz.ntmps19
  go_wp2_with fail
  refine HE.o.mono ?_
  rintro e w1 ⟨rfl,k1⟩
  go_wp2_with fail
  go_ret
  exact ⟨by rw [HO.o];rfl,k1⟩
theorem ao7 (K:ByteArray) (w:World):Calls Tryz.prog 14 #[.string K] w λe w'=>e=.returned (.bool (decide (qg K<5)))/\w'=w:=by
 rcases kind_cases K with ⟨s0,s1,s2,s3,s4,hn⟩|⟨s0,s1,s2,s3,s4,hn⟩|⟨s0,s1,s2,s3,s4,hn⟩|⟨s0,s1,s2,s3,s4,hn⟩|⟨s0,s1,s2,s3,s4,hn⟩|⟨s0,s1,s2,s3,s4,hn⟩
 all_goals
  rw [hn]
  clear hn
  go_enter Tryz.func14,Tryz.ntmps14
  go_wp2_with fail
  go_ret
  exact ⟨rfl,rfl⟩
theorem wordE (w:ByteArray):(w=qH/\(w.toList==([99,117,114,118,101]:List UInt8))=true)\/(w=qY/\(w.toList==([99,117,114,118,101]:List UInt8))=false/\(w.toList==([108,105,110,107]:List UInt8))=true)\/(w=qJ/\(w.toList==([99,117,114,118,101]:List UInt8))=false/\(w.toList==([108,105,110,107]:List UInt8))=false/\(w.toList==([110,117,109,98,101,114,115]:List UInt8))=true)\/(w=qz/\(w.toList==([99,117,114,118,101]:List UInt8))=false/\(w.toList==([108,105,110,107]:List UInt8))=false/\(w.toList==([110,117,109,98,101,114,115]:List UInt8))=false/\(w.toList==([112,97,99,107,101,116]:List UInt8))=true)\/(w=wAt/\(w.toList==([99,117,114,118,101]:List UInt8))=false/\(w.toList==([108,105,110,107]:List UInt8))=false/\(w.toList==([110,117,109,98,101,114,115]:List UInt8))=false/\(w.toList==([112,97,99,107,101,116]:List UInt8))=false/\(w.toList==([97,116]:List UInt8))=true)\/(w=zm/\(w.toList==([99,117,114,118,101]:List UInt8))=false/\(w.toList==([108,105,110,107]:List UInt8))=false/\(w.toList==([110,117,109,98,101,114,115]:List UInt8))=false/\(w.toList==([112,97,99,107,101,116]:List UInt8))=false/\(w.toList==([97,116]:List UInt8))=false/\(w.toList==([99,108,101,97,114]:List UInt8))=true)\/(w=xG/\(w.toList==([99,117,114,118,101]:List UInt8))=false/\(w.toList==([108,105,110,107]:List UInt8))=false/\(w.toList==([110,117,109,98,101,114,115]:List UInt8))=false/\(w.toList==([112,97,99,107,101,116]:List UInt8))=false/\(w.toList==([97,116]:List UInt8))=false/\(w.toList==([99,108,101,97,114]:List UInt8))=false/\(w.toList==([114,117,110]:List UInt8))=true)\/(w=qZ/\(w.toList==([99,117,114,118,101]:List UInt8))=false/\(w.toList==([108,105,110,107]:List UInt8))=false/\(w.toList==([110,117,109,98,101,114,115]:List UInt8))=false/\(w.toList==([112,97,99,107,101,116]:List UInt8))=false/\(w.toList==([97,116]:List UInt8))=false/\(w.toList==([99,108,101,97,114]:List UInt8))=false/\(w.toList==([114,117,110]:List UInt8))=false/\(w.toList==([119,111,114,115,116]:List UInt8))=true)\/(w=ze/\(w.toList==([99,117,114,118,101]:List UInt8))=false/\(w.toList==([108,105,110,107]:List UInt8))=false/\(w.toList==([110,117,109,98,101,114,115]:List UInt8))=false/\(w.toList==([112,97,99,107,101,116]:List UInt8))=false/\(w.toList==([97,116]:List UInt8))=false/\(w.toList==([99,108,101,97,114]:List UInt8))=false/\(w.toList==([114,117,110]:List UInt8))=false/\(w.toList==([119,111,114,115,116]:List UInt8))=false/\(w.toList==([98,111,117,110,100]:List UInt8))=true)\/(¬wordIs w/\(w.toList==([99,117,114,118,101]:List UInt8))=false/\(w.toList==([108,105,110,107]:List UInt8))=false/\(w.toList==([110,117,109,98,101,114,115]:List UInt8))=false/\(w.toList==([112,97,99,107,101,116]:List UInt8))=false/\(w.toList==([97,116]:List UInt8))=false/\(w.toList==([99,108,101,97,114]:List UInt8))=false/\(w.toList==([114,117,110]:List UInt8))=false/\(w.toList==([119,111,114,115,116]:List UInt8))=false/\(w.toList==([98,111,117,110,100]:List UInt8))=false):=by
 by_cases h0:w=qH
 ·subst h0;exact .inl ⟨rfl,yP qH⟩
 by_cases h1:w=qY
 ·subst h1;exact .inr (.inl ⟨rfl,tl_ne (a:=qY) (b:=qH) zA4,yP qY⟩)
 by_cases h2:w=qJ
 ·subst h2;exact .inr (.inr (.inl ⟨rfl,tl_ne (a:=qJ) (b:=qH) zA4,tl_ne (a:=qJ) (b:=qY) zA4,yP qJ⟩))
 by_cases h3:w=qz
 ·subst h3;exact .inr (.inr (.inr (.inl ⟨rfl,tl_ne (a:=qz) (b:=qH) zA4,tl_ne (a:=qz) (b:=qY) zA4,tl_ne (a:=qz) (b:=qJ) zA4,yP qz⟩)))
 by_cases h4:w=wAt
 ·subst h4;exact .inr (.inr (.inr (.inr (.inl ⟨rfl,tl_ne (a:=wAt) (b:=qH) zA4,tl_ne (a:=wAt) (b:=qY) zA4,tl_ne (a:=wAt) (b:=qJ) zA4,tl_ne (a:=wAt) (b:=qz) zA4,yP wAt⟩))))
 by_cases h5:w=zm
 ·subst h5;exact .inr (.inr (.inr (.inr (.inr (.inl ⟨rfl,tl_ne (a:=zm) (b:=qH) zA4,tl_ne (a:=zm) (b:=qY) zA4,tl_ne (a:=zm) (b:=qJ) zA4,tl_ne (a:=zm) (b:=qz) zA4,tl_ne (a:=zm) (b:=wAt) zA4,yP zm⟩)))))
 by_cases h6:w=xG
 ·subst h6;exact .inr (.inr (.inr (.inr (.inr (.inr (.inl ⟨rfl,tl_ne (a:=xG) (b:=qH) zA4,tl_ne (a:=xG) (b:=qY) zA4,tl_ne (a:=xG) (b:=qJ) zA4,tl_ne (a:=xG) (b:=qz) zA4,tl_ne (a:=xG) (b:=wAt) zA4,tl_ne (a:=xG) (b:=zm) zA4,yP xG⟩))))))
 by_cases h7:w=qZ
 ·subst h7;exact .inr (.inr (.inr (.inr (.inr (.inr (.inr (.inl ⟨rfl,tl_ne (a:=qZ) (b:=qH) zA4,tl_ne (a:=qZ) (b:=qY) zA4,tl_ne (a:=qZ) (b:=qJ) zA4,tl_ne (a:=qZ) (b:=qz) zA4,tl_ne (a:=qZ) (b:=wAt) zA4,tl_ne (a:=qZ) (b:=zm) zA4,tl_ne (a:=qZ) (b:=xG) zA4,yP qZ⟩)))))))
 by_cases h8:w=ze
 ·subst h8;exact .inr (.inr (.inr (.inr (.inr (.inr (.inr (.inr (.inl ⟨rfl,tl_ne (a:=ze) (b:=qH) zA4,tl_ne (a:=ze) (b:=qY) zA4,tl_ne (a:=ze) (b:=qJ) zA4,tl_ne (a:=ze) (b:=qz) zA4,tl_ne (a:=ze) (b:=wAt) zA4,tl_ne (a:=ze) (b:=zm) zA4,tl_ne (a:=ze) (b:=xG) zA4,tl_ne (a:=ze) (b:=qZ) zA4,yP ze⟩))))))))
 exact .inr (.inr (.inr (.inr (.inr (.inr (.inr (.inr (.inr (⟨λh=>by rcases h with h|h|h|h|h|h|h|h|h<;>contradiction,tl_ne (b:=qH) h0,tl_ne (b:=qY) h1,tl_ne (b:=qJ) h2,tl_ne (b:=qz) h3,tl_ne (b:=wAt) h4,tl_ne (b:=zm) h5,tl_ne (b:=xG) h6,tl_ne (b:=qZ) h7,tl_ne (b:=ze) h8⟩)))))))))
theorem a1V {c:Cm} (h:c.w=qH):jc c=(c.n.length % 2==1):=by unfold jc;rw [zp h]
theorem a1U {c:Cm} (h:c.w=qY):jc c=(c.n.length==1&&decide (qg c.k<5)):=by unfold jc;rw [z6 zBr,zp h]
theorem a1T {c:Cm} (h:c.w=qJ):jc c=(c.n.length==8):=by unfold jc;rw [z6 zBr,z6 zBr,zp h]
theorem a1S {c:Cm} (h:c.w=qz):jc c=(c.n.length==3):=by unfold jc;rw [z6 zBr,z6 zBr,z6 zBr,zp h]
theorem a1R {c:Cm} (h:c.w=wAt):jc c=(c.n.length==2):=by unfold jc;rw [z6 zBr,z6 zBr,z6 zBr,z6 zBr,zp h]
theorem ak3 {c:Cm} (h:c.w=zm\/c.w=xG\/c.w=qZ\/c.w=ze):jc c=(c.n.length==0):=by
 have hd:∀x,x=qH\/x=qY\/x=qJ\/x=qz\/x=wAt->¬c.w=x:=by
  intro x hx e
  rw [e] at h
  rcases hx with rfl|rfl|rfl|rfl|rfl<;>revert h<;>decide
 unfold jc
 rw [z6 (hd _ zA1),z6 (hd _ zA1),z6 (hd _ zA1),z6 (hd _ zA1),z6 (hd _ zA1),zp h]
theorem a0A {c:Cm} (h:¬wordIs c.w):jc c=false:=by
 unfold wordIs at h
 simp only [not_or] at h
 obtain ⟨h1,h2,h3,h4,h5,h6,h7,h8,h9⟩:=h
 unfold jc
 rw [z6 h1,z6 h2,z6 h3,z6 h4,z6 h5,z6 (λh=>by rcases h with h|h|h|h<;>contradiction)]
def jr (c:Cm) (j:Nat):ByteArray:=⟨(spJ c.w.data.toList (((if c.w=qY then [c.k] else [])++(c.n.take j).map itT).map (·.data.toList))).toArray⟩
theorem ac5 {c:Cm} {j:Nat} (h:j<c.n.length):jr c j++ByteArray.mk #[32]++itT c.n[j]=jr c (j+1):=by
 apply toList_inj
 unfold jr
 rw [zAN h]
 simp only [List.map_append,List.map_cons,List.map_nil]
 rw [<-zAi,avJ]
 simp
theorem arC {c:Cm} (h:c.w≠qY):jr c 0=c.w:=by
 apply toList_inj
 unfold jr spJ
 rw [z6 h]
 simp
theorem arB {c:Cm} (h:c.w=qY):jr c 0=c.w++ByteArray.mk #[32]++c.k:=by
 apply toList_inj
 unfold jr spJ
 rw [zp h]
 simp
theorem aj4 (c:Cm):jr c c.n.length=cmB c:=by
 unfold jr cmB cmT axR
 rw [List.take_length]
def inK (m:Int) (n:List Int) (j:Nat):Prop:=∀i (h:i<n.length),i<j->0<=n[i]/\n[i]<=(if i=0 then m else 9999999)
theorem adX {m:Int} {n:List Int}:inK m n n.length ↔ inB m n:=by
 constructor
 ·intro h
  cases n with
  |nil=>trivial
  |cons x r=>
   refine ⟨by have h7:=h 0 zA1 zA1;rw [zp rfl] at h7;exact h7,λy hy=>?_⟩
   obtain ⟨i,hi,rfl⟩:=List.mem_iff_getElem.1 hy
   have h7:=h (i+1) (Nat.succ_lt_succ hi) (Nat.succ_lt_succ hi)
   rw [z6 (Nat.succ_ne_zero i)] at h7
   exact h7
 ·intro h i hi hij
  cases n with
  |nil=>simp at hi
  |cons x r=>
   cases i with
   |zero=>rw [zp rfl];exact h.1
   |succ i=>rw [z6 (Nat.succ_ne_zero i)];exact h.2 _ (zd (Nat.lt_of_succ_lt_succ hi))
open Classical in
noncomputable def kQ (c:Cm):ByteArray × Bool:=if amZ c then (cmB c,true) else (⟨#[]⟩,false)
theorem acE {c:Cm} (h:amZ c):kQ c=(cmB c,true):=zp h
theorem ji {c:Cm} (h:¬amZ c):kQ c=(⟨#[]⟩,false):=z6 h
theorem ah9 {c:Cm} {j:Nat} (h:∀x∈c.n,i64 x) (hw:c.w.size<=60) (hk:c.k.size<=60):j<=c.n.length->(jr c j).size<=121+22*j:=by
 induction j with
 |zero=>
  intro _
  by_cases hl:c.w=qY
  ·rw [arB hl,ByteArray.size_append,ByteArray.size_append]
   have:(ByteArray.mk #[32]).size=1:=rfl
   omega
  ·rw [arC hl];omega
 |succ j ih=>
  intro hj
  have:=ih zO
  have hz:=h c.n[j] (zd zO)
  rw [<-ac5 zO,ByteArray.size_append,ByteArray.size_append]
  have h1:(ByteArray.mk #[32]).size=1:=rfl
  have h2:(itT c.n[j]).size<=21:=Lib.itoa_length_le _ hz.1 hz.2
  omega
theorem afZ (a b:Nat):((a:Int)==(b:Int))=(a==b):=by
 by_cases h:a=b
 ·rw [h,beq_self_eq_true,beq_self_eq_true]
 ·rw [beq_eq_false_iff_ne.2 h,beq_eq_false_iff_ne.2 (λe=>h zO)]
theorem a1C (a:Nat):((a:Int) % 2==1)=(a % 2==1):=afZ (a % 2) 1
section
variable (c:Cm) (A:Option Addr) (cap:Nat) (w:World) (h:RdI w w.heap.size A c.n) (hn:c.n.length<=20) (hw:c.w.size<=60) (hk:c.k.size<=60) (h64:∀x∈c.n,i64 x)
include h hn hw hk h64
set_option maxHeartbeats 8000000 in
theorem ao1:Calls Tryz.prog 8 #[.agg #[.string c.w,.string c.k,.slice A c.n.length cap]] w λe w'=>e=.returned (.tuple #[.string (kQ c).1,.bool (kQ c).2])/\Below w.heap.size w w':=by
 obtain ⟨L,hL⟩:∃L,L=c.n.length:=⟨_,rfl⟩
 rw [<-hL]
 obtain ⟨X,hX⟩:∃X,X=w.alloc (.cells #[.string c.w,.string c.k,.slice A L cap] 29):=⟨_,rfl⟩
 obtain ⟨lb,hlb⟩:∃lb,lb=w.heap.size:=⟨_,rfl⟩
 have xX:Blk X lb 29 #[.string c.w,.string c.k,.slice A L cap]:=zBZ
 have bX:Below w.heap.size w X:=zBA
 have d0:=xX.cell 0
 have d1:=xX.cell 1
 have d2:=xX.cell 2
 simp only [zc,zE,zj] at d0 d1 d2
 have HL:=zL hL
 have HX:=zL hX
 have HLB:=zL hlb
 have BX:=zL bX
 have HPS:=zL (fun (j:Nat) (hj:j<=c.n.length)=>ah9 h64 hw hk hj)
 have HRD:=zL (Rd.below h bX)
 have H64:=zL h64
 have hL20:L<=20:=zO
 obtain ⟨cw,hcw⟩:∃cw,cw=c.w:=⟨_,rfl⟩
 obtain ⟨ck,hck⟩:∃ck,ck=c.k:=⟨_,rfl⟩
 rw [<-hcw] at d0 hw
 rw [<-hck] at d1 hk
 rw [<-hcw,<-hck] at HX
 have HCW:=zL hcw
 have HCK:=zL hck
 rw [<-hcw,<-hck]
 clear hL hX hlb xX bX h hn h64 hcw hck
 go_enter Tryz.func8,Tryz.ntmps8
 go_upto_region 1 with fail
 rw [<-HLB.o]
 rw [HLB.o,<-HX.o,<-HLB.o]
 go_upto_block 0 with fail
 go_cut [5,6] from 16 to 55 (λs5 s6 wx=>s5=.string (if cw=qY then cw++ByteArray.mk #[32]++ck else cw)/\s6=.bool (jc c)/\wx=X)
 case first=>
  rcases wordE cw with ⟨hh,u1⟩|⟨hh,u1,u2⟩|⟨hh,u1,u2,u3⟩|⟨hh,u1,u2,u3,u4⟩|⟨hh,u1,u2,u3,u4,u5⟩|⟨hh,u1,u2,u3,u4,u5,u6⟩|⟨hh,u1,u2,u3,u4,u5,u6,u7⟩|⟨hh,u1,u2,u3,u4,u5,u6,u7,u8⟩|⟨hh,u1,u2,u3,u4,u5,u6,u7,u8,u9⟩|⟨hh,u1,u2,u3,u4,u5,u6,u7,u8,u9⟩
  ·have HI:=zL (a1V (c:=c) zBv)
   have HNL:=zM (cw≠qY) zBa
   clear hh
   go_wp2_with fail
   go_meet
   exact ⟨by rw [z6 HNL.o],by rw [HI.o,<-HL.o,<-a1C L];(try rfl),rfl⟩
  ·have HI:=zL (a1U (c:=c) zBv)
   have HNL:=zL hh
   have hz:(ByteArray.mk #[32]).size=1:=rfl
   have t1:¬9223372036854775807<cw.size+1:=zO
   have t2:¬9223372036854775807<cw.size+1+ck.size:=zO
   have HKK:=zL (ao7 ck X)
   clear hh hz
   by_cases hl1:L=1
   ·subst hl1
    go_wp2_with fail
    refine HKK.o.mono ?_
    rintro e w1 ⟨rfl,rfl⟩
    go_wp2_with fail
    go_meet
    exact ⟨by rw [zp HNL.o],by rw [HI.o,<-HL.o,<-HCK.o];(try rfl),rfl⟩
   ·have l1:¬(L:Int)=1:=by omega
    have HN1:=zL hl1
    clear hl1
    go_wp2_with fail
    go_meet
    exact ⟨by rw [zp HNL.o],by rw [HI.o,<-HL.o,show (L==1)=false from beq_eq_false_iff_ne.2 HN1.o];rfl,rfl⟩
  ·have HI:=zL (a1T (c:=c) zBv)
   have HNL:=zM (cw≠qY) zBa
   clear hh
   go_wp2_with fail
   go_meet
   exact ⟨by rw [z6 HNL.o],by rw [HI.o,<-HL.o,<-afZ L 8];rfl,rfl⟩
  ·have HI:=zL (a1S (c:=c) zBv)
   have HNL:=zM (cw≠qY) zBa
   clear hh
   go_wp2_with fail
   go_meet
   exact ⟨by rw [z6 HNL.o],by rw [HI.o,<-HL.o,<-afZ L 3];rfl,rfl⟩
  ·have HI:=zL (a1R (c:=c) zBv)
   have HNL:=zM (cw≠qY) zBa
   clear hh
   go_wp2_with fail
   go_meet
   exact ⟨by rw [z6 HNL.o],by rw [HI.o,<-HL.o,<-afZ L 2];rfl,rfl⟩
  ·have HI:=zL (ak3 (c:=c) (by rw [<-HCW.o];exact .inl hh))
   exact zDx
  ·have HI:=zL (ak3 (c:=c) (by rw [<-HCW.o];exact .inr (.inl hh)))
   exact zDx
  ·have HI:=zL (ak3 (c:=c) (by rw [<-HCW.o];exact .inr (.inr (.inl hh))))
   exact zDx
  ·have HI:=zL (ak3 (c:=c) (by rw [<-HCW.o];exact .inr (.inr (.inr (hh)))))
   exact zDx
  ·have HI:=zL (a0A (c:=c) zBv)
   have HNL:=zM (cw≠qY) (λe=>hh (.inr (.inl e)))
   clear hh
   go_wp2_with fail
   go_meet
   exact ⟨by rw [z6 HNL.o],by rw [HI.o],rfl⟩
 case rest=>
  obtain ⟨rfl,rfl,rfl⟩:=hcut
  have ho:(if cw=qY then cw++ByteArray.mk #[32]++ck else cw)=jr c 0:=by
   by_cases hl:cw=qY
   ·rw [zp hl,arB (by rw [<-HCW.o];exact hl),<-HCW.o,<-HCK.o]
   ·rw [z6 hl,arC (by rw [<-HCW.o];exact hl),<-HCW.o]
  rw [ho]
  clear ho
  have z0:=BX.o.size
  cases hb:jc c with
  |false=>
   have HNO:=zL (ji (c:=c) (λhc=>by have:=hc.1;rw [hb] at this;cases this))
   clear hb
   go_wp2_with fail
   go_ret2
   rw [HNO.o]
   exact ⟨rfl,BX.o⟩
  |true=>
   have HB:=zL hb
   clear hb
   go_wp2_with fail
   go_loopw [5,7] (λov jv wr=>∃j:Nat,j<=L/\ov=.string (jr c j)/\jv=.int .i64 j/\inK (wR c.w) c.n j/\Below wc.heap.size wc wr) (λ_ jv _=>L - (intOf jv).toNat)
   case atStart=>exact ⟨0,zAK _,rfl,rfl,λi _ h0=>zAv h0 (Nat.not_lt_zero _),zAA _ _⟩
   case round=>
    obtain ⟨j,hj,rfl,rfl,hin,kw⟩:=hrel
    have HIN:=zL hin
    have KW:=zL kw
    by_cases hjl:j<L
    ·have hjn:j<c.n.length:=by have:=HL.o;omega
     obtain ⟨b,o,rfl,hbl,e0⟩:=RdI.get HRD.o hjn
     obtain ⟨y,hy⟩:∃y,y=c.n[j]:=⟨_,rfl⟩
     rw [<-hy] at e0
     have hy64:i64 y:=H64.o y (by rw [hy];exact zd hjn)
     have e1:wr.cell? ⟨b,o+j,none⟩=some (.int .i64 y):=(kw.cell (p:=⟨b,o+j,none⟩) (zAG hbl z0)).trans e0
     have lbl:lb<wc.heap.size:=by
      have h8:=HX.o
      rw [h8,HLB.o]
      simp
     have f0:wr.cell? ⟨lb,0,none⟩=some (.string cw):=(kw.cell (p:=⟨lb,0,none⟩) lbl).trans d0
     have f2:wr.cell? ⟨lb,2,none⟩=some (.slice (some ⟨b,o,none⟩) L cap):=(kw.cell (p:=⟨lb,2,none⟩) lbl).trans d2
     have HY:=zL hy
     obtain ⟨P,hP⟩:∃P,P=jr c j:=⟨_,rfl⟩
     have HP:=zL hP
     have hps:P.size<=561:=by rw [hP];have:=HPS.o j zO;omega
     rw [<-hP]
     have q1:(j:Int)<(L:Int):=zO
     have q2:(0:Int)<=(j:Int):=zO
     obtain ⟨y0,y1⟩:=hy64
     clear e0 hy hP kw hin
     go_upto_region 27 with fail
     go_cut [77] from 56 to 101 (λs77 wx=>s77=.bool (decide (j=0/\(cw=qz\/cw=wAt\/cw=qH)))/\wx=wr)
     case first=>
      by_cases hj0:j=0
      ·subst hj0
       rcases wordE cw with ⟨hh,u1⟩|⟨hh,u1,u2⟩|⟨hh,u1,u2,u3⟩|⟨hh,u1,u2,u3,u4⟩|⟨hh,u1,u2,u3,u4,u5⟩|⟨hh,u1,u2,u3,u4,u5,u6⟩|⟨hh,u1,u2,u3,u4,u5,u6,u7⟩|⟨hh,u1,u2,u3,u4,u5,u6,u7,u8⟩|⟨hh,u1,u2,u3,u4,u5,u6,u7,u8,u9⟩|⟨hh,u1,u2,u3,u4,u5,u6,u7,u8,u9⟩
       ·have E1:(cw.toList==([112,97,99,107,101,116]:List UInt8))=false:=by rw [hh];exact tl_ne (b:=qz) zA4
        have E2:(cw.toList==([97,116]:List UInt8))=false:=by rw [hh];exact tl_ne (b:=wAt) zA4
        have E3:(cw.toList==([99,117,114,118,101]:List UInt8))=true:=by rw [hh];exact yP qH
        have HE:=zM (decide ((0:Nat)=0/\(cw=qz\/cw=wAt\/cw=qH))=true) zBa
        exact zDf
       ·have E1:(cw.toList==([112,97,99,107,101,116]:List UInt8))=false:=by rw [hh];exact tl_ne (b:=qz) zA4
        exact zDM
       ·have E1:(cw.toList==([112,97,99,107,101,116]:List UInt8))=false:=by rw [hh];exact tl_ne (b:=qz) zA4
        exact zDM
       ·have E1:(cw.toList==([112,97,99,107,101,116]:List UInt8))=true:=by rw [hh];exact yP qz
        have E2:(cw.toList==([97,116]:List UInt8))=false:=by rw [hh];exact tl_ne (b:=wAt) zA4
        exact zEX
       ·have E1:(cw.toList==([112,97,99,107,101,116]:List UInt8))=false:=by rw [hh];exact tl_ne (b:=qz) zA4
        have E2:(cw.toList==([97,116]:List UInt8))=true:=by rw [hh];exact yP wAt
        exact zEX
       ·have E1:(cw.toList==([112,97,99,107,101,116]:List UInt8))=false:=by rw [hh];exact tl_ne (b:=qz) zA4
        exact zDM
       ·have E1:(cw.toList==([112,97,99,107,101,116]:List UInt8))=false:=by rw [hh];exact tl_ne (b:=qz) zA4
        exact zDM
       ·have E1:(cw.toList==([112,97,99,107,101,116]:List UInt8))=false:=by rw [hh];exact tl_ne (b:=qz) zA4
        exact zDM
       ·have E1:(cw.toList==([112,97,99,107,101,116]:List UInt8))=false:=by rw [hh];exact tl_ne (b:=qz) zA4
        exact zDM
       ·have HE:=zM (decide ((0:Nat)=0/\(cw=qz\/cw=wAt\/cw=qH))=false) (zAH (λe=>hh (by rcases e.2 with e|e|e<;>(rw [e];simp [wordIs]))))
        exact zDf
      ·have j0:((j:Int)==0)=false:=beq_eq_false_iff_ne.2 zO
       have HE:=zM (decide (j=0/\(cw=qz\/cw=wAt\/cw=qH))=false) (zAH (λe=>hj0 e.1))
       have HJ0:=zL hj0
       clear hj0
       go_wp2_with fail
       go_meet
       exact ⟨by rw [HE.o],rfl⟩
     case rest=>
      obtain ⟨rfl,rfl⟩:=hcut
      by_cases hm:j=0/\(cw=qz\/cw=wAt\/cw=qH)
      ·rw [zAI hm]
       have HMO:=zM ((if j=0 then wR c.w else 9999999)=9) (by rw [zp hm.1];unfold wR;rw [<-HCW.o,zp hm.2])
       clear hm
       by_cases hy0:y<0
       ·have HNO:=zL (ji (c:=c) (λhc=>by
         have h7:=(adX.2 hc.2) j hjn zO
         rw [<-HY.o] at h7
         have h8:=HMO.o
         omega))
        exact zD6
       ·by_cases hym:9<y
        ·have HNO:=zL (ji (c:=c) (λhc=>by
          have h7:=(adX.2 hc.2) j hjn zO
          rw [<-HY.o] at h7
          have h8:=HMO.o
          omega))
         exact zD6
        ·exact zDT
      ·rw [zAH hm]
       have HMO:=zL (show (if j=0 then wR c.w else 9999999)=9999999 by
        by_cases hj0:j=0
        ·rw [zp hj0];unfold wR;rw [<-HCW.o,z6 (λe=>hm ⟨hj0,e⟩)]
        ·rw [z6 hj0])
       clear hm
       by_cases hy0:y<0
       ·have HNO:=zL (ji (c:=c) (λhc=>by
         have h7:=(adX.2 hc.2) j hjn zO
         rw [<-HY.o] at h7
         have h8:=HMO.o
         omega))
        exact zD6
       ·by_cases hym:9999999<y
        ·have HNO:=zL (ji (c:=c) (λhc=>by
          have h7:=(adX.2 hc.2) j hjn zO
          rw [<-HY.o] at h7
          have h8:=HMO.o
          omega))
         exact zD6
        ·exact zDT
    ·obtain rfl:j=L:=by omega
     have HYS:=zL (acE (c:=c) ⟨HB.o,by rw [HL.o] at hin;exact adX.1 hin⟩)
     have HPA:=zM (jr c j=cmB c) (by rw [HL.o];exact aj4 c)
     clear hin kw
     go_wp2_with fail
     go_ret2
     rw [HYS.o,HPA.o]
     exact ⟨rfl,BX.o.trans (KW.o.mono BX.o.size)⟩
end
end Go.Proofs.YtoomffajodheaaaGreatDoor
