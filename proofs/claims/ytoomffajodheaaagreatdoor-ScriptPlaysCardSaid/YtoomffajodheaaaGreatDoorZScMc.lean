/- The proof of ScriptPlays, part ScMc. Conditions: in each statement. -/
import Derived.Test.YtoomffajodheaaaGreatDoorZScMb
set_option linter.all false
namespace Go.Proofs.YtoomffajodheaaaGreatDoor
open Go.RowKit
set_option maxRecDepth 100000
theorem zA6{p:Prop}(h:p:=by rw [hw];decide):p:=h
theorem zBJ{p:Prop}(h:p:=by have:=HLN.o;omega):p:=h
theorem zBo{p:Prop}(h:p:=by have:=HL.o;omega):p:=h
theorem zBs{p:Prop}(h:p:=by have:=HN0.o _ (zd (show 0<n.length by have:=HLN.o;omega));simpa [List.getD,show 0<n.length by have:=HLN.o;omega] using this):p:=h
theorem zBt{p:Prop}(h:p:=by rw [hy];simp [List.getD,show 0<n.length by have:=HLN.o;omega]):p:=h
theorem zCH{p:Prop}(h:p:=by have:=HNL.o;have:=HDL.o;omega):p:=h
theorem zCs{p:Prop}(h:p:=by rw [HR.o,hn]):p:=h
theorem zDE{p:Prop}(h:p:=by
 go_enter Tryz.func41,Tryz.ntmps41
 go_wp2_with fail
 go_region
 all_goals
  go_wp2_with fail
  go_ret2
  rw [HR.o]
  exact ⟨_,_,_,rfl,.bare 1 zO zO,λh9=>zAv (show (1:Nat)=0 from h9) zO,HM.o.but ((zAA _ _).drew),But.of_below ((zAA _ _).drew)⟩):p:=h
theorem zDG{p:Prop}(h:p:=by
 go_wp2_with fail
 refine HN2.o.mono ?_
 rintro e w2 ⟨A,c,rfl,or,k2⟩
 have K2:=zL (K1.o.trans (k2.mono K1.o.size))
 have f0:w2.cell? ⟨g,0,none⟩=some (.string a):=(k2.cell (p:=⟨g,0,none⟩) hg1).trans e0
 have HPL:=zL (adO F pb s S w2 B hpB (zAB hB K2.o.size) (HS.o.below (K2.o.mono hB)) (HM.o.but K2.o) (λb h9=>zAG (HF.o b h9) K2.o.size) HOK.o A c a l zCH HNN.o (Rd.qA or zO yJ) (λ_=>kJ or hgp (λb h9=>zAG (HF.o b h9) K1.o.size)))
 clear k2 or HN2 e0
 go_wp2_with fail
 refine HPL.o.mono ?_
 rintro e w3 ⟨tt,v,aa,rfl,hv,hte,hpm,hbt⟩
 have HV:=zL hv
 have HT:=zL hte
 have HP:=zL hpm
 have HB3:=zL hbt
 clear hv hte hpm hbt HPL f0
 go_wp2_with fail
 go_ret2
 rw [HR2.o]
 exact ⟨tt,v,aa,rfl,HV.o,HT.o,HP.o,(But.of_below K2.o).trans HB3.o⟩):p:=h
theorem zDR{p:Prop}(h:p:=by
 go_enter Tryz.func41,Tryz.ntmps41
 go_wp2_with fail
 refine (HCT.o).mono ?_
 rintro e w3 ⟨t,v,a,rfl,hv,ht,hpm,hbt⟩
 have HV:=zL hv
 have HT:=zL ht
 have HP:=zL hpm
 have HB3:=zL hbt
 clear hv ht hpm hbt HCT
 go_wp2_with fail
 go_ret2
 rw [HR.o]
 exact ⟨t,v,a,rfl,HV.o,HT.o,HP.o,HB3.o⟩):p:=h
theorem zDS{p:Prop}(h:p:=by
 go_wp2_with fail
 refine HN2.o.mono ?_
 rintro e w2 ⟨A,c,n,rfl,k2⟩
 have KX:=zL (K1.o.trans (k2.mono K1.o.size))
 have s1:=HS1.o _ KX.o
 clear k2 HN2 e0
 go_wp2_with fail
 go_region
 all_goals
  go_wp2_with fail
  go_ret2
  rw [HR2.o]
  exact ⟨_,_,_,rfl,.bare 1 zO zO,λh9=>zAv (show (1:Nat)=0 from h9) zO,HM.o.but KX.o.drew,But.of_below KX.o.drew⟩):p:=h
theorem zDX{p:Prop}(h:p:=by
 go_wp2_with fail
 go_region
 all_goals
  go_wp2_with fail
  go_ret2
  rw [HR2.o]
  exact ⟨_,_,_,rfl,.bare 1 zO zO,λh9=>zAv (show (1:Nat)=0 from h9) zO,HM.o.but KX.o.drew,But.of_below KX.o.drew⟩):p:=h
theorem zDZ{p:Prop}(h:p:=by
 have hpn:∀q,(Value.slice A1 r.length c1).ownBlock=some q->q≠pb:=λq e=>by have:=zH O5.o q e;have:=PB9.o;omega
 have hpm4:jD (ownB A6 (goS xm (ls.take (k+1))).length c6) w4 pb (jS xm (ls.take (k+1))):=by
  rw [(adZ hlt).2,HXX.o]
  refine jD.ae7 (PM5.o.but kA) CS8.o G4.o (λq hq9=>⟨hq9,hpn q hq9⟩) (λq hq9=>?_)
  have hq8:=AT4.o
  unfold ownB at hq9
  rw [<-hq] at hq9
  rw [hq9] at hq8
  rcases hq8 with h9|h9
  ·exact .inl h9.symm
  ·right
   injection h9 with h9
   omega
 have hbt4:But pb w9 w4:=But.grown (BT5.o.trans (But.of_below kA)) G4.o (zH O5.o)
 have HPM4:=zL hpm4
 have HBT4:=zL hbt4
 have HRW4:=zL hrow
 clear hlen hq hrow hpm4 hbt4 kA hpn
 go_wp2_with fail
 go_roundw
 case rel=>exact ⟨k+1,A6,c6,by omega,by first |rfl|rw [<-HLN.o],by go_num,HRW4.o,HPM4.o,HBT4.o⟩
 case measure=>simp [intOf];omega):p:=h
theorem zEP{p:Prop}(h:p:=by
 obtain ⟨hnl,hnn⟩:=alY hn
 have HNL:=zL hnl
 have HNN:=zL hnn
 clear HN hn hnl hnn
 rcases wLink_cases a with ⟨tl,-⟩|⟨tl,-⟩
 ·have l3:=HC.o tl
  exact zDG
 ·exact zDG):p:=h
theorem zEb{p:Prop}(h:p:=by
 have HL0:=zL hl
 clear hl
 have HW:=zL hw
 clear hw
 exact zDE):p:=h
theorem zEt{p:Prop}(h:p:=by
 have:xm.cs=List.replicate 8 []:=rfl
 simp only [this,List.getElem_replicate]):p:=h
theorem zEx{p:Prop}(h:p:=by
 rw [<-HLN.o] at HCT
 have HW:=zL hw
 clear hw
 exact zDR):p:=h
theorem zE2{p:Prop}(h:p:=by
 clear HN hn
 rcases wLink_cases a with ⟨tl,-⟩|⟨tl,-⟩
 ·have l3:=HC.o tl
  exact zDS
 ·exact zDS):p:=h
theorem word4 (word:ByteArray):(word=qH/\(word.toList==([99,117,114,118,101]:List UInt8))=true/\(word.toList==([110,117,109,98,101,114,115]:List UInt8))=false/\(word.toList==([112,97,99,107,101,116]:List UInt8))=false/\(word.toList==([97,116]:List UInt8))=false)\/(word=qJ/\(word.toList==([99,117,114,118,101]:List UInt8))=false/\(word.toList==([110,117,109,98,101,114,115]:List UInt8))=true/\(word.toList==([112,97,99,107,101,116]:List UInt8))=false/\(word.toList==([97,116]:List UInt8))=false)\/(word=qz/\(word.toList==([99,117,114,118,101]:List UInt8))=false/\(word.toList==([110,117,109,98,101,114,115]:List UInt8))=false/\(word.toList==([112,97,99,107,101,116]:List UInt8))=true/\(word.toList==([97,116]:List UInt8))=false)\/(word=wAt/\(word.toList==([99,117,114,118,101]:List UInt8))=false/\(word.toList==([110,117,109,98,101,114,115]:List UInt8))=false/\(word.toList==([112,97,99,107,101,116]:List UInt8))=false/\(word.toList==([97,116]:List UInt8))=true)\/(word≠qH/\word≠qJ/\word≠qz/\word≠wAt/\(word.toList==([99,117,114,118,101]:List UInt8))=false/\(word.toList==([110,117,109,98,101,114,115]:List UInt8))=false/\(word.toList==([112,97,99,107,101,116]:List UInt8))=false/\(word.toList==([97,116]:List UInt8))=false):=by
 by_cases h0:word=qH
 ·subst h0
  exact .inl ⟨rfl,yP qH,tl_ne (a:=qH) (b:=qJ) zA4,tl_ne (a:=qH) (b:=qz) zA4,tl_ne (a:=qH) (b:=wAt) zA4⟩
 by_cases h1:word=qJ
 ·subst h1
  exact .inr (.inl ⟨rfl,tl_ne (a:=qJ) (b:=qH) zA4,yP qJ,tl_ne (a:=qJ) (b:=qz) zA4,tl_ne (a:=qJ) (b:=wAt) zA4⟩)
 by_cases h2:word=qz
 ·subst h2
  exact .inr (.inr (.inl ⟨rfl,tl_ne (a:=qz) (b:=qH) zA4,tl_ne (a:=qz) (b:=qJ) zA4,yP qz,tl_ne (a:=qz) (b:=wAt) zA4⟩))
 by_cases h3:word=wAt
 ·subst h3
  exact .inr (.inr (.inr (.inl ⟨rfl,tl_ne (a:=wAt) (b:=qH) zA4,tl_ne (a:=wAt) (b:=qJ) zA4,tl_ne (a:=wAt) (b:=qz) zA4,yP wAt⟩)))
 exact .inr (.inr (.inr (.inr ⟨h0,h1,h2,h3,tl_ne (b:=qH) h0,tl_ne (b:=qJ) h1,tl_ne (b:=qz) h2,tl_ne (b:=wAt) h3⟩)))
theorem bare4 (word:ByteArray):(word=zm/\(word.toList==([99,108,101,97,114]:List UInt8))=true/\(word.toList==([114,117,110]:List UInt8))=false/\(word.toList==([119,111,114,115,116]:List UInt8))=false/\(word.toList==([98,111,117,110,100]:List UInt8))=false)\/(word=xG/\(word.toList==([99,108,101,97,114]:List UInt8))=false/\(word.toList==([114,117,110]:List UInt8))=true/\(word.toList==([119,111,114,115,116]:List UInt8))=false/\(word.toList==([98,111,117,110,100]:List UInt8))=false)\/(word=qZ/\(word.toList==([99,108,101,97,114]:List UInt8))=false/\(word.toList==([114,117,110]:List UInt8))=false/\(word.toList==([119,111,114,115,116]:List UInt8))=true/\(word.toList==([98,111,117,110,100]:List UInt8))=false)\/(word=ze/\(word.toList==([99,108,101,97,114]:List UInt8))=false/\(word.toList==([114,117,110]:List UInt8))=false/\(word.toList==([119,111,114,115,116]:List UInt8))=false/\(word.toList==([98,111,117,110,100]:List UInt8))=true)\/(word≠zm/\word≠xG/\word≠qZ/\word≠ze/\(word.toList==([99,108,101,97,114]:List UInt8))=false/\(word.toList==([114,117,110]:List UInt8))=false/\(word.toList==([119,111,114,115,116]:List UInt8))=false/\(word.toList==([98,111,117,110,100]:List UInt8))=false):=by
 by_cases h0:word=zm
 ·subst h0
  exact .inl ⟨rfl,yP zm,tl_ne (a:=zm) (b:=xG) zA4,tl_ne (a:=zm) (b:=qZ) zA4,tl_ne (a:=zm) (b:=ze) zA4⟩
 by_cases h1:word=xG
 ·subst h1
  exact .inr (.inl ⟨rfl,tl_ne (a:=xG) (b:=zm) zA4,yP xG,tl_ne (a:=xG) (b:=qZ) zA4,tl_ne (a:=xG) (b:=ze) zA4⟩)
 by_cases h2:word=qZ
 ·subst h2
  exact .inr (.inr (.inl ⟨rfl,tl_ne (a:=qZ) (b:=zm) zA4,tl_ne (a:=qZ) (b:=xG) zA4,yP qZ,tl_ne (a:=qZ) (b:=ze) zA4⟩))
 by_cases h3:word=ze
 ·subst h3
  exact .inr (.inr (.inr (.inl ⟨rfl,tl_ne (a:=ze) (b:=zm) zA4,tl_ne (a:=ze) (b:=xG) zA4,tl_ne (a:=ze) (b:=qZ) zA4,yP ze⟩)))
 exact .inr (.inr (.inr (.inr ⟨h0,h1,h2,h3,tl_ne (b:=zm) h0,tl_ne (b:=xG) h1,tl_ne (b:=qZ) h2,tl_ne (b:=ze) h3⟩)))
section
variable (F:Nat->Prop) (pb:Nat) (s:Sc) (S:Nat->Addr) (w:World) (B:Nat) (hpB:B<=pb) (hB:B<=w.heap.size) (hS:SX w B S) (hm:jD F w pb s) (hF:∀b,F b->b<w.heap.size) (hok:s.ok)
include hpB hB hS hm hF hok
set_option maxHeartbeats 16000000 in
theorem adO (A':Option Addr) (c':Nat) (word:ByteArray) (n:List Int) (hn8:n.length<=1000000) (hn0:∀x∈n,0<=x) (hr:RdI w w.heap.size A' n) (hnb:0<n.length->ul F pb A'):
 Calls Tryz.prog 41 #[.pointer (some ⟨pb,0,none⟩),.string word,.slice A' n.length c'] w (aeK F pb S (zA s word n) w):=by
 have HM:=zL hm
 have HF:=zL hF
 clear hF
 have s1:=(hS.s1 1 zA1).2.2
 simp only [G,sv] at s1
 obtain ⟨L,hL⟩:∃L,L=n.length:=⟨_,rfl⟩
 have HLN:=zL hL
 have HR8:=zL hn8
 have HN0:=zL hn0
 have HRD:=zL hr
 have HNB:=zL hnb
 have HOK:=zL hok
 have HS:=zL hS
 clear hn8 hn0 hr hnb hok hm
 rw [<-hL]
 clear hL
 rcases word4 word with ⟨hw,t1,t2,t3,t4⟩|⟨hw,t1,t2,t3,t4⟩|⟨hw,t1,t2,t3,t4⟩|⟨hw,t1,t2,t3,t4⟩|⟨hne1,hne2,hne3,hne4,t1,t2,t3,t4⟩
 ·rcases Nat.eq_zero_or_pos L with hl|hl
  ·have l0:¬(0:Int)<(L:Int):=by omega
   have u1:(word.toList==([99,108,101,97,114]:List UInt8))=false:=tl_ne (b:=zm) zA6
   have u2:(word.toList==([114,117,110]:List UInt8))=false:=tl_ne (b:=xG) zA6
   have u3:(word.toList==([119,111,114,115,116]:List UInt8))=false:=tl_ne (b:=qZ) zA6
   have u4:(word.toList==([98,111,117,110,100]:List UInt8))=false:=tl_ne (b:=ze) zA6
   have HR:=zM (zA s word n=noS s) (by unfold zA uE;rw [z6 (λh=>by have:=HLN.o;have:=h.2.1;omega),z6 (λh=>zAv h.1 zA6),z6 (λh=>zAv h.1 zA6),z6 (λh=>zAv h.1 zA6),z6 zBJ,z6 zA6,z6 zA6,z6 zA6,z6 zA6])
   exact zEb
  ·have l0:(0:Int)<(L:Int):=by omega
   obtain ⟨b,o,rfl,hb,e0⟩:=RdI.get HRD.o (i:=0) zBJ
   obtain ⟨y,hy⟩:∃y,y=n.getD 0 0:=⟨_,rfl⟩
   have g0:n[0]' zBJ=y:=zBt
   rw [g0] at e0
   simp only [Nat.add_zero] at e0
   have HY:=zL hy
   clear hy g0
   by_cases hy:y<10
   ·have HR:=zM (zA s word n=curveS s n) (by unfold zA;rw [zp ⟨hw,by have:=HLN.o;omega,by have:=HY.o;omega⟩])
    have HCT:=zL (auJ F pb s S w B hpB hB HS.o HM.o HF.o HOK.o (some ⟨b,o,none⟩) c' n zBJ HR8.o zBs HRD.o (HNB.o zBJ))
    exact zEx
   ·have hy2:10<=y:=by omega
    have HR:=zM (zA s word n=noS s) (by unfold zA;rw [z6 (λh=>by have:=HY.o;have:=h.2.2;omega),z6 (λh=>zAv h.1 zA6),z6 (λh=>zAv h.1 zA6),z6 (λh=>zAv h.1 zA6),zp zBJ])
    have HW:=zL hw
    clear hw
    exact zDE
 ·rcases Nat.eq_zero_or_pos L with hl|hl
  ·have l0:¬(0:Int)<(L:Int):=by omega
   have u1:(word.toList==([99,108,101,97,114]:List UInt8))=false:=tl_ne (b:=zm) zA6
   have u2:(word.toList==([114,117,110]:List UInt8))=false:=tl_ne (b:=xG) zA6
   have u3:(word.toList==([119,111,114,115,116]:List UInt8))=false:=tl_ne (b:=qZ) zA6
   have u4:(word.toList==([98,111,117,110,100]:List UInt8))=false:=tl_ne (b:=ze) zA6
   have l1:¬(L:Int)=8:=zO
   have HR:=zM (zA s word n=noS s) (by unfold zA uE;rw [z6 (λh=>zAv h.1 zA6),z6 (λh=>by have:=HLN.o;have:=h.2;omega),z6 (λh=>zAv h.1 zA6),z6 (λh=>zAv h.1 zA6),z6 zBJ,z6 zA6,z6 zA6,z6 zA6,z6 zA6])
   exact zEb
  ·have l0:(0:Int)<(L:Int):=by omega
   by_cases hlN:L=8
   ·subst hlN
    have HR:=zM (zA s word n=yC s ⟨s.cs,s.K,s.per,n,s.p⟩) (by unfold zA;rw [z6 (λh=>zAv h.1 zA6),zp ⟨hw,HLN.o.symm⟩])
    have HW:=zL hw
    clear hw
    obtain ⟨Ac,cc,An,cn,Ap,cp,h1,h2,h3,h4,h5,h6,h7⟩:=HM.o
    have c0:=h1.cell 0
    have c1:=h1.cell 1
    have c2:=h1.cell 2
    have c3:=h1.cell 3
    simp only [zc,zE,zj] at c0 c1 c2 c3
    obtain ⟨X,hX⟩:∃X:World,X=w.alloc (.cells #[.slice Ac s.cs.length cc,.string s.K,.int .i64 s.per,.slice An s.ns.length cn] 66):=⟨_,rfl⟩
    obtain ⟨gb,hgb⟩:∃gb,gb=w.heap.size:=⟨_,rfl⟩
    have bX:Below w.heap.size w X:=zBA
    have xX:Blk X gb 66 #[.slice Ac s.cs.length cc,.string s.K,.int .i64 s.per,.slice An s.ns.length cn]:=by rw [hX,hgb];exact Blk.new _ _ _
    obtain ⟨X2,hX2⟩:∃X2:World,X2=X.setCell ⟨gb,3,none⟩ (.slice A' 8 c'):=⟨_,rfl⟩
    have hge:w.heap.size<=gb:=by rw [hgb];exact zD _
    have bX2:Below w.heap.size w X2:=by rw [hX2];exact bX.setCell (p:=⟨gb,3,none⟩) hge _
    have xX2:Blk X2 gb 66 #[.slice Ac s.cs.length cc,.string s.K,.int .i64 s.per,.slice A' 8 c']:=by rw [hX2];exact xX.qi 3 _
    have d3:=xX.cell 3
    have z3:=xX.frozen 3
    simp only [zc,zE,zj] at d3
    have HX:=zL hX
    have HX2:=zL hX2
    have HGB:=zL hgb
    have BX2:=zL bX2
    have XX2:=zL xX2
    obtain ⟨h80,hll⟩:=HOK.o.ll
    have HBC:=ac8 F pb s S X2 B hpB (zAB hB BX2.o.size) (HS.o.below (BX2.o.mono hB)) (HM.o.but BX2.o) (λb h9=>zAG (HF.o b h9) BX2.o.size) Ac A' cc c' s.cs s.K s.per n h2 (h3.but (But.of_below BX2.o)) (Rd.but HRD.o (But.of_below (g:=pb) BX2.o) HNB.o) HNB.o hll (by have:=HR8.o;omega)
    rw [<-HLN.o] at HBC
    have HCT:=zL HBC
    clear hX hX2 hgb bX bX2 xX xX2 hll h1 h2 h3 h4 h5 h6 h7 HBC h80
    go_enter Tryz.func41,Tryz.ntmps41
    go_upto_region 6 with fail
    rw [<-HGB.o]
    rw [HGB.o,<-HX.o,<-HGB.o]
    clear c0 c1 c2 c3
    go_upto_region 7 with fail
    rw [<-HX2.o]
    clear d3 z3
    have e0:=XX2.o.cell 0
    have e1:=XX2.o.cell 1
    have e2:=XX2.o.cell 2
    have e3:=XX2.o.cell 3
    simp only [zc,zE,zj] at e0 e1 e2 e3
    go_wp2_with fail
    refine (HCT.o).mono ?_
    rintro e w3 ⟨t,v,a,rfl,hv,ht,hpm,hbt⟩
    have HV:=zL hv
    have HT:=zL ht
    have HP:=zL hpm
    have HB3:=zL hbt
    clear hv ht hpm hbt HCT e0 e1 e2 e3
    exact zE8
   ·have l1:¬(L:Int)=8:=by omega
    have HL1:=zL hlN
    clear hlN
    have HR:=zM (zA s word n=noS s) (by unfold zA;rw [z6 (λh=>zAv h.1 zA6),z6 (λh=>HL1.o (by have:=HLN.o;have:=h.2;omega)),z6 (λh=>zAv h.1 zA6),z6 (λh=>zAv h.1 zA6),zp zBJ])
    have HW:=zL hw
    clear hw
    exact zDE
 ·rcases Nat.eq_zero_or_pos L with hl|hl
  ·have l0:¬(0:Int)<(L:Int):=by omega
   have u1:(word.toList==([99,108,101,97,114]:List UInt8))=false:=tl_ne (b:=zm) zA6
   have u2:(word.toList==([114,117,110]:List UInt8))=false:=tl_ne (b:=xG) zA6
   have u3:(word.toList==([119,111,114,115,116]:List UInt8))=false:=tl_ne (b:=qZ) zA6
   have u4:(word.toList==([98,111,117,110,100]:List UInt8))=false:=tl_ne (b:=ze) zA6
   have l1:¬(L:Int)=3:=zO
   have HR:=zM (zA s word n=noS s) (by unfold zA uE;rw [z6 (λh=>zAv h.1 zA6),z6 (λh=>zAv h.1 zA6),z6 (λh=>by have:=HLN.o;have:=h.2.1;omega),z6 (λh=>zAv h.1 zA6),z6 zBJ,z6 zA6,z6 zA6,z6 zA6,z6 zA6])
   exact zEb
  ·have l0:(0:Int)<(L:Int):=by omega
   by_cases hlN:L=3
   ·subst hlN
    obtain ⟨b,o,rfl,hb,e0⟩:=RdI.get HRD.o (i:=0) zBJ
    obtain ⟨y,hy⟩:∃y,y=n.getD 0 0:=⟨_,rfl⟩
    have g0:n[0]' zBJ=y:=zBt
    rw [g0] at e0
    simp only [Nat.add_zero] at e0
    have HY:=zL hy
    clear hy g0
    by_cases hy:y<10
    ·have HR:=zM (zA s word n=vJ s n) (by unfold zA;rw [z6 (λh=>zAv h.1 zA6),z6 (λh=>zAv h.1 zA6),zp ⟨hw,HLN.o.symm,by have:=HY.o;omega⟩])
     have HCT:=zL (aoP F pb s S w B hpB hB HS.o HM.o HF.o HOK.o (some ⟨b,o,none⟩) c' n HLN.o.symm HRD.o)
     exact zEx
    ·have hy2:10<=y:=by omega
     have HR:=zM (zA s word n=noS s) (by unfold zA;rw [z6 (λh=>zAv h.1 zA6),z6 (λh=>zAv h.1 zA6),z6 (λh=>by have:=HY.o;have:=h.2.2;omega),z6 (λh=>zAv h.1 zA6),zp zBJ])
     have HW:=zL hw
     clear hw
     exact zDE
   ·have l1:¬(L:Int)=3:=by omega
    have HL1:=zL hlN
    clear hlN
    have HR:=zM (zA s word n=noS s) (by unfold zA;rw [z6 (λh=>zAv h.1 zA6),z6 (λh=>zAv h.1 zA6),z6 (λh=>HL1.o (by have:=HLN.o;have:=h.2.1;omega)),z6 (λh=>zAv h.1 zA6),zp zBJ])
    have HW:=zL hw
    clear hw
    exact zDE
 ·rcases Nat.eq_zero_or_pos L with hl|hl
  ·have l0:¬(0:Int)<(L:Int):=by omega
   have u1:(word.toList==([99,108,101,97,114]:List UInt8))=false:=tl_ne (b:=zm) zA6
   have u2:(word.toList==([114,117,110]:List UInt8))=false:=tl_ne (b:=xG) zA6
   have u3:(word.toList==([119,111,114,115,116]:List UInt8))=false:=tl_ne (b:=qZ) zA6
   have u4:(word.toList==([98,111,117,110,100]:List UInt8))=false:=tl_ne (b:=ze) zA6
   have l1:¬(L:Int)=2:=zO
   have HR:=zM (zA s word n=noS s) (by unfold zA uE;rw [z6 (λh=>zAv h.1 zA6),z6 (λh=>zAv h.1 zA6),z6 (λh=>zAv h.1 zA6),z6 (λh=>by have:=HLN.o;have:=h.2.1;omega),z6 zBJ,z6 zA6,z6 zA6,z6 zA6,z6 zA6])
   exact zEb
  ·have l0:(0:Int)<(L:Int):=by omega
   by_cases hlN:L=2
   ·subst hlN
    obtain ⟨b,o,rfl,hb,e0⟩:=RdI.get HRD.o (i:=0) zBJ
    obtain ⟨y,hy⟩:∃y,y=n.getD 0 0:=⟨_,rfl⟩
    have g0:n[0]' zBJ=y:=zBt
    rw [g0] at e0
    simp only [Nat.add_zero] at e0
    have HY:=zL hy
    clear hy g0
    by_cases hy:y<10
    ·have HR:=zM (zA s word n=afJ s n) (by unfold zA;rw [z6 (λh=>zAv h.1 zA6),z6 (λh=>zAv h.1 zA6),z6 (λh=>zAv h.1 zA6),zp ⟨hw,HLN.o.symm,by have:=HY.o;omega⟩])
     have HCT:=zL (ay8 F pb s S w B hpB hB HS.o HM.o HF.o HOK.o (some ⟨b,o,none⟩) c' n HLN.o.symm zBs HRD.o)
     exact zEx
    ·have hy2:10<=y:=by omega
     have HR:=zM (zA s word n=noS s) (by unfold zA;rw [z6 (λh=>zAv h.1 zA6),z6 (λh=>zAv h.1 zA6),z6 (λh=>zAv h.1 zA6),z6 (λh=>by have:=HY.o;have:=h.2.2;omega),zp zBJ])
     have HW:=zL hw
     clear hw
     exact zDE
   ·have l1:¬(L:Int)=2:=by omega
    have HL1:=zL hlN
    clear hlN
    have HR:=zM (zA s word n=noS s) (by unfold zA;rw [z6 (λh=>zAv h.1 zA6),z6 (λh=>zAv h.1 zA6),z6 (λh=>zAv h.1 zA6),z6 (λh=>HL1.o (by have:=HLN.o;have:=h.2.1;omega)),zp zBJ])
    have HW:=zL hw
    clear hw
    exact zDE
 ·rcases Nat.eq_zero_or_pos L with hl|hl
  ·have l0:¬(0:Int)<(L:Int):=by omega
   have HPB:=zM (zA s word n=uE s word) (by unfold zA;rw [z6 (λh=>hne1 h.1),z6 (λh=>hne2 h.1),z6 (λh=>hne3 h.1),z6 (λh=>hne4 h.1),z6 zBJ])
   have HL0:=zL hl
   clear hl hne1 hne2 hne3 hne4
   rcases bare4 word with ⟨hw,u1,u2,u3,u4⟩|⟨hw,u1,u2,u3,u4⟩|⟨hw,u1,u2,u3,u4⟩|⟨hw,u1,u2,u3,u4⟩|⟨hne1,hne2,hne3,hne4,u1,u2,u3,u4⟩
   ·have HR:=zM (zA s word n=((0,okT),{s with p:=[]})) (by rw [HPB.o];unfold uE;rw [zp hw])
    have HW:=zL hw
    clear hw
    obtain ⟨Ac,cc,An,cn,Ap,cp,h1,h2,h3,h4,h5,h6,h7⟩:=HM.o
    have d4:=h1.cell 4
    have z4:=h1.frozen 4
    simp only [zc,zE,zj] at d4
    have hb1:But pb w (w.setCell ⟨pb,4,none⟩ (.slice none 0 0)):=But.set1 w 4 _
    have HPM:=zM (jD F (w.setCell ⟨pb,4,none⟩ (.slice none 0 0)) pb {s with p:=[]}) (⟨Ac,cc,An,cn,none,0,h1.qi 4 _,h2,h3.but hb1,Rd.but h4 hb1 h5,h5,Rd.ui,λ_=>ul.none_ F pb⟩)
    have HB2:=zL hb1
    clear h1 h2 h3 h4 h5 h6 h7 hb1
    go_enter Tryz.func41,Tryz.ntmps41
    exact zEW
   ·have HR:=zM (zA s word n=abR s) (by rw [HPB.o];unfold uE;rw [z6 zA6,zp hw])
    have HW:=zL hw
    clear hw
    have HCT:=zL (ayX F pb s S w B hpB hB HS.o HM.o HF.o HOK.o)
    exact zDR
   ·have HR:=zM (zA s word n=aaM s) (by rw [HPB.o];unfold uE;rw [z6 zA6,z6 zA6,zp hw])
    have HW:=zL hw
    clear hw
    have HCT:=zL (arK F pb s S w B hpB hB HS.o HM.o HF.o HOK.o)
    exact zDR
   ·have HR:=zM (zA s word n=uu s) (by rw [HPB.o];unfold uE;rw [z6 zA6,z6 zA6,z6 zA6,zp hw])
    have HW:=zL hw
    clear hw
    obtain ⟨Ac,cc,An,cn,Ap,cp,h1,h2,h3,h4,h5,h6,h7⟩:=HM.o
    have c0:=h1.cell 0
    have c1:=h1.cell 1
    have c2:=h1.cell 2
    have c3:=h1.cell 3
    simp only [zc,zE,zj] at c0 c1 c2 c3
    obtain ⟨h80,hll⟩:=HOK.o.ll
    have HCT:=zL (auP Ac An cc cn s.cs s.K s.per s.ns S w w.heap.size (zD _) h3.ll h4 (hS.gs.more hB) hll (by have:=HOK.o.ns;omega) h2)
    clear h1 h2 h3 h4 h5 h6 h7 hll h80
    go_enter Tryz.func41,Tryz.ntmps41
    go_wp2_with fail
    refine (HCT.o).mono ?_
    rintro e w9 ⟨v9,rfl,e9,k9⟩
    have HV:=zL e9
    have K9:=zL k9
    clear e9 k9 HCT c0 c1 c2 c3
    go_wp2_with fail
    refine (Tryz.strconv_Itoa (ac7 s.cs (qg s.K) s.per s.ns) (aeC _ _ _ _).1 (aeC _ _ _ _).2 w9 (HS.o.below (K9.o.mono hB)).tab).mono ?_
    rintro e w2 ⟨rfl,k2,os,rfl⟩
    go_wp2_with fail
    go_ret2
    rw [HR.o]
    have KS:=jA w9 k2 os
    exact ⟨_,_,_,rfl,(HV.o.below KS).more KS.size,λh9=>rfl,HM.o.but (K9.o.trans (KS.mono K9.o.size)),But.of_below (K9.o.trans (KS.mono K9.o.size))⟩
   ·have HR:=zM (zA s word n=noS s) (by rw [HPB.o];unfold uE;rw [z6 hne1,z6 hne2,z6 hne3,z6 hne4])
    clear hne1 hne2 hne3 hne4
    exact zDE
  ·have l0:(0:Int)<(L:Int):=by omega
   have HR:=zM (zA s word n=noS s) (by unfold zA;rw [z6 (λh=>hne1 h.1),z6 (λh=>hne2 h.1),z6 (λh=>hne3 h.1),z6 (λh=>hne4 h.1),zp zBJ])
   clear hne1 hne2 hne3 hne4
   exact zDE
end
theorem a0Z {s x:List UInt8} (h:x∈sp s):x.length<=s.length:=by
 induction s generalizing x with
 |nil=>simp [sp] at h;rw [h];exact zD _
 |cons c r ih=>
  unfold sp at h
  split at h
  ·rcases zAM.1 h with h|h
   ·rw [h];exact zAK _
   ·have:=ih h;simp only [zAL];omega
  ·split at h
   ·rename_i e;exact zAv e (sp_ne r)
   ·rename_i v vs e
    rw [e] at ih
    rcases zAM.1 h with h|h
    ·have:=ih (x:=v) zAD
     rw [h]
     simp only [zAL]
     omega
    ·have:=ih (x:=x) (zAJ _ h)
     simp only [zAL]
     omega
theorem anK {t x:ByteArray} (h:x∈wordsL t):x.size<=t.size:=by
 have h1:x.data.toList∈(wordsL t).map (·.data.toList):=zAT.2 ⟨x,h,rfl⟩
 rw [afQ] at h1
 have:=a0Z h1
 simpa using this
theorem aiW (t:ByteArray):(wordsL t).length=Lib.countB t spW+1/\(wordsL t).length<=t.size+1:=by
 have h1:(wordsL t).length=Lib.countB t spW+1:=Lib.splitB_all spW zA4 0 _ t rfl
 have h2:=Lib.countB_le spW zA4 _ t (zD _)
 exact ⟨h1,by omega⟩
theorem ar2 (t:ByteArray) (S:Nat->Addr) (w:World) (B:Nat) (hS:SX w B S) (ht:t.size<=1000):
 Calls Tryz.prog 36 #[.string t,.string spW] w λe w'=>e=.returned (.slice (some ⟨w.heap.size,0,none⟩) (wordsL t).length (wordsL t).length)/\RdB w' (w.heap.size+1) (some ⟨w.heap.size,0,none⟩) (wordsL t)/\w'.heap.size=w.heap.size+1/\Below w.heap.size w w':=by
 obtain ⟨m,hm⟩:=hS.mx
 obtain ⟨hl,-⟩:=aiW t
 refine (Tryz.strings_Split t spW m w zO hm zA4).mono ?_
 rintro e w' ⟨rfl,rfl⟩
 refine ⟨by rw [hl],?_,by simp,(zAA _ _).alloc (zD _) _⟩
 intro h0
 refine ⟨w.heap.size,0,rfl,by omega,λi x hx j v hv=>?_⟩
 cases j with
 |zero=>
  simp only [bCs,zE,zAC] at hv
  subst hv
  have hb:=(Blk.new w 9 ((wordsL t).map Value.string).toArray).cell i
  simp only [Nat.zero_add,Nat.mul_one,Nat.add_zero]
  refine Eq.trans hb ?_
  rw [zc,List.getElem?_map,hx]
  rfl
 |succ j=>simp [bCs] at hv
def awJ:List ByteArray:=[yS,vK,aaC,wT,uN]
theorem atF (k:ByteArray):Lib.containsS (awJ.take 5) k=decide (qg k<5):=by
 rw [Bool.eq_iff_iff,Lib.containsS_iff,zAe]
 show k∈[yS,vK,aaC,wT,uN] ↔ _
 unfold qg
 constructor
 ·intro h
  simp only [zAM,List.not_mem_nil,or_false] at h
  rcases h with h|h|h|h|h<;>(subst h;decide)
 ·intro h
  simp only [zAM,List.not_mem_nil,or_false]
  split at h
  ·exact .inl ‹_›
  ·split at h
   ·exact .inr (.inl ‹_›)
   ·split at h
    ·exact .inr (.inr (.inl ‹_›))
    ·split at h
     ·exact .inr (.inr (.inr (.inl ‹_›)))
     ·split at h
      ·exact .inr (.inr (.inr (.inr ‹_›)))
      ·omega
theorem ao6 (w:World) (k:ByteArray):Calls Tryz.prog 38 #[.slice (some ⟨w.heap.size,0,none⟩) 5 5,.string k] (w.alloc (.cells #[.string ⟨#[102,105,102,111]⟩,.string ⟨#[114,97,110,107]⟩,.string ⟨#[100,117,101]⟩,.string ⟨#[114,111,117,110,100]⟩,.string ⟨#[102,97,105,114]⟩] 9)) λe w'=>e=.returned (.bool (decide (qg k<5)))/\w'=w.alloc (.cells #[.string ⟨#[102,105,102,111]⟩,.string ⟨#[114,97,110,107]⟩,.string ⟨#[100,117,101]⟩,.string ⟨#[114,111,117,110,100]⟩,.string ⟨#[102,97,105,114]⟩] 9):=by
 have h:=Tryz.slices_Contains_string w.heap.size 0 5 5 awJ k (w.alloc (.cells #[.string yS,.string vK,.string aaC,.string wT,.string uN] 9)) zA4 zO (λj hj=>by
  have hb:=(Blk.new w 9 #[.string yS,.string vK,.string aaC,.string wT,.string uN]).cell j
  rw [Nat.zero_add]
  refine Eq.trans hb ?_
  have hj5:j<5:=hj
  rcases j with _|_|_|_|_|j
  ·rfl
  ·rfl
  ·rfl
  ·rfl
  ·rfl
  ·omega)
 rw [atF] at h
 exact h
theorem wLink_cases (a:ByteArray):((a.toList==([108,105,110,107]:List UInt8))=true/\a=qY)\/((a.toList==([108,105,110,107]:List UInt8))=false/\a≠qY):=by
 by_cases h:a=qY
 ·subst h;exact .inl ⟨yP qY,rfl⟩
 ·exact .inr ⟨tl_ne (b:=qY) h,h⟩
section
variable (F:Nat->Prop) (pb:Nat) (s:Sc) (S:Nat->Addr) (w:World) (B:Nat) (hpB:B<=pb) (hB:B<=w.heap.size) (hS:SX w B S) (hm:jD F w pb s) (hF:∀b,F b->b<w.heap.size) (hok:s.ok)
include hpB hB hS hm hF hok
set_option maxHeartbeats 16000000 in
theorem ar4 (t:ByteArray) (ht:t.size<=1000):Calls Tryz.prog 23 #[.pointer (some ⟨pb,0,none⟩),.string t] w (aeK F pb S (zx s t) w):=by
 have HM:=zL hm
 have HF:=zL hF
 clear hF
 have hpbl:pb<w.heap.size:=by
  obtain ⟨_,_,_,_,_,_,h9,-⟩:=hm
  exact h9.lt
 have HSP0:=ar2 t S w B hS ht
 obtain ⟨hwl,hwl2⟩:=aiW t
 have hwz:∀x∈wordsL t,x.size<=1000:=λx hx=>zAB (anK hx) ht
 have HLS0:zx s t=aa8 s (wordsL t):=rfl
 obtain ⟨ws,hws⟩:∃ws,ws=wordsL t:=⟨_,rfl⟩
 rw [<-hws] at HSP0 hwl hwl2 hwz HLS0
 obtain ⟨g,hg⟩:∃g,g=w.heap.size:=⟨_,rfl⟩
 rw [<-hg] at HSP0
 obtain ⟨L,hL⟩:∃L,L=ws.length:=⟨_,rfl⟩
 rw [<-hL] at HSP0
 have HG:=zL hg
 have HL:=zL hL
 have HLS:=zL HLS0
 have HSP:=zL HSP0
 have HWZ:=zL hwz
 have HOK:=zL hok
 have HS:=zL hS
 have hL1:1<=L:=zO
 have hL2:L<=1001:=zO
 have LZ:(0:Int)<(L:Int):=zO
 have LW:(1:Int)<=(L:Int):=zO
 have s1:=λW (hb:Below w.heap.size w W)=>((HS.o.below (hb.mono hB)).s1 1 zA1).2.2
 simp only [G,sv] at s1
 have HS1:=zL s1
 clear hws hg hL hwz hwl hwl2 hm hok HSP0 HLS0 s1
 go_enter Tryz.func23,Tryz.ntmps23
 go_wp2_with fail
 refine (HSP.o).mono ?_
 rintro e w1 ⟨rfl,rd,hz1,k1⟩
 rw [HG.o] at k1
 have hg1:g<w1.heap.size:=zO
 have hgp:pb<w1.heap.size:=zAG hpbl k1.size
 have rd':RdB w1 w1.heap.size (some ⟨g,0,none⟩) ws:=rd.more zO
 obtain ⟨b9,o9,hA,-,e0⟩:=RdB.get rd' (i:=0) zBo
 simp only [zAC,zAS,and_true] at hA
 obtain ⟨rfl,rfl⟩:=hA
 obtain ⟨a,ha⟩:∃a,a=ws.getD 0 spW:=⟨_,rfl⟩
 have ha2:ws[0]' zBo=a:=by rw [ha];simp [List.getD,show 0<ws.length by have:=HL.o;omega]
 rw [ha2] at e0
 simp only [Nat.add_zero] at e0
 have HA:=zL ha
 have RD:=zL rd'
 have K1:=zL k1
 clear ha ha2 rd rd' k1 HSP hz1 hS ht
 by_cases hlk:a=qY/\L=3
 ·obtain ⟨hal,rfl⟩:=hlk
  have tl:(a.toList==([108,105,110,107]:List UInt8))=true:=by rw [hal];exact yP qY
  obtain ⟨b9,o9,hA,-,e1⟩:=RdB.get RD.o (i:=1) zBo
  simp only [zAC,zAS,and_true] at hA
  obtain ⟨rfl,rfl⟩:=hA
  obtain ⟨b9,o9,hA,-,e2⟩:=RdB.get RD.o (i:=2) zBo
  simp only [zAC,zAS,and_true] at hA
  obtain ⟨rfl,rfl⟩:=hA
  obtain ⟨b,hb⟩:∃b,b=ws.getD 1 spW:=⟨_,rfl⟩
  obtain ⟨c,hc⟩:∃c,c=ws.getD 2 spW:=⟨_,rfl⟩
  have hb2:ws[1]' zBo=b:=by rw [hb];simp [List.getD,show 1<ws.length by have:=HL.o;omega]
  have hc2:ws[2]' zBo=c:=by rw [hc];simp [List.getD,show 2<ws.length by have:=HL.o;omega]
  have hcz:c.size<=281474976710656:=by
   have:=HWZ.o c (by rw [<-hc2];exact zd _)
   omega
  rw [hb2] at e1
  rw [hc2] at e2
  simp only [Nat.zero_add] at e1 e2
  have HR:=zL (show zx s t=(match numW c.data.toList with
   |none=>noS s
   |some per=>if qg b<5 then aaX s b per else noS s) by
    rw [HLS.o]
    unfold aa8
    rw [zp ⟨by rw [<-HA.o];exact hal,HL.o.symm⟩,<-hb,<-hc]
    rfl)
  have HN:=ahF c S w1 B (zAB hB K1.o.size) (HS.o.below (K1.o.mono hB)) hcz
  clear hal hb hc hb2 hc2 hcz
  cases hn:numW c.data.toList with
  |none=>
   have HR2:=zM (zx s t=noS s) zCs
   have HN2:=zL (show Calls Tryz.prog 37 #[.string c] w1 λe w'=>∃m,e=.returned (.tuple #[.int .i64 m,.bool false])/\Below w1.heap.size w1 w' from HN.mono λe w' h=>by
    obtain ⟨⟨m,h1,-⟩,h2⟩:=h
    exact ⟨m,by rw [h1,hn];rfl,h2⟩)
   clear HN hn
   go_wp2_with fail
   refine HN2.o.mono ?_
   rintro e w2 ⟨m,rfl,k2⟩
   have KX:=zL (K1.o.trans (k2.mono K1.o.size))
   have s1:=HS1.o _ KX.o
   clear k2 HN2 e0 e1 e2
   exact zDX
  |some per=>
   have HN2:=zL (show Calls Tryz.prog 37 #[.string c] w1 λe w'=>e=.returned (.tuple #[.int .i64 per,.bool true])/\Below w1.heap.size w1 w' from HN.mono λe w' h=>by
    obtain ⟨⟨m,h1,h3⟩,h2⟩:=h
    exact ⟨by rw [h1,hn,h3 per hn];rfl,h2⟩)
   have HR1:=zM (zx s t=if qg b<5 then aaX s b per else noS s) zCs
   clear HN hn
   go_wp2_with fail
   refine HN2.o.mono ?_
   rintro e w2 ⟨rfl,k2⟩
   have K2:=zL (K1.o.trans (k2.mono K1.o.size))
   have KX:=zM (Below w.heap.size w (w2.alloc (.cells #[.string ⟨#[102,105,102,111]⟩,.string ⟨#[114,97,110,107]⟩,.string ⟨#[100,117,101]⟩,.string ⟨#[114,111,117,110,100]⟩,.string ⟨#[102,97,105,114]⟩] 9))) (K2.o.alloc K2.o.size _)
   have f1:(w2.alloc (.cells #[.string ⟨#[102,105,102,111]⟩,.string ⟨#[114,97,110,107]⟩,.string ⟨#[100,117,101]⟩,.string ⟨#[114,111,117,110,100]⟩,.string ⟨#[102,97,105,114]⟩] 9)).cell? ⟨g,1,none⟩=some (.string b):=(((k2.mono (zD _)).alloc k2.size _).cell (p:=⟨g,1,none⟩) hg1).trans e1
   have HKC:=ao6 w2 b
   clear k2 HN2 e0 e2 e1
   by_cases hk:qg b<5
   ·have HR2:=zM (zx s t=aaX s b per) (by rw [HR1.o,zp hk])
    rw [zAI hk] at HKC
    have HK2:=zL HKC
    have HLK:=zL (awF F pb s S (w2.alloc (.cells #[.string ⟨#[102,105,102,111]⟩,.string ⟨#[114,97,110,107]⟩,.string ⟨#[100,117,101]⟩,.string ⟨#[114,111,117,110,100]⟩,.string ⟨#[102,97,105,114]⟩] 9)) B hpB (zAB hB KX.o.size) (HS.o.below (KX.o.mono hB)) (HM.o.but KX.o) (λb h9=>zAG (HF.o b h9) KX.o.size) HOK.o b per)
    clear HKC hk
    go_wp2_with fail
    refine HK2.o.mono ?_
    rintro e w3 ⟨rfl,rfl⟩
    clear HK2
    go_wp2_with fail
    refine HLK.o.mono ?_
    rintro e w3 ⟨tt,v,aa,rfl,hv,hte,hpm,hbt⟩
    have HV:=zL hv
    have HT:=zL hte
    have HP:=zL hpm
    have HB3:=zL hbt
    clear hv hte hpm hbt HLK f1
    go_wp2_with fail
    go_ret2
    rw [HR2.o]
    exact ⟨tt,v,aa,rfl,HV.o,HT.o,HP.o,(But.of_below KX.o).trans HB3.o⟩
   ·have HR2:=zM (zx s t=noS s) (by rw [HR1.o,z6 hk])
    rw [zAH hk] at HKC
    have HK2:=zL HKC
    have s1:=HS1.o _ KX.o
    clear HKC hk
    go_wp2_with fail
    refine HK2.o.mono ?_
    rintro e w3 ⟨rfl,rfl⟩
    clear HK2 f1
    exact zDX
 ·have HR:=zL (show zx s t=(match numsW (ws.drop 1) with
   |none=>noS s
   |some n=>zA s a n) by
    rw [HLS.o]
    unfold aa8
    rw [z6 (λh9=>hlk ⟨by rw [HA.o];exact h9.1,by rw [HL.o];exact h9.2⟩),<-HA.o]
    rfl)
  by_cases hL1:L=1
  ·subst hL1
   have hdl:(ws.drop 1).length=0:=by rw [List.length_drop,<-HL.o]
   have hrd:RdB w1 w1.heap.size (some ⟨g,0,none⟩) (ws.drop 1):=λh0=>by rw [hdl] at h0;exact zAv h0 zO
   have HN:=afY (some ⟨g,0,none⟩) 0 (ws.drop 1) S w1 B (zAB hB K1.o.size) (HS.o.below (K1.o.mono hB)) hrd zO (λx hx=>by have:=HWZ.o x (List.mem_of_mem_drop hx);omega)
   rw [hdl] at HN
   have HDL:=zL hdl
   have HC:=zL (show (a.toList==([108,105,110,107]:List UInt8))=true->¬(1:Int)=3 from λh9 h8=>by
    rcases wLink_cases a with ⟨-,h7⟩|⟨h7,-⟩
    ·exact hlk ⟨h7,by omega⟩
    ·rw [h7] at h9;cases h9)
   clear hlk hrd hdl
   cases hn:numsW (ws.drop 1) with
   |none=>
    have HR2:=zM (zx s t=noS s) zCs
    have HN2:=zL (show Calls Tryz.prog 40 #[.slice (some ⟨g,0,none⟩) 0 0] w1 λe w'=>∃A c n,e=.returned (.tuple #[.slice A n c,.bool false])/\Below w1.heap.size w1 w' from HN.mono λe w' h=>by
     obtain ⟨A,c,n,h1,-,h2⟩:=h
     exact ⟨A,c,n,by rw [h1,hn];rfl,h2⟩)
    exact zE2
   |some l=>
    have HR2:=zM (zx s t=zA s a l) zCs
    have HN2:=zL (show Calls Tryz.prog 40 #[.slice (some ⟨g,0,none⟩) 0 0] w1 λe w'=>∃A c,e=.returned (.tuple #[.slice A l.length c,.bool true])/\w'.ownsRow w1.heap.size 3 1 (.slice A l.length c) l.length (l.flatMap iCs)/\Below w1.heap.size w1 w' from HN.mono λe w' h=>by
     obtain ⟨A,c,n,h1,h3,h2⟩:=h
     obtain ⟨rfl,h4⟩:=h3 l hn
     exact ⟨A,c,by rw [h1,hn];rfl,h4,h2⟩)
    exact zEP
  ·have hL1:=hL1
   have hdl:(ws.drop 1).length=L - 1:=by rw [List.length_drop,<-HL.o]
   have hrd:RdB w1 w1.heap.size (some ⟨g,1,none⟩) (ws.drop 1):=λh0=>by
    obtain ⟨b9,o9,hA,h1,hc⟩:=RD.o zBo
    simp only [zAC,zAS,and_true] at hA
    obtain ⟨rfl,rfl⟩:=hA
    refine ⟨g,1,rfl,h1,λi x hx j v hv=>?_⟩
    rw [List.getElem?_drop] at hx
    have:=hc (1+i) x hx j v hv
    rw [show (0:Nat)+(1+i)*1+j=1+i*1+j by omega] at this
    exact this
   have HN:=afY (some ⟨g,1,none⟩) (L - 1) (ws.drop 1) S w1 B (zAB hB K1.o.size) (HS.o.below (K1.o.mono hB)) hrd zO (λx hx=>by have:=HWZ.o x (List.mem_of_mem_drop hx);omega)
   rw [hdl] at HN
   have HDL:=zL hdl
   have HC:=zL (show (a.toList==([108,105,110,107]:List UInt8))=true->¬(L:Int)=3 from λh9 h8=>by
    rcases wLink_cases a with ⟨-,h7⟩|⟨h7,-⟩
    ·exact hlk ⟨h7,by omega⟩
    ·rw [h7] at h9;cases h9)
   clear hlk hrd hdl
   cases hn:numsW (ws.drop 1) with
   |none=>
    have HR2:=zM (zx s t=noS s) zCs
    have HN2:=zL (show Calls Tryz.prog 40 #[.slice (some ⟨g,1,none⟩) (L - 1) (L - 1)] w1 λe w'=>∃A c n,e=.returned (.tuple #[.slice A n c,.bool false])/\Below w1.heap.size w1 w' from HN.mono λe w' h=>by
     obtain ⟨A,c,n,h1,-,h2⟩:=h
     exact ⟨A,c,n,by rw [h1,hn];rfl,h2⟩)
    exact zE2
   |some l=>
    have HR2:=zM (zx s t=zA s a l) zCs
    have HN2:=zL (show Calls Tryz.prog 40 #[.slice (some ⟨g,1,none⟩) (L - 1) (L - 1)] w1 λe w'=>∃A c,e=.returned (.tuple #[.slice A l.length c,.bool true])/\w'.ownsRow w1.heap.size 3 1 (.slice A l.length c) l.length (l.flatMap iCs)/\Below w1.heap.size w1 w' from HN.mono λe w' h=>by
     obtain ⟨A,c,n,h1,h3,h2⟩:=h
     obtain ⟨rfl,h4⟩:=h3 l hn
     exact ⟨A,c,by rw [h1,hn];rfl,h4,h2⟩)
    exact zEP
end
theorem av6 (ad:Addr) (w:World):(method 451 242 (.pointer (some ad)) "Error").run Tryz.prog w=.ok (277,.pointer (some ad)) w:=zK
theorem azF (ad:Addr) (w:World):(nilAhead 451 242 (.pointer (some ad)) "Error").run Tryz.prog w=.ok (some false) w:=zK
theorem aw9 (ad:Addr) (t:ByteArray) (w:World) (h:w.cell? ad=some (.string t)):Calls Tryz.prog 277 #[.pointer (some ad)] w λe w'=>e=.returned (.string t)/\w'=w:=by
 obtain ⟨b,o,x⟩:=ad
 go_enter Tryz.func277,Tryz.ntmps277
 go_wp2_with fail
 go_ret
 exact ⟨rfl,rfl⟩
theorem adZ {s:Sc} {l:List ByteArray} {k:Nat} (hk:k<l.length):goS s (l.take (k+1))=goS s (l.take k)++[outT (zx (jS s (l.take k)) l[k]).1]/\jS s (l.take (k+1))=(zx (jS s (l.take k)) l[k]).2:=by
 rw [zAN hk,aq3,amS]
 exact ⟨rfl,rfl⟩
def a3J (l:List ByteArray) (w:World) (e:Ending) (w':World):Prop:=∃A c,e=.returned (.tuple #[.slice A l.length c,.nilIface])/\w'.ownsRow w.heap.size 9 1 (.slice A l.length c) l.length (l.flatMap bCs)/\Below w.heap.size w w'
theorem But.grown {g:Nat} {a w w':World} {row:Option Nat} (h:But g a w) (hg:w.grownBy w' row) (hr:∀k,row=some k->a.heap.size<=k):But g a w':=
 ⟨hg.os.trans h.os,hg.tape.trans h.tape,hg.output.trans h.output,zAB h.size hg.size,λi hi hne=>(hg.block i (zAG hi h.size) (λe=>by have:=hr i e.symm;omega)).trans (h.blk i hi hne)⟩
theorem ai4 (n:Nat):(madeCells (Value.cells (.slice none 0 0)) (n*1)).toList=List.replicate n (.slice none 0 0):=by
 rw [show Value.cells (.slice none 0 0)=#[.slice none 0 0] from rfl,toList_madeCells_one,Nat.mul_one]
theorem Rd.ae7 {F:Nat->Prop} {α:Type} {w w':World} {pb size:Nat} {f:α->List Value} {A:Option Addr} {l:List α} {row:Option Nat} (h:Rd w w.heap.size size f A l) (hg:w.grownBy w' row) (hn:0<l.length->ul F pb A) (hr:∀k,row=some k->F k):Rd w' w'.heap.size size f A l:=λh0=>by
 obtain ⟨b,o,e,hlt,hc⟩:=h h0
 refine ⟨b,o,e,zAG hlt hg.size,λi x hx q v hv=>?_⟩
 rw [<-hc i x hx q v hv]
 exact zAb (hg.block b hlt (λe2=>(hn h0 b o e).2 (hr b e2.symm)))
theorem ul.av5 {F F':Nat->Prop} {α:Type} {w:World} {pb size:Nat} {f:α->List Value} {A:Option Addr} {l:List α} (h:Rd w w.heap.size size f A l) (hn:0<l.length->ul F pb A) (hF:∀b,F' b->F b\/w.heap.size<=b):0<l.length->ul F' pb A:=λh0 b o e=>by
 obtain ⟨b2,o2,e2,hlt,hc⟩:=h h0
 obtain ⟨h1,h2⟩:=hn h0 b o e
 rw [e] at e2
 simp only [zAC,zAS,and_true] at e2
 refine ⟨h1,λh3=>?_⟩
 rcases hF b h3 with h4|h4
 ·exact h2 h4
 ·omega
theorem jD.ae7 {F F':Nat->Prop} {w w':World} {pb:Nat} {s:Sc} {row:Option Nat} (h:jD F w pb s) (h8:0<s.cs.length) (hg:w.grownBy w' row) (hr:∀k,row=some k->F k/\k≠pb) (hF:∀b,F' b->F b\/w.heap.size<=b):jD F' w' pb s:=by
 obtain ⟨Ac,cc,An,cn,Ap,cp,h1,h2,h3,h4,h5,h6,h7⟩:=h
 have hr1:∀k,row=some k->F k:=λk hk=>(hr k hk).1
 refine ⟨Ac,cc,An,cn,Ap,cp,h1.grown hg (λe=>(hr pb e.symm).2 rfl),h2,⟨λb o e=>?_,λi hi=>?_⟩,Rd.ae7 h4 hg h5 hr1,ul.av5 h4 h5 hF,Rd.ae7 h6 hg h7 hr1,ul.av5 h6 h7 hF⟩
 ·obtain ⟨b2,o2,a,c,e2,hlt,-⟩:=h3.2 0 h8
  rw [e] at e2
  simp only [zAC,zAS,and_true] at e2
  obtain ⟨k1,k2⟩:=h3.1 b o e
  refine ⟨k1,λh9=>?_⟩
  rcases hF b h9 with h10|h10
  ·exact k2 h10
  ·omega
 ·obtain ⟨b,o,a,c,e,hlt,hc,hd,hn⟩:=h3.2 i hi
  exact ⟨b,o,a,c,e,zAG hlt hg.size,(zAb (a:=⟨b,o+i,none⟩) (hg.block b hlt (λe2=>(h3.1 b o e).2 (hr1 b e2.symm)))).trans hc,Rd.ae7 hd hg hn hr1,ul.av5 hd hn hF⟩
theorem ajE {w:World} {base g n c:Nat} {e:TypeId} {xs:List Value} (h:w.ownsRow base e 1 (.slice (some ⟨g,0,none⟩) n c) n xs) {j:Nat} {v:Value} (hv:xs[j]?=some v):w.cell? ⟨g,j,none⟩=some v:=by
 obtain ⟨-,⟨q1,-⟩|⟨g6,cap,cur,hv2,hg6,hh,hnc,hcc,hsz,htk⟩⟩:=h
 ·cases q1
 ·obtain ⟨rfl,rfl⟩:g=g6/\c=cap:=by injection hv2 with h1 h2 h3;simp at h1;exact ⟨h1,h3⟩
  have XG:Blk w g e cur:=hh
  rw [XG.cell j,<-Array.getElem?_toList]
  rw [<-htk,List.getElem?_take] at hv
  split at hv
  ·exact hv
  ·cases hv
def ownB (A:Option Addr) (n c:Nat):Nat->Prop:=λb=>(Value.slice A n c).ownBlock=some b
theorem But.a0Q {w w' wr:World} {pb:Nat} (h:w.heap.size<=pb) (hs:Below w.heap.size w wr) (hb:But pb wr w'):Below w.heap.size w w':=hs.trans (hb.below h hs.size)
section
variable (A:Option Addr) (c:Nat) (ls:List ByteArray) (S:Nat->Addr) (w:World) (B:Nat) (hB:B<=w.heap.size) (hS:SX w B S) (h:RdB w w.heap.size A ls) (hl:ls.length<=100) (hz:∀x∈ls,x.size<=1000)
include hB hS h hl hz
set_option maxHeartbeats 8000000 in
theorem alG:Calls Tryz.prog 10 #[.slice A ls.length c] w (a3J (goS xm ls) w):=by
 obtain ⟨i0,hi0,hz0,hz1,hz2⟩:=info_parts ao9
 obtain ⟨L,hL⟩:∃L,L=ls.length:=⟨_,rfl⟩
 have HL:=zL hL
 have HS:=zL hS
 have HR:=zL h
 have HZ:=zL hz
 have hl1:¬(100:Int)<(L:Int):=zO
 have hl2:L<=100:=zO
 rw [<-hL]
 clear hL hS h hz hl
 go_enter Tryz.func10,Tryz.ntmps10
 go_upto_region 5 with (at_make;refine wpList_make_full _ rfl (.const (.int .i64 8)) (.const (.int .i64 8)) 43 rfl w.heap.size 57 i0 (.slice none 0 0) 1 Tryz.underlying43 hi0 hz0 hz1 .i64 .i64 8 8 8 rfl rfl rfl rfl (by rw [hz2];omega) zA2 (zD _) ?_;intro w2 row2 g2;have K2:=zL ((zAA w.heap.size w).grown g2 (zD _) zA1);have ROW2:=zL row2;clear row2 g2)
 obtain ⟨w9,hw9⟩:∃w9,w9=w2.alloc (.cells #[.slice (some ⟨w.heap.size,0,none⟩) 8 8,.string ⟨#[102,105,102,111]⟩,.int .i64 1,.slice none 0 0,.slice none 0 0] 68):=⟨_,rfl⟩
 obtain ⟨pb,hpb⟩:∃pb,pb=w2.heap.size:=⟨_,rfl⟩
 rw [<-hw9,<-hpb]
 have k9:Below w.heap.size w w9:=by rw [hw9];exact K2.o.alloc K2.o.size _
 have x9:Blk w9 pb 68 #[.slice (some ⟨w.heap.size,0,none⟩) 8 8,.string ⟨#[102,105,102,111]⟩,.int .i64 1,.slice none 0 0,.slice none 0 0]:=by rw [hw9,hpb];exact Blk.new _ _ _
 have hgw:w.heap.size<w2.heap.size:=by
  obtain ⟨-,⟨q1,-⟩|⟨g6,cap,cur,hv,hg6,hh,-⟩⟩:=ROW2.o
  ·cases q1
  ·have:=(Array.getElem?_eq_some_iff.1 hh).1
   omega
 have hpm9:jD (ownB none 0 0) w9 pb xm:=by
  refine ⟨some ⟨w.heap.size,0,none⟩,8,none,0,none,0,x9,zD _,⟨λb o e=>?_,λi hi=>?_⟩,Rd.ui,λ_=>ul.none_ _ pb,Rd.ui,λ_=>ul.none_ _ pb⟩
  ·simp only [zAC,zAS,and_true] at e
   exact ⟨by omega,λh9=>by cases h9⟩
  ·have hi8:i<8:=hi
   refine ⟨w.heap.size,0,none,0,rfl,zAG hgw (by rw [hw9];simp),?_,?_,λ_=>ul.none_ _ pb⟩
   ·have hc:w2.cell? ⟨w.heap.size,0+i,none⟩=some (.slice none 0 0):=by
     have hr:=ajE ROW2.o (j:=i) (show (madeCells (Value.slice none 0 0).cells (8*1)).toList[i]?=some (.slice none 0 0) by rw [ai4,List.getElem?_replicate,zp hi8])
     rw [Nat.zero_add]
     exact hr
    have e1:(xm.cs[i]'hi)=[]:=zEt
    rw [e1]
    rw [hw9]
    exact ((zAA w2.heap.size w2).alloc (zD _) _ |>.cell (p:=⟨w.heap.size,0+i,none⟩) hgw).trans hc
   ·have e1:(xm.cs[i]'hi)=[]:=zEt
    rw [e1]
    exact Rd.ui
 have hwp:w.heap.size<=pb:=by rw [hpb];exact K2.o.size
 have PB9:=zM (pb<w9.heap.size) x9.lt
 have HPM9:=zL hpm9
 have K9:=zL k9
 have HWP:=zL hwp
 obtain ⟨i1,hi1,hy0,hy1,hy2⟩:=info_parts akW
 clear hw9 hpb k9 x9 hgw hpm9 hwp K2 ROW2
 go_wp2_with fail
 go_loopw [5,20] (λov iv wr=>∃(k:Nat) (A1:Option Addr) (c1:Nat),k<=L/\ov=.slice A1 (goS xm (ls.take k)).length c1/\iv=.int .i64 k/\wr.ownsRow w9.heap.size 9 1 (.slice A1 (goS xm (ls.take k)).length c1) (goS xm (ls.take k)).length ((goS xm (ls.take k)).flatMap bCs)/\jD (ownB A1 (goS xm (ls.take k)).length c1) wr pb (jS xm (ls.take k))/\But pb w9 wr) (λ_ iv _=>L - (intOf iv).toNat)
 case atStart=>exact ⟨0,none,0,zAK _,rfl,rfl,⟨by simp [goS],.inl ⟨rfl,rfl⟩⟩,HPM9.o,But.refl _ _⟩
 case round=>
  obtain ⟨k,A1,c1,hk,rfl,rfl,row,hpm,hbt⟩:=hrel
  have kw:=(But.a0Q HWP.o K9.o hbt)
  by_cases hlt0:k<L
  ·have hlt:k<ls.length:=by have:=HL.o;omega
   obtain ⟨b,o,rfl,hb,d0⟩:=RdB.get HR.o hlt
   obtain ⟨t,ht⟩:∃t,t=ls[k]:=⟨_,rfl⟩
   rw [<-ht] at d0
   have d1:wr.cell? ⟨b,o+k,none⟩=some (.string t):=(kw.cell (p:=⟨b,o+k,none⟩) hb).trans d0
   have htz:t.size<=1000:=HZ.o t (by rw [ht];exact zd hlt)
   obtain ⟨st,hst⟩:∃st,st=jS xm (ls.take k):=⟨_,rfl⟩
   obtain ⟨r,hr⟩:∃r,r=goS xm (ls.take k):=⟨_,rfl⟩
   rw [<-hr] at row ⊢
   rw [<-hst,<-hr] at hpm
   have hgl:r.length=k:=by rw [hr,akY,zAh];omega
   have hso:st.ok:=by rw [hst];exact aq6 aqR _
   have HLN0:=zL (ar4 (ownB A1 r.length c1) pb st S wr B (zAB hB HWP.o) (zAB hB kw.size) (HS.o.below (kw.mono hB)) hpm (λb h9=>aa7 row b h9) hso t htz)
   have HCC:=zL (a1E st t)
   have HSO:=zL hso
   have HRR:=zL hr
   have HST:=zL hst
   have HTE:=zL ht
   have ROW:=zL row
   have BT:=zL hbt
   have KW:=zL kw
   have q1:(k:Int)<(L:Int):=zO
   have q2:(0:Int)<=(k:Int):=zO
   have hm1:r.length<=100:=zO
   have M1:=zM (r.length+1<=maxLen) zA2
   have M2:=zM ((r.length+1)*16<=140737488355328) zO
   clear d0 ht hst hr row hbt kw hpm hso htz hgl hm1
   go_wp2_with fail
   refine HLN0.o.mono ?_
   rintro e w3 ⟨tt,v,aa,rfl,hv,hte,hpm,hbt⟩
   have hb3:=BT.o.trans hbt
   have o3:=zY ROW.o λb hb=>hbt.blk b (aa7 ROW.o b hb) (λe=>by have:=zH ROW.o b hb;have:=PB9.o;omega)
   obtain ⟨cd,hcd⟩:∃cd,cd=(zx st t).1.1:=⟨_,rfl⟩
   rw [<-hcd] at hv hte
   have CS8:=zM (0<(zx st t).2.cs.length) (by have:=(al8 HSO.o t).ll.1;omega)
   have HXX:=zM ((zx (jS xm (ls.take k)) (ls[k]'hlt)).2=(zx st t).2) (by rw [<-HST.o,<-HTE.o])
   by_cases hc:cd=0
   ·obtain rfl:=hv.qK hc
    have O5:=zL o3
    have PM5:=zL hpm
    have BT5:=zL hb3
    have WB:=zL hb3.size
    have z5:=zM (w9.heap.size<=w3.heap.size) hb3.size
    have HTT:outT (zx (jS xm (ls.take k)) (ls[k]'hlt)).1=tt:=by
     rw [<-HST.o,<-HTE.o]
     unfold outT
     rw [zp (by rw [<-hcd];exact hc)]
     exact (hte hc).symm
    have HNW:=zM (Rd (w3.alloc (.cells #[.string tt] 9)) (w3.heap.size+1) 1 bCs (some ⟨w3.heap.size,0,none⟩) [tt]) (Rd.zU rfl zO uq)
    have HTT:=HTT
    have HTX:=zL HTT
    clear HTT hv hte hpm hbt hb3 o3 hcd hc HLN0
    go_wp2_with (at_builtin;refine qd _ bCs rfl (.tmp 35) (.tmp 37) 24 rfl w9.heap.size 9 i1 (.string ⟨#[]⟩) 1 16 Tryz.underlying24 hi1 hy0 hy1 hy2 rfl zO uq aeF (.slice A1 r.length c1) r.length (r.flatMap bCs) rfl (O5.o.alloc _) (w3.heap.size+1) (some ⟨w3.heap.size,0,none⟩) 1 [tt] rfl HNW.o M1.o M2.o (qG z5.o _) ?_;intro v4 w4 row4 g4 at4;obtain ⟨A6,c6,hv6,row5⟩:=qI row4 zO;subst hv6;have ROW4:=zL row5;have G4:=zL g4;have AT4:=zL at4;clear row4 row5 at4 g4)
    have hq:r++[tt]=goS xm (ls.take (k+1)):=by rw [HRR.o,(adZ hlt).1,HTX.o]
    have hlen:r.length+1=(goS xm (ls.take (k+1))).length:=zC2
    have HLN:=zL hlen
    have hrow:=ROW4.o
    have HQ:=zL hq
    rw [hq] at hrow
    try rw [hq]
    have kA:Below w3.heap.size w3 (w3.alloc (.cells #[.string tt] 9)):=(zAA _ _).alloc (zD _) _
    exact zDZ
   ·have hk9:=HCC.o
    rw [<-hcd] at hk9
    have hmem:cd∈[1,2,3,4,5,9]:=by unfold okC at hk9;simp only [zAM,List.not_mem_nil,or_false];omega
    have kw3:=(But.a0Q HWP.o K9.o hb3)
    have hs3:=HS.o.below (kw3.mono hB)
    have EB0:=af6 v cd aa S w3 w3.heap.size (zD _) (hs3.gs.more (zAB hB kw3.size)) hv hc
    obtain ⟨T,ad,rfl⟩:=hv.qW hc
    obtain ⟨ed,hed⟩:∃ed,ed=S cd:=⟨_,rfl⟩
    have EB:Calls Tryz.prog 24 #[.iface T (.pointer (some ad))] w3 λe w'=>e=.returned (.iface 242 (.pointer (some ed)))/\Below w3.heap.size w3 w'/\w'.cell? ed=some (.string (abN cd)):=EB0.mono λe w' h9=>by
     obtain ⟨h1,-,-,h2⟩:=h9
     refine ⟨by rw [h1,hed];rfl,h2,?_⟩
     rw [hed]
     exact ((HS.o.below ((kw3.trans (h2.mono kw3.size)).mono hB)).tx cd hmem)
    have HEB:=zL EB
    have HTT0:outT (zx (jS xm (ls.take k)) (ls[k]'hlt)).1=abN cd:=by
     rw [<-HST.o,<-HTE.o]
     unfold outT
     rw [z6 (by rw [<-hcd];exact hc),<-hcd]
    obtain ⟨et,het⟩:∃et,et=abN cd:=⟨_,rfl⟩
    rw [<-het] at HTT0 HEB
    have HTX:=zL HTT0
    have H3:=zL hpm
    have HB3:=zL hb3
    have HO3:=zL o3
    clear hv hte hpm hbt hb3 o3 hcd hc HLN0 hk9 hmem kw3 hs3 EB0 EB hed HTT0 het
    go_wp2_with fail
    refine HEB.o.mono ?_
    rintro e w5 ⟨rfl,k5,ec⟩
    have HES:=zL (aw9 ed et w5 ec)
    have O5:=zL (own_below HO3.o k5 (zD _))
    have PM5:=zL (H3.o.but k5)
    have BT5:=zL (HB3.o.trans (But.of_below k5))
    have WB:=zL (BT5.o.size)
    have z5:=zM (w9.heap.size<=w5.heap.size) BT5.o.size
    have HNW:=zM (Rd (w5.alloc (.cells #[.string et] 9)) (w5.heap.size+1) 1 bCs (some ⟨w5.heap.size,0,none⟩) [et]) (Rd.zU rfl zO uq)
    have n1:=azF ed
    have n2:=av6 ed
    clear k5 ec HEB
    go_wp2_with fail
    refine HES.o.mono ?_
    rintro e w6 ⟨rfl,rfl⟩
    clear HES
    go_wp2_with (at_builtin;refine qd _ bCs rfl (.tmp 35) (.tmp 37) 24 rfl w9.heap.size 9 i1 (.string ⟨#[]⟩) 1 16 Tryz.underlying24 hi1 hy0 hy1 hy2 rfl zO uq aeF (.slice A1 r.length c1) r.length (r.flatMap bCs) rfl (O5.o.alloc _) (w6.heap.size+1) (some ⟨w6.heap.size,0,none⟩) 1 [et] rfl HNW.o M1.o M2.o (qG z5.o _) ?_;intro v4 w4 row4 g4 at4;obtain ⟨A6,c6,hv6,row5⟩:=qI row4 zO;subst hv6;have ROW4:=zL row5;have G4:=zL g4;have AT4:=zL at4;clear row4 row5 at4 g4)
    have hq:r++[et]=goS xm (ls.take (k+1)):=by rw [HRR.o,(adZ hlt).1,HTX.o]
    have hlen:r.length+1=(goS xm (ls.take (k+1))).length:=zC2
    have HLN:=zL hlen
    have hrow:=ROW4.o
    have HQ:=zL hq
    rw [hq] at hrow
    try rw [hq]
    have kA:Below w6.heap.size w6 (w6.alloc (.cells #[.string et] 9)):=(zAA _ _).alloc (zD _) _
    exact zDZ
  ·obtain rfl:k=L:=by omega
   have e1:ls.take k=ls:=zAZ zBo
   rw [e1] at row ⊢
   have ROW:=zL row
   have KW:=zL kw
   clear row hpm hbt kw e1
   go_wp2_with fail
   go_ret2
   exact ⟨A1,c1,rfl,qO ROW.o (K9.o.size),KW.o⟩
end
end Go.Proofs.YtoomffajodheaaaGreatDoor
