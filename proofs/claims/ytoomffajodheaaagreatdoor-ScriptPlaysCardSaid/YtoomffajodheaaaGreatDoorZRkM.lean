/- The proof of ScriptPlays, part RkM. Conditions: in each statement. -/
import Derived.Test.YtoomffajodheaaaGreatDoorZMiscM
import Derived.Test.YtoomffajodheaaaGreatDoorZPlnM
import Derived.Test.YtoomffajodheaaaGreatDoorZShelf
set_option linter.all false
namespace Go.Proofs.YtoomffajodheaaaGreatDoor
open Go.RowKit
set_option maxRecDepth 100000
theorem zA4{p:Prop}(h:p:=by decide):p:=h
theorem zB5{p:Prop}(h:p:=by rw [hwa];exact (show Blk _ w.heap.size 46 #[.slice A p.length c] from (Blk.new _ _ _).alloc _).cell 0):p:=h
theorem zCU{p:Prop}(h:p:=by first |exact hki|exact hkb):p:=h
theorem zCV{p:Prop}(h:p:=by rw [He.o] at hok;exact hok):p:=h
theorem zC3{p:Prop}(h:p:=by rw [zp (by rw [getD_at s b hb];exact hc),getD_at s i hlt]):p:=h
theorem zDO{p:Prop}(h:p:=by
 have hi2:i=s.length:=by omega
 subst hi2
 obtain ⟨g',o',hA',hg',e1⟩:=RdN.get hrow hb
 subst hA'
 have hbest:bestI key s=b:=by rw [Heq.o,List.drop_length];rfl
 have Hb:=zL hbest
 clear hbest
 have hb2:(b:Int)<(s.length:Int):=zO
 have hb0:(0:Int)<=(b:Int):=zO
 have row0:(w.drewN m).ownsRow B 3 1 (.slice (some ⟨g',o',none⟩) s.length c) s.length (s.flatMap nCs):=h.row
 have Hr:=zL row0
 have Hh:=zL h
 clear row0 h
 go_wp2_with (go_at_call 196;refine (aq7 B _ s _ c b Hr.o hb).mono ?_;rintro e w1 ⟨rfl,row1,bl1,sz1,k1⟩;have b1:Blk w1 bw 27 #[.slice (some ⟨g',o',none⟩) s.length c]:=Hh.o.v.same (k1 bw Hh.o.v.lt (λe=>Hh.o.ne e.symm));have x0:w1.cell? ⟨bw,0,none⟩=some (.slice (some ⟨g',o',none⟩) s.length c):=b1.cell 0;have x1:=b1.frozen 0;have B1:=zL b1;clear b1)
 go_ret2
 have hb9:=Hb.o
 rw [hb9,getD_at s b hb]
 have el:(s.eraseIdx b).length=s.length - 1:=List.length_eraseIdx_of_lt hb
 refine ⟨rfl,own,some ⟨g',o',none⟩,c,⟨B1.o.qi 0 _,ownsRow_setCell_other row1 (show (Value.slice (some ⟨g',o',none⟩) (s.eraseIdx b).length c).ownBlock≠some bw from Hh.o.ne) _,Hh.o.hB,Hh.o.ne,by have:=Hh.o.le;omega,Hh.o.o⟩,(((below_drewN (zAA B w) m)).trans bl1).setCell (p:=⟨bw,0,none⟩) Hh.o.hB _,λx hx ho=>?_,λx hx=>.inl hx⟩
 have hnb:¬(x=bw\/(Value.slice (some ⟨g',o',none⟩) s.length c).ownBlock=some x):=λh9=>ho ((Hh.o.o x).2 h9)
 rw [zAF w1 ⟨bw,0,none⟩ _ x (λe=>hnb (.inl e))]
 exact k1 x hx λe=>hnb (.inr e.symm)):p:=h
theorem zDl{p:Prop}(h:p:=by
 obtain ⟨hb0,hln,A,c,h⟩:=h
 obtain rfl:s=[]:=(xu key n).w_none s m hok hp
 have hB:=h.size
 clear hp hok
 unfold jJ
 go_enter Tryz.func279,Tryz.ntmps279
 go_wp2_with fail
 refine (af2 B bw bk _ own A c (h.alloc _)).mono ?_
 rintro e w1 ⟨rfl,rfl⟩
 go_wp2_with fail
 go_ret2
 have kk:=qQ (qB B own w) hB (.cells #[.func (.func 194) #[] #[.pointer (some ⟨bw,0,none⟩)],.func (.func 195) #[] #[.pointer (some ⟨bw,0,none⟩),.pointer (some ⟨bk,0,none⟩)],.nilFunc] 262)
 exact ⟨rfl,own,⟨hb0.trans kk.1,hln,A,c,h.alloc _⟩,kk⟩):p:=h
theorem zDm{p:Prop}(h:p:=by
 obtain ⟨hb0,hln,A,c,h⟩:=h
 have hs:s.length<300:=by
  rcases asc_len k s 0 (λ_ _=>zAK _) hk1 hk2 with rfl|h9
  ·simp
  ·omega
 have hB:=h.size
 unfold jJ
 go_enter Tryz.func278,Tryz.ntmps278
 go_wp2_with fail
 refine (ahL B bw k _ own s A c (h.alloc _) hs).mono ?_
 rintro e w1 ⟨rfl,own',A',c',h',k'⟩
 go_wp2_with fail
 go_end0
 have kk:=qy (qQ (qB B own w) hB _) k'
 exact ⟨rfl,own',⟨hb0.trans kk.1,λj hj=>by
  rcases zAQ.1 hj with h9|h9
  ·exact hln j h9
  ·rw [zAW.1 h9];exact hkn,A',c',h'⟩,kk⟩):p:=h
theorem zDt{p:Prop}(h:p:=by
 obtain ⟨h1,h2⟩:=h
 refine ⟨h1,?_⟩
 rcases h2 with h2|⟨g,cap,cur,hv,hg,hh,r⟩
 ·exact .inl h2
 ·exact .inr ⟨g,cap,cur,hv,hg,(hs g zCv).trans hh,r⟩):p:=h
theorem zDw{p:Prop}(h:p:=by
 obtain ⟨hb0,hln,A,c,h⟩:=h
 have hB:=h.size
 have f1:=aaH
 have kk:=qQ (qB B own w) hB (.cells #[.func (.func 194) #[] #[.pointer (some ⟨bw,0,none⟩)],.func (.func 195) #[] #[.pointer (some ⟨bw,0,none⟩),.pointer (some ⟨bk,0,none⟩)],.nilFunc] 262)
 unfold jJ
 go_enter Tryz.func280,Tryz.ntmps280
 go_wp2_with fail
 go_end0
 exact ⟨rfl,own,⟨hb0.trans kk.1,hln,A,c,h.alloc _⟩,kk⟩):p:=h
theorem zD5{p:Prop}(h:p:=by
 go_wp2_with fail
 rw [<-hwa]
 refine (xK A c p per S wa B zO (h.below (ba.mono hB)) ((hS.below (ba.mono hB)).sub zA1) hl).mono ?_
 rintro e w1 ⟨v,rfl,hv,hb1⟩
 obtain ⟨T,a,rfl⟩:=hv.qW Hn.o
 go_wp2_with fail
 go_ret2
 rw [He.o]
 exact ⟨none,0,_,rfl,⟨by simp,.inl ⟨rfl,rfl⟩⟩,hv,ba.trans (hb1.mono ba.size)⟩):p:=h
theorem zEJ{p:Prop}(h:p:=by
 rw [zAO zO] at hbad
 have Hbad:=zL hbad
 clear hbad
 go_wp2_with fail
 go_ret
 exact ⟨yh (by rw [Hbad.o];rfl),rfl⟩):p:=h
theorem zEV{p:Prop}(h:p:=by
 rintro e w1 ⟨rfl,own',A',c',h',k'⟩
 rw [Hk.o]
 go_wp2_with fail
 go_ret2
 have kk:=qy kk0 k'
 exact ⟨rfl,own',⟨hb0.trans kk.1,λj hj=>hln j (List.mem_of_mem_eraseIdx hj),A',c',h'⟩,kk⟩):p:=h
theorem zEY{p:Prop}(h:p:=by
 rintro e w2 ⟨v,rfl,hv,hb2⟩
 obtain ⟨T,a,rfl⟩:=hv.qW Hn.o
 go_wp2_with fail
 go_ret2
 rw [He.o]
 exact ⟨none,0,_,rfl,⟨by simp,.inl ⟨rfl,rfl⟩⟩,hv,k1.trans (hb2.mono k1.size)⟩):p:=h
theorem zEk{p:Prop}(h:p:=by
 obtain ⟨hb0,hln,A,c,h⟩:=h
 exact ⟨hb0.trans hb,hln,A,c,h.v.same (hs bw ((h.o bw).2 (.inl rfl))),ym h.row λg hg=>hs g ((h.o g).2 (.inr hg)),h.hB,h.ne,h.le,h.o⟩):p:=h
theorem zEy{p:Prop}(h:p:=by
 simp only [leastM] at hp
 split at hp
 ·cases hp
 ·simp only [zAC,Prod.mk.injEq] at hp
  exact ⟨by omega,hp.1,hp.2⟩):p:=h
theorem zE0{p:Prop}(h:p:=by
 obtain ⟨A,c,h⟩:=h.wm
 rcases (h.o b).1 hb with rfl|hb
 ·exact ⟨h.hB,h.v.lt⟩
 ·exact ⟨zH h.row b hb,xQ h.row b hb⟩):p:=h
theorem zE3{p:Prop}(h:p:=by
 rintro e w1 ⟨rfl,rfl⟩
 rw [Ho.o]
 go_wp2_with fail
 go_ret
 rw [Hf.o]
 exact ⟨_,rfl,.bare 2 zO zO,ba⟩):p:=h
theorem zE7{p:Prop}(h:p:=by
 rintro e w1 ⟨rfl,rfl⟩
 rw [Ho.o]
 go_wp2_with fail
 go_ret
 rw [Hf.o]
 exact ⟨_,rfl,.nil,ba⟩):p:=h
theorem zFa{p:Prop}(h:p:=by
 go_wp2
 exact abE hlt hle Heq.o hb (by rw [z6 (by rw [getD_at s b hb];omega)])):p:=h
theorem zFj{p:Prop}(h:p:=by
 go_wp2
 go_ret
 exact ⟨vL (by rw [He.o];first |rfl|(simp;omega)),rfl⟩):p:=h
theorem zFk{p:Prop}(h:p:=by
 go_wp2_with fail
 go_ret
 rw [Hf.o]
 exact ⟨_,rfl,.bare 3 zO zO,ba⟩):p:=h
def aoR (most n:Int):Bool:=decide (n<0\/most<n)
theorem asE (n most:Int) (b:Nat) (w:World) (h:Blk w b 3 #[.int .i64 most]):
 Calls Tryz.prog 193 #[.int .i64 n,.pointer (some ⟨b,0,none⟩)] w λe w'=>e=.returned (.bool (aoR most n))/\w=w':=by
 have c0:w.cell? ⟨b,0,none⟩=some (.int .i64 most):=h.cell 0
 by_cases h0:n<0
 ·go_enter Tryz.func193,Tryz.ntmps193
  go_wp2
  go_ret
  exact ⟨vL (by symm;exact zAI (.inl h0)),rfl⟩
 ·have h1:0<=n:=by omega
  have He:=zM (aoR most n=decide (most<n)) (decide_eq_decide.2 zO)
  clear h0
  go_enter Tryz.func193,Tryz.ntmps193
  exact zFj
def vN (most:Int):List Int->Nat->Int
 |[],_=>-1
 |n::r,k=>if aoR most n then k else vN most r (k+1)
theorem awU (A:Option Addr) (c:Nat) (l:List Int) (most:Int) (b:Nat) (w:World) (B:Nat) (h:RdI w B A l) (hl:l.length<=9223372036854775807) (hb:Blk w b 3 #[.int .i64 most]):
 Calls Tryz.prog 216 #[.slice A l.length c,.func (.func 193) #[] #[.pointer (some ⟨b,0,none⟩)]] w λe w'=>e=.returned (.int .i64 (vN most l 0))/\w=w':=by
 have HB:=zL hb
 clear hb
 go_enter Tryz.func216,Tryz.ntmps216
 go_wp2
 go_loopw [5,8] (λ_ i wr=>∃k:Nat,k<=l.length/\i=.int .i64 k/\vN most l 0=vN most (l.drop k) k/\w=wr) (λ_ i _=>l.length - (intOf i).toNat)
 case atStart=>exact ⟨0,zAK _,rfl,rfl,rfl⟩
 case round=>
  obtain ⟨k,hk,rfl,hbad,rfl⟩:=hrel
  by_cases hlt:k<l.length
  ·obtain ⟨q,o,rfl,hq,h0⟩:=RdI.get h hlt
   rw [zAE hlt] at hbad
   have Hbad:=zL hbad
   clear hbad
   go_wp2_with fail
   refine (asE _ most b _ HB.o).mono ?_
   rintro e w1 ⟨rfl,rfl⟩
   cases hx:aoR most l[k]
   ·have Hx:=zL hx;clear hx
    go_wp2_with fail
    go_roundw
    case rel=>exact ⟨k+1,by omega,by go_num,by rw [Hbad.o];simp [vN,Hx.o],by trivial⟩
    case measure=>simp [intOf];omega
   ·have Hx:=zL hx;clear hx
    go_wp2_with fail
    go_ret
    exact ⟨yh (by rw [Hbad.o];simp [vN,Hx.o]),rfl⟩
  ·exact zEJ
theorem acP (A:Option Addr) (c:Nat) (l:List Int) (most:Int) (b:Nat) (w:World) (B:Nat) (h:RdI w B A l) (hl:l.length<=9223372036854775807) (hb:Blk w b 3 #[.int .i64 most]):
 Calls Tryz.prog 192 #[.slice A l.length c,.func (.func 193) #[] #[.pointer (some ⟨b,0,none⟩)]] w λe w'=>e=.returned (.bool (decide (0<=vN most l 0)))/\w=w':=by
 go_enter Tryz.func192,Tryz.ntmps192
 go_wp2_with fail
 refine (awU A c l most b w B h hl hb).mono ?_
 rintro e w1 ⟨rfl,rfl⟩
 go_wp2_with fail
 go_ret
 exact ⟨rfl,rfl⟩
def vz (l:List Int) (most:Int):Nat:=if l.length=8 then (if 0<=vN most l 0 then 2 else 0) else 3
theorem jP (A:Option Addr) (c:Nat) (l:List Int) (most:Int) (S:Nat->Addr) (w:World) (B:Nat) (hB:B<=w.heap.size) (h:RdI w B A l) (hS:Snt w B S [2,3]) (hl:l.length<=9223372036854775807):
 Calls Tryz.prog 171 #[.slice A l.length c,.int .i64 most] w (aiH S (vz l most) (-1) w):=by
 have ba:=((zAA w.heap.size w).alloc (zD _) (.cells #[.int .i64 most] 3))
 have g2:(w.alloc (.cells #[.int .i64 most] 3)).cell? ⟨G 2,0,none⟩=some (sv S 2):=((hS.below (ba.mono hB)) 2 zA1).2.2
 have g3:(w.alloc (.cells #[.int .i64 most] 3)).cell? ⟨G 3,0,none⟩=some (sv S 3):=((hS.below (ba.mono hB)) 3 zA1).2.2
 have l2:=(hS 2 zA1).1
 have l3:=(hS 3 zA1).1
 simp only [G,sv] at g2 g3 l2 l3
 by_cases h8:l.length=8
 ·have hb1:((l.length:Int) !=8)=false:=by rw [h8];rfl
  by_cases ho:0<=vN most l 0
  ·have Hf:=zM (vz l most=2) (by unfold vz;rw [zp h8,zp ho])
   have Ho:=zM (decide (0<=vN most l 0)=true) (zAI ho)
   clear h8 ho
   go_enter Tryz.func171,Tryz.ntmps171
   go_wp2_with fail
   refine (acP A c l most w.heap.size _ B (h.below (ba.mono hB)) hl (Blk.new _ _ _)).mono ?_
   exact zE3
  ·have Hf:=zM (vz l most=0) (by unfold vz;rw [zp h8,z6 ho])
   have Ho:=zM (decide (0<=vN most l 0)=false) (zAH ho)
   clear h8 ho
   go_enter Tryz.func171,Tryz.ntmps171
   go_wp2_with fail
   refine (acP A c l most w.heap.size _ B (h.below (ba.mono hB)) hl (Blk.new _ _ _)).mono ?_
   exact zE7
 ·have hb1:((l.length:Int) !=8)=true:=by simp;omega
  have Hf:=zM (vz l most=3) (z6 h8)
  clear h8
  go_enter Tryz.func171,Tryz.ntmps171
  exact zFk
def xO (p:List Pk) (ranks:List Int) (k:Nat):Int:=ranks.getD (fOf p k).toNat 0
theorem avR (k:Nat) (A A':Option Addr) (c c':Nat) (p:List Pk) (l:List Int) (bp br:Nat) (w:World) (B:Nat) (hp:RdP w B A p) (hl:RdI w B A' l) (h1:Blk w bp 46 #[.slice A p.length c]) (h2:Blk w br 27 #[.slice A' l.length c'])
 (hk:k<p.length) (h8:l.length=8) (hf0:0<=p[k].f) (hf1:p[k].f<8):
 Calls Tryz.prog 173 #[.int .i64 k,.pointer (some ⟨br,0,none⟩),.pointer (some ⟨bp,0,none⟩)] w λe w'=>e=.returned (.int .i64 (xO p l k))/\∃m,w'=w.drewN m:=by
 have c1:w.cell? ⟨bp,0,none⟩=some (.slice A p.length c):=h1.cell 0
 have c2:w.cell? ⟨br,0,none⟩=some (.slice A' l.length c'):=h2.cell 0
 obtain ⟨b,o,rfl,hb,d0,d1,d2⟩:=RdP.get hp hk
 obtain ⟨f,hf⟩:∃f:Nat,p[k].f=f:=⟨p[k].f.toNat,by omega⟩
 have hfl:f<l.length:=zO
 obtain ⟨b',o',rfl,hb',e0⟩:=RdI.get hl hfl
 have Hk:=zM (xO p l k=l[f]) (by unfold xO;rw [vR hk,hf,zAX];simp [List.getD,hfl])
 rw [hf] at d0
 clear hf hf0 hf1 h1 h2 h8
 have q1:(0:Int)<=(f:Int):=zO
 have q2:(f:Int)<(l.length:Int):=zO
 have q3:(0:Int)<=(k:Int):=zO
 have q4:(k:Int)<(p.length:Int):=zO
 go_enter Tryz.func173,Tryz.ntmps173
 go_wp2_with fail
 go_quiet (fail)
 go_wp2
 go_ret
 exact ⟨yh Hk.o.symm,_,rfl⟩
def nCs (n:Nat):List Value:=[.int .i64 n]
theorem xP (x:Nat):(nCs x).length=1:=rfl
theorem adU (x:Nat):∀u∈nCs x,u.oneCell'=true:=by simp [nCs,Value.oneCell']
structure vY (B bw:Nat) (w:World) (own:Nat->Prop) (s:List Nat) (A:Option Addr) (c:Nat):Prop where
 v:Blk w bw 27 #[.slice A s.length c]
 row:w.ownsRow B 3 1 (.slice A s.length c) s.length (s.flatMap nCs)
 hB:B<=bw
 ne:(Value.slice A s.length c).ownBlock≠some bw
 le:s.length<=300
 o:∀b,own b ↔ b=bw\/(Value.slice A s.length c).ownBlock=some b
theorem ahL (B bw k:Nat) (w:World) (own:Nat->Prop) (s:List Nat) (A:Option Addr) (c:Nat) (h:vY B bw w own s A c) (hs:s.length<300):
 Calls Tryz.prog 194 #[.int .i64 k,.pointer (some ⟨bw,0,none⟩)] w λe w'=>e=.returned (.tuple #[])/\∃own' A' c',vY B bw w' own' (s++[k]) A' c'/\zh B own w own' w':=by
 have c0:w.cell? ⟨bw,0,none⟩=some (.slice A s.length c):=h.v.cell 0
 have zb:=h.v.lt
 have zB:=h.hB
 obtain ⟨i0,hi0,hz0,hz1,hz2⟩:=info_parts wO
 obtain ⟨s',hs'⟩:∃s',s'=s++[k]:=⟨_,rfl⟩
 have Hs:=zL hs'
 clear hs'
 have H:=zL h
 have row:=h.row
 clear h
 go_enter Tryz.func194,Tryz.ntmps194
 go_wp2_with (at_builtin;refine qd _ nCs rfl (.tmp 3) (.tmp 5) 27 rfl B 3 i0 (.int .i64 0) 1 8 Tryz.underlying27 hi0 hz0 hz1 hz2 rfl zO xP adU (.slice A s.length c) s.length (s.flatMap nCs) rfl (row.alloc _) (w.heap.size+1) (some ⟨w.heap.size,0,none⟩) 1 [k] rfl (Rd.zU rfl zO xP) zA8 zBF zA7 ?_;intro v3 w3 row3 g3 at3;obtain ⟨A5,c5,hv5,row3⟩:=qI row3 zO;rw [<-Hs.o] at hv5 row3;have b3:Blk w3 bw 27 #[.slice A s.length c]:=(H.o.v.alloc _).grown g3 H.o.ne.symm;have x0:w3.cell? ⟨bw,0,none⟩=some (.slice A s.length c):=b3.cell 0;have x1:=b3.frozen 0;have B3:=zL b3;clear b3;rw [hv5] at at3 ⊢;clear hv5)
 go_end0
 have hne5:(Value.slice A5 s'.length c5).ownBlock≠some bw:=by
  rcases at3 with e|e
  ·rw [e];exact H.o.ne
  ·rw [e];simp;omega
 refine ⟨rfl,λb=>b=bw\/(Value.slice A5 s'.length c5).ownBlock=some b,A5,c5,?_,?_⟩
 ·rw [<-Hs.o]
  exact ⟨B3.o.qi 0 _,ownsRow_setCell_other row3 hne5 _,zB,hne5,by rw [Hs.o];simp;omega,λb=>Iff.rfl⟩
 ·refine ⟨(ql ((zAA B w).alloc zO _) (row.alloc _) g3 (zD _) zA7).setCell (p:=⟨bw,0,none⟩) zB _,λb hb ho=>?_,λb hb=>?_⟩
  ·have hnb:¬(b=bw\/(Value.slice A s.length c).ownBlock=some b):=λh9=>ho ((H.o.o b).2 h9)
   rw [zAF w3 ⟨bw,0,none⟩ _ b (λe=>hnb (.inl e)),g3.block b zA7 (λe=>hnb (.inr e.symm)),zAr w _ b hb]
  ·rcases hb with hb|hb
   ·exact .inl ((H.o.o b).2 (.inl hb))
   ·rcases at3 with e|e
    ·rw [e] at hb;exact .inl ((H.o.o b).2 (.inr hb))
    ·rw [e] at hb
     simp at hb
     exact .inr zO
theorem abU {base:Nat} {e:TypeId} {size g cap n:Nat}:∀(vs:List Value) (o:Nat) (w:World) (xs:List Value),w.ownsRow base e size (.slice (some ⟨g,0,none⟩) n cap) n xs->o+vs.length<=xs.length→
 (w.setCells g o vs).ownsRow base e size (.slice (some ⟨g,0,none⟩) n cap) n (xs.take o++vs++xs.drop (o+vs.length))/\w.grownBy (w.setCells g o vs) (some g)
 |[],o,w,xs,h,_=>by
  simp only [World.setCells,zAo,zAg,Nat.add_zero,List.take_append_drop]
  exact ⟨h,rfl,rfl,rfl,zD _,λ_ _ _=>rfl⟩
 |v::r,o,w,xs,h,hl=>by
  have hl':o<xs.length:=by simp only [zAL] at hl;omega
  obtain ⟨h1,g1⟩:=h.stored o v
  obtain ⟨h2,g2⟩:=abU r (o+1) (w.setCell ⟨g,o,none⟩ v) (xs.set o v) h1 (by simp only [zAL,List.length_set] at hl ⊢;omega)
  refine ⟨?_,g2.os.trans g1.os,g2.tape.trans g1.tape,g2.output.trans g1.output,zAB g1.size g2.size,λk hk hne=>(g2.block k (zAG hk g1.size) hne).trans (g1.block k hk hne)⟩
  have e1:(xs.set o v).take (o+1)++r++(xs.set o v).drop (o+1+r.length)=xs.take o++v::r++xs.drop (o+(v::r).length):=by
   rw [zAN (by simpa using hl'),List.take_set_of_le (zD _),List.getElem_set_self,List.drop_set_of_lt zO]
   simp only [zAi,List.singleton_append,List.cons_append,zAa,zAL]
   rw [show o+1+r.length=o+(r.length+1) by omega]
  rw [<-e1]
  exact h2
theorem aeD {B:Nat} {a:World} (b:Nat) (hb:B<=b):∀(vs:List Value) (o:Nat) {w:World},Below B a w->Below B a (w.setCells b o vs)
 |[],_,_,h=>h
 |v::r,o,_,h=>aeD b hb r (o+1) (h.setCell (p:=⟨b,o,none⟩) hb v)
theorem kT (s:List Nat):s.flatMap nCs=s.map λn:Nat=>Value.int .i64 n:=by
 induction s with
 |nil=>rfl
 |cons x r ih=>simp [nCs,ih]
theorem aq7 (B:Nat) (w:World) (s:List Nat) (A:Option Addr) (c b:Nat) (h:w.ownsRow B 3 1 (.slice A s.length c) s.length (s.flatMap nCs)) (hb:b<s.length):
 Calls Tryz.prog 196 #[.slice A s.length c,.int .i64 b,.int .i64 (b+1:Int)] w λe w'=>e=.returned (.slice A (s.eraseIdx b).length c)/\w'.ownsRow B 3 1 (.slice A (s.eraseIdx b).length c) (s.eraseIdx b).length ((s.eraseIdx b).flatMap nCs)/\Below B w w'/\w.heap.size<=w'.heap.size/\(∀k,k<w.heap.size->some k≠(Value.slice A s.length c).ownBlock->w'.heap[k]?=w.heap[k]?):=by
 have hlen:(s.eraseIdx b).length=s.length - 1:=List.length_eraseIdx_of_lt hb
 obtain ⟨hx,h0⟩:=id h
 rcases h0 with ⟨_,h1⟩|⟨g,cap,cur,hv,hg,hh,hn,hcap,hsz,htake⟩
 ·omega
 ·cases hv
  have hz:∀j,j<(s.map Int.ofNat).length->w.cell? ⟨g,0+j,none⟩=some (.int .i64 ((s.map Int.ofNat).getD j 0)):=λj hj=>by
   have hj':j<s.length:=by simpa using hj
   rw [Nat.zero_add,h.cellAt j zO,kT]
   simp [List.getD,hj']
  have hf:∀j,j<s.length->w.frozen? ⟨g,0+j,none⟩=false:=λj _=>by rw [Nat.zero_add];exact h.frozenAt j
  have hd:=Tryz.slices_Delete_int_cells g 0 s.length c b (b+1) (s.map Int.ofNat) w zA1 hn (zAB hcap zA4) zO zO hz hf
  have hvs:(((s.map Int.ofNat).take s.length).take b++((s.map Int.ofNat).take s.length).drop (b+1)++List.replicate (b+1 - b) 0).map (Value.int .i64)=(s.eraseIdx b).flatMap nCs++[.int .i64 0]:=by
   have e0:(s.map Int.ofNat).take s.length=s.map Int.ofNat:=zAZ zA1
   have e1:∀r:List Nat,(r.map Int.ofNat).map (Value.int .i64)=r.map λn:Nat=>Value.int .i64 n:=λr=>by rw [List.map_map];rfl
   have e2:b+1 - b=1:=zO
   rw [e0,e2,kT,List.eraseIdx_eq_take_drop_succ,<-List.map_take,<-List.map_drop,<-List.map_append,List.map_append,e1]
   rfl
  rw [hvs] at hd
  refine hd.mono λe w' ⟨he,q,hw⟩=>?_
  have hr0:(w.drewN q).ownsRow B 3 1 (.slice (some ⟨g,0,none⟩) s.length c) s.length (s.flatMap nCs):=h
  obtain ⟨h1,g1⟩:=abU ((s.eraseIdx b).flatMap nCs++[.int .i64 0]) 0 (w.drewN q) (s.flatMap nCs) hr0 (by rw [kT,kT];simp;omega)
  rw [<-hw] at h1 g1
  have e9:(s.flatMap nCs).take 0++((s.eraseIdx b).flatMap nCs++[.int .i64 0])++(s.flatMap nCs).drop (0+((s.eraseIdx b).flatMap nCs++[Value.int .i64 0]).length)=(s.eraseIdx b).flatMap nCs++[.int .i64 0]:=by
   rw [List.drop_of_length_le (by rw [kT,kT];simp;omega)]
   simp
  rw [e9] at h1
  have el:s.length=(s.eraseIdx b).length+1:=zO
  refine ⟨?_,?_,?_,g1.size,λk hk hne=>g1.block k hk λe=>hne (by rw [e];rfl)⟩
  ·rw [he,hlen,show b+1 - b=1 by omega]
  ·rw [el] at h1
   exact ownsRow_pop (by rw [kT];simp) h1
  ·rw [hw]
   exact aeD g hg _ _ (below_drewN (zAA B w) q)
theorem acC {P:Program} {f:FuncId} {args:Array Value} {w:World} {a n:Nat} {v:Value}
 (h:Calls P f args (w.drewN (a+n)) λe w'=>e=.returned v/\∃m,w'=(w.drewN (a+n)).drewN m):
 Calls P f args (w.drewN (a+n)) λe w''=>e=.returned v/\∃m,w''=w.drewN (a+m):=
 h.mono λ_ _ ⟨he,m,hm⟩=>⟨he,n+m,by rw [hm,World.drewN_drewN,Nat.add_assoc]⟩
theorem RdN.get {w:World} {B:Nat} {A:Option Addr} {l:List Nat} (h:Rd w B 1 nCs A l) {i:Nat} (hi:i<l.length):∃b o,A=some ⟨b,o,none⟩/\b<B/\w.cell? ⟨b,o+i,none⟩=some (.int .i64 l[i]):=by
 obtain ⟨b,o,e,hb,hc⟩:=h.at_ hi
 exact zEL
structure acQ (fk:FuncId) (c1 c2:Value) (n:Nat) (key:Nat->Int) (Km:World->Prop):Prop where
 call:∀k w,Km w->k<n->Calls Tryz.prog fk #[.int .i64 k,c1,c2] w λe w'=>e=.returned (.int .i64 (key k))/\∃m,w'=w.drewN m
 drew:∀w m,Km w->Km (w.drewN m)
theorem am8 (key:Nat->Int) (s:List Nat) (b i:Nat) (kb:Int) (hi:i<s.length):xy key b kb i (s.drop i)=if key s[i]<kb then xy key i (key s[i]) (i+1) (s.drop (i+1)) else xy key b kb (i+1) (s.drop (i+1)):=by
 rw [zAE hi]
 rfl
theorem getD_at (s:List Nat) (i:Nat) (hi:i<s.length):s.getD i 0=s[i]:=by simp [List.getD,hi]
theorem abE {key:Nat->Int} {s:List Nat} {b i:Nat} {w:World} {m b':Nat} (hi:i<s.length) (h5:s.length<1000) (h:bestI key s=xy key b (key (s.getD b 0)) i (s.drop i)) (hb':b'<s.length) (hg:(if key s[i]<key (s.getD b 0) then xy key i (key s[i]) (i+1) (s.drop (i+1)) else xy key b (key (s.getD b 0)) (i+1) (s.drop (i+1)))=xy key b' (key (s.getD b' 0)) (i+1) (s.drop (i+1))):
 (∃b2 i2 m2:Nat,Value.int .i64 b'=.int .i64 b2/\Value.int .i64 ((i:Int)+1)=.int .i64 i2/\b2<s.length/\i2<=s.length/\bestI key s=xy key b2 (key (s.getD b2 0)) i2 (s.drop i2)/\w.drewN m=w.drewN m2)/\
  s.length - (intOf (Value.int .i64 ((i:Int)+1))).toNat<s.length - (intOf (Value.int .i64 i)).toNat:=by
 have e:(i:Int)+1=((i+1:Nat):Int):=rfl
 rw [e]
 refine ⟨⟨b',i+1,m,rfl,rfl,hb',hi,?_,rfl⟩,?_⟩
 ·rw [h,am8 key s b i _ hi];exact hg
 ·simp only [intOf];omega
set_option maxHeartbeats 1000000 in
theorem ax1 (B bw bk n:Nat) (c1 c2:Value) (key:Nat->Int) (Km:World->Prop) (w:World) (own:Nat->Prop) (s:List Nat) (A:Option Addr) (c:Nat) (h:vY B bw w own s A c) (hs:0<s.length) (hlt:∀j∈s,j<n)
 (hk:Blk w bk 149 #[.func (.func 173) #[] #[c1,c2]]) (hK:acQ 173 c1 c2 n key Km) (hm:Km w):
 Calls Tryz.prog 195 #[.pointer (some ⟨bw,0,none⟩),.pointer (some ⟨bk,0,none⟩)] w λe w'=>e=.returned (.tuple #[.int .i64 (s.getD (bestI key s) 0),.bool true])/\∃own' A' c',vY B bw w' own' (s.eraseIdx (bestI key s)) A' c'/\zh B own w own' w':=by
 have c0:w.cell? ⟨bw,0,none⟩=some (.slice A s.length c):=h.v.cell 0
 have k0:w.cell? ⟨bk,0,none⟩=some (.func (.func 173) #[] #[c1,c2]):=hk.cell 0
 have hle:s.length<1000:=zCt
 have hn0:((s.length:Int)==0)=false:=zBf
 go_enter Tryz.func195,Tryz.ntmps195
 go_wp2_with fail
 have hrow:Rd w w.heap.size 1 nCs A s:=Rd.qA h.row zO xP
 have HK:=zL hK.call
 have HD:=zL hK.drew
 have HM:=zL hm
 have HL:=zL hlt
 clear hm hlt
 go_loopw [4,13] (λbv iv wr=>∃b i m:Nat,bv=.int .i64 b/\iv=.int .i64 i/\b<s.length/\i<=s.length/\bestI key s=xy key b (key (s.getD b 0)) i (s.drop i)/\wr=w.drewN m) (λ_ iv _=>s.length - (intOf iv).toNat)
 case atStart=>exact ⟨0,0,0,rfl,rfl,hs,zAK _,rfl,rfl⟩
 case round=>
  obtain ⟨b,i,m,rfl,rfl,hb,hi,heq,rfl⟩:=hrel
  have Heq:=zL heq
  clear heq
  by_cases hlt:i<s.length
  ·obtain ⟨g,o,hA,hg,e0⟩:=RdN.get hrow hlt
   obtain ⟨g',o',hA',hg',e1⟩:=RdN.get hrow hb
   rw [hA] at hA'
   simp only [zAC,zAS,and_true] at hA'
   obtain ⟨rfl,rfl⟩:=hA'
   subst hA
   have hki:=HL.o _ (zd hlt)
   have hkb:=HL.o _ (zd hb)
   have hb2:(b:Int)<(s.length:Int):=zO
   have hb0:(0:Int)<=(b:Int):=zO
   by_cases hc:key s[i]<key s[b]
   ·go_wp2_with fail
    go_quiet ((go_at_call 173;exact acC (HK.o _ _ (HD.o _ _ HM.o) zCU)))
    go_wp2
    exact abE hlt hle Heq.o hlt zC3
   ·go_wp2_with fail
    go_quiet ((go_at_call 173;exact acC (HK.o _ _ (HD.o _ _ HM.o) zCU)))
    exact zFa
  ·exact zDO
theorem asc_len (m:Nat) (s:List Nat) (lo:Nat) (h0:∀j∈s,lo<=j) (h1:∀j∈s,j<m) (h2:s.Pairwise (·< ·)):s=[]\/s.length+lo<=m:=by
 induction s generalizing lo with
 |nil=>exact .inl rfl
 |cons x r ih=>
  obtain ⟨h3,h4⟩:=zAd.1 h2
  have hx:=h0 x zAD
  have hm:=h1 x zAD
  rcases ih (x+1) (λj hj=>h3 j hj) (λj hj=>h1 j (zAJ _ hj)) h4 with rfl|h
  ·exact .inr zA7
  ·exact .inr zA7
theorem ym {w w':World} {base:Nat} {e:TypeId} {size:Nat} {v:Value} {n:Nat} {xs:List Value} (h:w.ownsRow base e size v n xs) (hs:∀g,v.ownBlock=some g->w'.heap[g]?=w.heap[g]?):w'.ownsRow base e size v n xs:=zDt
theorem vY.alloc {B bw:Nat} {w:World} {own:Nat->Prop} {s:List Nat} {A:Option Addr} {c:Nat} (h:vY B bw w own s A c) (o:Obj):vY B bw (w.alloc o) own s A c:=⟨h.v.alloc o,h.row.alloc o,h.hB,h.ne,h.le,h.o⟩
theorem vY.size {B bw:Nat} {w:World} {own:Nat->Prop} {s:List Nat} {A:Option Addr} {c:Nat} (h:vY B bw w own s A c):B<=w.heap.size:=zAB h.hB (Nat.le_of_lt h.v.lt)
theorem af2 (B bw bk:Nat) (w:World) (own:Nat->Prop) (A:Option Addr) (c:Nat) (h:vY B bw w own [] A c):
 Calls Tryz.prog 195 #[.pointer (some ⟨bw,0,none⟩),.pointer (some ⟨bk,0,none⟩)] w λe w'=>e=.returned (.tuple #[.int .i64 0,.bool false])/\w=w':=by
 have c0:w.cell? ⟨bw,0,none⟩=some (.slice A 0 c):=h.v.cell 0
 clear h
 go_enter Tryz.func195,Tryz.ntmps195
 go_wp2_with fail
 go_ret2
 exact ⟨rfl,rfl⟩
def jJ (bw bk:Nat):Value:=.agg #[.func (.func 194) #[] #[.pointer (some ⟨bw,0,none⟩)],.func (.func 195) #[] #[.pointer (some ⟨bw,0,none⟩),.pointer (some ⟨bk,0,none⟩)],.nilFunc]
structure aeI (n B bw:Nat) (w0 w:World) (own:Nat->Prop) (s:List Nat):Prop where
 bel:Below B w0 w
 lt:∀j∈s,j<n
 wm:∃A c,vY B bw w own s A c
theorem amA (w0:World) (B bw bk n:Nat) (c1 c2:Value) (key:Nat->Int) (hn:n<=300) (hbk:bk<B) (hk:Blk w0 bk 149 #[.func (.func 173) #[] #[c1,c2]]) (hK:acQ 173 c1 c2 n key (λw=>Below B w0 w)):
 afM (jJ bw bk) (leastM key) n B (aeI n B bw w0) where
 own_:=fun {w own s} h b hb=>by
  exact zE0
 stay:=fun {w w' own s} h hs hb=>by
  exact zEk
 come:=fun {w own s} k h ⟨hk1,hk2⟩ hkn=>by
  exact zDm
 none_:=fun {w own s m} h hok hp=>by
  exact zDl
 some_:=fun {w own s m} k s' h hok hp=>by
  obtain ⟨hb0,hln,A,c,h⟩:=h
  have hlt:∀j∈s,j<m:=hok.1
  have hsk:0<s.length/\s.getD (bestI key s) 0=k/\s.eraseIdx (bestI key s)=s':=zEy
  obtain ⟨hs,ek,rfl⟩:=hsk
  have Hk:=zL ek
  have hB:=h.size
  clear hp ek
  have kk0:=qQ (qB B own w) hB (.cells #[.func (.func 194) #[] #[.pointer (some ⟨bw,0,none⟩)],.func (.func 195) #[] #[.pointer (some ⟨bw,0,none⟩),.pointer (some ⟨bk,0,none⟩)],.nilFunc] 262)
  have hb1:=hb0.trans kk0.1
  unfold jJ
  go_enter Tryz.func279,Tryz.ntmps279
  go_wp2_with fail
  refine (ax1 B bw bk n c1 c2 key (λw=>Below B w0 w) _ own s A c (h.alloc _) hs hln (hk.below hb1 hbk) hK hb1).mono ?_
  exact zEV
 rest:=fun {w own s m} h hok hw=>by
  exact zDw
set_option maxHeartbeats 400000 in
theorem atB (A:Option Addr) (c:Nat) (p:List Pk) (per:Int) (c1 c2:Value) (key:Nat->Int) (w:World) (B0:Nat) (hB:B0<=w.heap.size) (h:RdP w B0 A p)
 (hp:∀x∈p,zg x) (hl:p.length<=300) (h0:1<=per) (h1:per<=1000) (hK:acQ 173 c1 c2 p.length key (λw'=>Below w.heap.size w w')):
 Calls Tryz.prog 172 #[.slice A p.length c,.int .i64 per,.func (.func 173) #[] #[c1,c2]] w (vI Sn.cs 3 64 (xR p per key) w):=by
 have hbel:Below w.heap.size w ((w.alloc (.cells #[.func (.func 173) #[] #[c1,c2]] 149)).alloc (.cells #[.slice none 0 0] 27)):=((zAA _ _).alloc (zD _) _).alloc zA1 _
 have hKK:acQ 173 c1 c2 p.length key (λw'=>Below (w.heap.size+1) ((w.alloc (.cells #[.func (.func 173) #[] #[c1,c2]] 149)).alloc (.cells #[.slice none 0 0] 27)) w'):=
  ⟨λk w' hw hk=>hK.call k w' (hbel.trans (hw.mono (Nat.le_succ _))) hk,λw' m hw=>below_drewN hw m⟩
 have HK:=zL hKK
 clear hK hKK
 go_enter Tryz.func172,Tryz.ntmps172
 go_wp2_with fail
 refine (adG (R:=jJ (w.heap.size+1) w.heap.size) (M:=leastM key) (Mem:=aeI p.length (w.heap.size+1) (w.heap.size+1) ((w.alloc (.cells #[.func (.func 173) #[] #[c1,c2]] 149)).alloc (.cells #[.slice none 0 0] 27))) A c p per (w.heap.size+1) [] (λb=>b=w.heap.size+1\/(Value.slice none ([]:List Nat).length 0).ownBlock=some b) _ zA1
  (((h.more hB).below hbel).more (Nat.le_succ _)) hp hl h0 h1 (xu key _) (amA _ _ _ _ _ c1 c2 key hl (Nat.lt_succ_self _) ((Blk.new _ _ _).alloc _) HK.o) ⟨zAA _ _,by simp,none,0,qN _ _ _,⟨by simp,.inl ⟨rfl,rfl⟩⟩,zD _,by simp [Value.ownBlock],by simp,λb=>Iff.rfl⟩ rfl ⟨by simp,List.Pairwise.nil⟩).mono ?_
 rintro e w2 ⟨A',c',own',rfl,row,hb2,_⟩
 go_wp2_with fail
 go_ret
 exact ⟨A',c',rfl,qO row hbel.size,hbel.trans (hb2.mono (Nat.le_succ _))⟩
def qM (p:List Pk) (per:Int) (l:List Int) (most:Int):Nat × Int:=if (qm p per).1=0 then (vz l most,-1) else qm p per
theorem alV {most:Int} {l:List Int} {k:Nat} (h:¬0<=vN most l k):∀n∈l,0<=n/\n<=most:=by
 induction l generalizing k with
 |nil=>simp
 |cons x r ih=>
  unfold vN at h
  split at h
  ·exact zAv (zAf k) h
  ·rename_i h1
   intro n hn
   rcases zAM.1 hn with rfl|hn
   ·simp only [aoR,decide_eq_true_eq] at h1;omega
   ·exact ih h n hn
theorem uT {p:List Pk} {per:Int} {l:List Int} {most:Int} (h:(qM p per l most).1=0):(qm p per).1=0/\vz l most=0/\l.length=8/\(∀n∈l,0<=n/\n<=most)/\qM p per l most=(0,-1):=by
 unfold qM at h ⊢
 by_cases h1:(qm p per).1=0
 ·rw [zp h1] at h ⊢
  have h':=h
  unfold vz at h
  by_cases h8:l.length=8
  ·rw [zp h8] at h
   by_cases ho:0<=vN most l 0
   ·rw [zp ho] at h;simp at h
   ·exact ⟨h1,h',h8,alV ho,by rw [show vz l most=0 from h']⟩
  ·rw [z6 h8] at h;simp at h
 ·rw [z6 h1] at h;exact zAv h h1
set_option maxHeartbeats 1000000 in
theorem aoC (A A':Option Addr) (c c':Nat) (p:List Pk) (per:Int) (ranks:List Int) (S:Nat->Addr) (w:World) (B:Nat) (hB:B<=w.heap.size) (h:RdP w B A p) (h':RdI w B A' ranks) (hS:Snt w B S [2,3,5]) (hl:p.length<=9223372036854775807) (hl':ranks.length<=9223372036854775807) (hok:(qM p per ranks 100).1=0):
 Calls Tryz.prog 146 #[.slice A p.length c,.int .i64 per,.slice A' ranks.length c'] w (yE Sn.cs 3 64 (xR p per (xO p ranks)) S (qM p per ranks 100).1 (qM p per ranks 100).2 w):=by
 obtain ⟨e1,e2,h8,_,e3⟩:=uT hok
 obtain ⟨hf,h300,hpk,h0,h1⟩:=zI e1
 have Hf:=zL hf
 have Hn:=zL e2
 have He:=zL e3
 have H8:=zL h8
 clear hf hok e1 e2 e3 h8
 have ba:Below w.heap.size w ((w.alloc (.cells #[.slice A p.length c] 46)).alloc (.cells #[.slice A' ranks.length c'] 27)):=((zAA _ _).alloc (zD _) _).alloc zA1 _
 have bp:Blk ((w.alloc (.cells #[.slice A p.length c] 46)).alloc (.cells #[.slice A' ranks.length c'] 27)) w.heap.size 46 #[.slice A p.length c]:=(Blk.new _ _ _).alloc _
 have br:Blk ((w.alloc (.cells #[.slice A p.length c] 46)).alloc (.cells #[.slice A' ranks.length c'] 27)) (w.heap.size+1) 27 #[.slice A' ranks.length c']:=qN _ _ _
 obtain ⟨wa,hwa⟩:∃wa,wa=((w.alloc (.cells #[.slice A p.length c] 46)).alloc (.cells #[.slice A' ranks.length c'] 27)):=⟨_,rfl⟩
 rw [<-hwa] at ba bp br
 have sa:wa.heap.size=w.heap.size+2:=by rw [hwa];simp
 have x0:wa.cell? ⟨w.heap.size,0,none⟩=some (.slice A p.length c):=bp.cell 0
 have x1:wa.cell? ⟨w.heap.size+1,0,none⟩=some (.slice A' ranks.length c'):=br.cell 0
 go_enter Tryz.func146,Tryz.ntmps146
 go_wp2_with fail
 rw [<-hwa]
 refine (xK A c p per S wa B zO (h.below (ba.mono hB)) ((hS.below (ba.mono hB)).sub zA1) hl).mono ?_
 rintro e w1 ⟨v,rfl,hv,hb1⟩
 obtain rfl:=hv.qK zCF
 have y0:w1.cell? ⟨w.heap.size+1,0,none⟩=some (.slice A' ranks.length c'):=(hb1.cell (p:=⟨w.heap.size+1,0,none⟩) zBc).trans x1
 have z1:=hb1.size
 have k1:=ba.trans (hb1.mono zO)
 go_wp2_with fail
 refine (jP A' c' ranks 100 S w1 B zO (h'.below (k1.mono hB)) ((hS.below (k1.mono hB)).sub zA1) hl').mono ?_
 rintro e w2 ⟨v,rfl,hv,hb2⟩
 obtain rfl:=hv.qK Hn.o
 have z2:=hb2.size
 have k12:Below wa.heap.size wa w2:=hb1.trans (hb2.mono z1)
 have k2:=ba.trans (k12.mono zO)
 have y1:w2.cell? ⟨w.heap.size,0,none⟩=some (.slice A p.length c):=(k12.cell (p:=⟨w.heap.size,0,none⟩) zBc).trans x0
 have hK:acQ 173 (.pointer (some ⟨w.heap.size+1,0,none⟩)) (.pointer (some ⟨w.heap.size,0,none⟩)) p.length (xO p ranks) (λw'=>Below w2.heap.size w2 w'):=
  ⟨λk w' hw hk=>avR k A A' c c' p ranks w.heap.size (w.heap.size+1) w' B ((h.below (k2.mono hB)).below (hw.mono zO)) ((h'.below (k2.mono hB)).below (hw.mono zO)) ((bp.below k12 zO).below hw zO) ((br.below k12 zO).below hw zO) hk H8.o (hpk _ (zd hk)).1 (hpk _ (zd hk)).2.1,
   λw' m hw=>below_drewN hw m⟩
 have HK:=zL hK
 clear hK
 go_wp2_with fail
 refine (atB A c p per _ _ (xO p ranks) w2 B zO (h.below (k2.mono hB)) hpk h300 h0 h1 HK.o).mono ?_
 rintro e w3 ⟨A3,c3,rfl,row,hb3⟩
 go_wp2_with fail
 go_ret2
 rw [He.o]
 exact ⟨A3,c3,_,rfl,qO row k2.size,.nil,k2.trans (hb3.mono k2.size)⟩
set_option maxHeartbeats 1000000 in
theorem alP (A A':Option Addr) (c c':Nat) (p:List Pk) (per:Int) (ranks:List Int) (S:Nat->Addr) (w:World) (B:Nat) (hB:B<=w.heap.size) (h:RdP w B A p) (h':RdI w B A' ranks) (hS:Snt w B S [2,3,5]) (hl:p.length<=9223372036854775807) (hl':ranks.length<=9223372036854775807) (hok:(qM p per ranks 100).1≠0):
 Calls Tryz.prog 146 #[.slice A p.length c,.int .i64 per,.slice A' ranks.length c'] w (yE Sn.cs 3 64 [] S (qM p per ranks 100).1 (qM p per ranks 100).2 w):=by
 have ba:Below w.heap.size w ((w.alloc (.cells #[.slice A p.length c] 46)).alloc (.cells #[.slice A' ranks.length c'] 27)):=((zAA _ _).alloc (zD _) _).alloc zA1 _
 have br:Blk ((w.alloc (.cells #[.slice A p.length c] 46)).alloc (.cells #[.slice A' ranks.length c'] 27)) (w.heap.size+1) 27 #[.slice A' ranks.length c']:=qN _ _ _
 obtain ⟨wa,hwa⟩:∃wa,wa=((w.alloc (.cells #[.slice A p.length c] 46)).alloc (.cells #[.slice A' ranks.length c'] 27)):=⟨_,rfl⟩
 rw [<-hwa] at ba br
 have sa:wa.heap.size=w.heap.size+2:=by rw [hwa];simp
 have x0:wa.cell? ⟨w.heap.size,0,none⟩=some (.slice A p.length c):=zB5
 have x1:wa.cell? ⟨w.heap.size+1,0,none⟩=some (.slice A' ranks.length c'):=br.cell 0
 by_cases h1:(qm p per).1=0
 ·obtain ⟨hf,_,_,_,_⟩:=zI h1
  have He:=zM (qM p per ranks 100=(vz ranks 100,-1)) (zp h1)
  have Hn:=zM (vz ranks 100≠0) zCV
  have Hf:=zL hf
  clear hok hf h1
  go_enter Tryz.func146,Tryz.ntmps146
  go_wp2_with fail
  rw [<-hwa]
  refine (xK A c p per S wa B zO (h.below (ba.mono hB)) ((hS.below (ba.mono hB)).sub zA1) hl).mono ?_
  rintro e w1 ⟨v,rfl,hv,hb1⟩
  obtain rfl:=hv.qK zCF
  have y0:w1.cell? ⟨w.heap.size+1,0,none⟩=some (.slice A' ranks.length c'):=(hb1.cell (p:=⟨w.heap.size+1,0,none⟩) zBc).trans x1
  have z1:=hb1.size
  have k1:=ba.trans (hb1.mono zO)
  go_wp2_with fail
  refine (jP A' c' ranks 100 S w1 B zO (h'.below (k1.mono hB)) ((hS.below (k1.mono hB)).sub zA1) hl').mono ?_
  exact zEY
 ·have He:=zM (qM p per ranks 100=qm p per) (z6 h1)
  have Hn:=zL h1
  clear hok h1
  go_enter Tryz.func146,Tryz.ntmps146
  exact zD5
def vH (p:List Pk) (dues:List Int) (k:Nat):Int:=aOf p k+dues.getD (fOf p k).toNat 0
theorem axG (k:Nat) (A A':Option Addr) (c c':Nat) (p:List Pk) (l:List Int) (bp br:Nat) (w:World) (B:Nat) (hp:RdP w B A p) (hl:RdI w B A' l) (h1:Blk w bp 46 #[.slice A p.length c]) (h2:Blk w br 27 #[.slice A' l.length c'])
 (hk:k<p.length) (h8:l.length=8) (hok:zg p[k]) (hm:∀n∈l,0<=n/\n<=1099511627776):
 Calls Tryz.prog 174 #[.int .i64 k,.pointer (some ⟨bp,0,none⟩),.pointer (some ⟨br,0,none⟩)] w λe w'=>e=.returned (.int .i64 (vH p l k))/\∃m,w'=w.drewN m:=by
 obtain ⟨hf0,hf1,_,_,ha0,ha1⟩:=hok
 have c1:w.cell? ⟨bp,0,none⟩=some (.slice A p.length c):=h1.cell 0
 have c2:w.cell? ⟨br,0,none⟩=some (.slice A' l.length c'):=h2.cell 0
 obtain ⟨b,o,rfl,hb,d0,d1,d2⟩:=RdP.get hp hk
 obtain ⟨f,hf⟩:∃f:Nat,p[k].f=f:=⟨p[k].f.toNat,by omega⟩
 have hfl:f<l.length:=zO
 obtain ⟨b',o',rfl,hb',e0⟩:=RdI.get hl hfl
 have Hk:=zM (vH p l k=p[k].a+l[f]) (by unfold vH;rw [zy hk,vR hk,hf,zAX];simp [List.getD,hfl])
 rw [hf] at d0
 obtain ⟨hm0,hm1⟩:=hm _ (zd hfl)
 clear hf hf0 hf1 h1 h2 h8 hm
 have q1:(0:Int)<=(f:Int):=zO
 have q2:(f:Int)<(l.length:Int):=zO
 have q3:(0:Int)<=(k:Int):=zO
 have q4:(k:Int)<(p.length:Int):=zO
 go_enter Tryz.func174,Tryz.ntmps174
 go_wp2_with fail
 go_quiet (fail)
 go_wp2
 go_ret
 exact ⟨yh Hk.o.symm,_,rfl⟩
set_option maxHeartbeats 1000000 in
theorem auR (B bw bk n:Nat) (c1 c2:Value) (key:Nat->Int) (Km:World->Prop) (w:World) (own:Nat->Prop) (s:List Nat) (A:Option Addr) (c:Nat) (h:vY B bw w own s A c) (hs:0<s.length) (hlt:∀j∈s,j<n)
 (hk:Blk w bk 149 #[.func (.func 174) #[] #[c1,c2]]) (hK:acQ 174 c1 c2 n key Km) (hm:Km w):
 Calls Tryz.prog 195 #[.pointer (some ⟨bw,0,none⟩),.pointer (some ⟨bk,0,none⟩)] w λe w'=>e=.returned (.tuple #[.int .i64 (s.getD (bestI key s) 0),.bool true])/\∃own' A' c',vY B bw w' own' (s.eraseIdx (bestI key s)) A' c'/\zh B own w own' w':=by
 have c0:w.cell? ⟨bw,0,none⟩=some (.slice A s.length c):=h.v.cell 0
 have k0:w.cell? ⟨bk,0,none⟩=some (.func (.func 174) #[] #[c1,c2]):=hk.cell 0
 have hle:s.length<1000:=zCt
 have hn0:((s.length:Int)==0)=false:=zBf
 go_enter Tryz.func195,Tryz.ntmps195
 go_wp2_with fail
 have hrow:Rd w w.heap.size 1 nCs A s:=Rd.qA h.row zO xP
 have HK:=zL hK.call
 have HD:=zL hK.drew
 have HM:=zL hm
 have HL:=zL hlt
 clear hm hlt
 go_loopw [4,13] (λbv iv wr=>∃b i m:Nat,bv=.int .i64 b/\iv=.int .i64 i/\b<s.length/\i<=s.length/\bestI key s=xy key b (key (s.getD b 0)) i (s.drop i)/\wr=w.drewN m) (λ_ iv _=>s.length - (intOf iv).toNat)
 case atStart=>exact ⟨0,0,0,rfl,rfl,hs,zAK _,rfl,rfl⟩
 case round=>
  obtain ⟨b,i,m,rfl,rfl,hb,hi,heq,rfl⟩:=hrel
  have Heq:=zL heq
  clear heq
  by_cases hlt:i<s.length
  ·obtain ⟨g,o,hA,hg,e0⟩:=RdN.get hrow hlt
   obtain ⟨g',o',hA',hg',e1⟩:=RdN.get hrow hb
   rw [hA] at hA'
   simp only [zAC,zAS,and_true] at hA'
   obtain ⟨rfl,rfl⟩:=hA'
   subst hA
   have hki:=HL.o _ (zd hlt)
   have hkb:=HL.o _ (zd hb)
   have hb2:(b:Int)<(s.length:Int):=zO
   have hb0:(0:Int)<=(b:Int):=zO
   by_cases hc:key s[i]<key s[b]
   ·go_wp2_with fail
    go_quiet ((go_at_call 174;exact acC (HK.o _ _ (HD.o _ _ HM.o) zCU)))
    go_wp2
    exact abE hlt hle Heq.o hlt zC3
   ·go_wp2_with fail
    go_quiet ((go_at_call 174;exact acC (HK.o _ _ (HD.o _ _ HM.o) zCU)))
    exact zFa
  ·exact zDO
theorem akQ (w0:World) (B bw bk n:Nat) (c1 c2:Value) (key:Nat->Int) (hn:n<=300) (hbk:bk<B) (hk:Blk w0 bk 149 #[.func (.func 174) #[] #[c1,c2]]) (hK:acQ 174 c1 c2 n key (λw=>Below B w0 w)):
 afM (jJ bw bk) (leastM key) n B (aeI n B bw w0) where
 own_:=fun {w own s} h b hb=>by
  exact zE0
 stay:=fun {w w' own s} h hs hb=>by
  exact zEk
 come:=fun {w own s} k h ⟨hk1,hk2⟩ hkn=>by
  exact zDm
 none_:=fun {w own s m} h hok hp=>by
  exact zDl
 some_:=fun {w own s m} k s' h hok hp=>by
  obtain ⟨hb0,hln,A,c,h⟩:=h
  have hlt:∀j∈s,j<m:=hok.1
  have hsk:0<s.length/\s.getD (bestI key s) 0=k/\s.eraseIdx (bestI key s)=s':=zEy
  obtain ⟨hs,ek,rfl⟩:=hsk
  have Hk:=zL ek
  have hB:=h.size
  clear hp ek
  have kk0:=qQ (qB B own w) hB (.cells #[.func (.func 194) #[] #[.pointer (some ⟨bw,0,none⟩)],.func (.func 195) #[] #[.pointer (some ⟨bw,0,none⟩),.pointer (some ⟨bk,0,none⟩)],.nilFunc] 262)
  have hb1:=hb0.trans kk0.1
  unfold jJ
  go_enter Tryz.func279,Tryz.ntmps279
  go_wp2_with fail
  refine (auR B bw bk n c1 c2 key (λw=>Below B w0 w) _ own s A c (h.alloc _) hs hln (hk.below hb1 hbk) hK hb1).mono ?_
  exact zEV
 rest:=fun {w own s m} h hok hw=>by
  exact zDw
set_option maxHeartbeats 400000 in
theorem ao5 (A:Option Addr) (c:Nat) (p:List Pk) (per:Int) (c1 c2:Value) (key:Nat->Int) (w:World) (B0:Nat) (hB:B0<=w.heap.size) (h:RdP w B0 A p)
 (hp:∀x∈p,zg x) (hl:p.length<=300) (h0:1<=per) (h1:per<=1000) (hK:acQ 174 c1 c2 p.length key (λw'=>Below w.heap.size w w')):
 Calls Tryz.prog 172 #[.slice A p.length c,.int .i64 per,.func (.func 174) #[] #[c1,c2]] w (vI Sn.cs 3 64 (xR p per key) w):=by
 have hbel:Below w.heap.size w ((w.alloc (.cells #[.func (.func 174) #[] #[c1,c2]] 149)).alloc (.cells #[.slice none 0 0] 27)):=((zAA _ _).alloc (zD _) _).alloc zA1 _
 have hKK:acQ 174 c1 c2 p.length key (λw'=>Below (w.heap.size+1) ((w.alloc (.cells #[.func (.func 174) #[] #[c1,c2]] 149)).alloc (.cells #[.slice none 0 0] 27)) w'):=
  ⟨λk w' hw hk=>hK.call k w' (hbel.trans (hw.mono (Nat.le_succ _))) hk,λw' m hw=>below_drewN hw m⟩
 have HK:=zL hKK
 clear hK hKK
 go_enter Tryz.func172,Tryz.ntmps172
 go_wp2_with fail
 refine (adG (R:=jJ (w.heap.size+1) w.heap.size) (M:=leastM key) (Mem:=aeI p.length (w.heap.size+1) (w.heap.size+1) ((w.alloc (.cells #[.func (.func 174) #[] #[c1,c2]] 149)).alloc (.cells #[.slice none 0 0] 27))) A c p per (w.heap.size+1) [] (λb=>b=w.heap.size+1\/(Value.slice none ([]:List Nat).length 0).ownBlock=some b) _ zA1
  (((h.more hB).below hbel).more (Nat.le_succ _)) hp hl h0 h1 (xu key _) (akQ _ _ _ _ _ c1 c2 key hl (Nat.lt_succ_self _) ((Blk.new _ _ _).alloc _) HK.o) ⟨zAA _ _,by simp,none,0,qN _ _ _,⟨by simp,.inl ⟨rfl,rfl⟩⟩,zD _,by simp [Value.ownBlock],by simp,λb=>Iff.rfl⟩ rfl ⟨by simp,List.Pairwise.nil⟩).mono ?_
 rintro e w2 ⟨A',c',own',rfl,row,hb2,_⟩
 go_wp2_with fail
 go_ret
 exact ⟨A',c',rfl,qO row hbel.size,hbel.trans (hb2.mono (Nat.le_succ _))⟩
set_option maxHeartbeats 1000000 in
theorem aoE (A A':Option Addr) (c c':Nat) (p:List Pk) (per:Int) (ranks:List Int) (S:Nat->Addr) (w:World) (B:Nat) (hB:B<=w.heap.size) (h:RdP w B A p) (h':RdI w B A' ranks) (hS:Snt w B S [2,3,5]) (hl:p.length<=9223372036854775807) (hl':ranks.length<=9223372036854775807) (hok:(qM p per ranks 1099511627776).1=0):
 Calls Tryz.prog 147 #[.slice A p.length c,.int .i64 per,.slice A' ranks.length c'] w (yE Sn.cs 3 64 (xR p per (vH p ranks)) S (qM p per ranks 1099511627776).1 (qM p per ranks 1099511627776).2 w):=by
 obtain ⟨e1,e2,h8,hmost,e3⟩:=uT hok
 obtain ⟨hf,h300,hpk,h0,h1⟩:=zI e1
 have Hf:=zL hf
 have Hn:=zL e2
 have He:=zL e3
 have H8:=zL h8
 clear hf hok e1 e2 e3 h8
 have ba:Below w.heap.size w ((w.alloc (.cells #[.slice A p.length c] 46)).alloc (.cells #[.slice A' ranks.length c'] 27)):=((zAA _ _).alloc (zD _) _).alloc zA1 _
 have bp:Blk ((w.alloc (.cells #[.slice A p.length c] 46)).alloc (.cells #[.slice A' ranks.length c'] 27)) w.heap.size 46 #[.slice A p.length c]:=(Blk.new _ _ _).alloc _
 have br:Blk ((w.alloc (.cells #[.slice A p.length c] 46)).alloc (.cells #[.slice A' ranks.length c'] 27)) (w.heap.size+1) 27 #[.slice A' ranks.length c']:=qN _ _ _
 obtain ⟨wa,hwa⟩:∃wa,wa=((w.alloc (.cells #[.slice A p.length c] 46)).alloc (.cells #[.slice A' ranks.length c'] 27)):=⟨_,rfl⟩
 rw [<-hwa] at ba bp br
 have sa:wa.heap.size=w.heap.size+2:=by rw [hwa];simp
 have x0:wa.cell? ⟨w.heap.size,0,none⟩=some (.slice A p.length c):=bp.cell 0
 have x1:wa.cell? ⟨w.heap.size+1,0,none⟩=some (.slice A' ranks.length c'):=br.cell 0
 go_enter Tryz.func147,Tryz.ntmps147
 go_wp2_with fail
 rw [<-hwa]
 refine (xK A c p per S wa B zO (h.below (ba.mono hB)) ((hS.below (ba.mono hB)).sub zA1) hl).mono ?_
 rintro e w1 ⟨v,rfl,hv,hb1⟩
 obtain rfl:=hv.qK zCF
 have y0:w1.cell? ⟨w.heap.size+1,0,none⟩=some (.slice A' ranks.length c'):=(hb1.cell (p:=⟨w.heap.size+1,0,none⟩) zBc).trans x1
 have z1:=hb1.size
 have k1:=ba.trans (hb1.mono zO)
 go_wp2_with fail
 refine (jP A' c' ranks 1099511627776 S w1 B zO (h'.below (k1.mono hB)) ((hS.below (k1.mono hB)).sub zA1) hl').mono ?_
 rintro e w2 ⟨v,rfl,hv,hb2⟩
 obtain rfl:=hv.qK Hn.o
 have z2:=hb2.size
 have k12:Below wa.heap.size wa w2:=hb1.trans (hb2.mono z1)
 have k2:=ba.trans (k12.mono zO)
 have y1:w2.cell? ⟨w.heap.size,0,none⟩=some (.slice A p.length c):=(k12.cell (p:=⟨w.heap.size,0,none⟩) zBc).trans x0
 have hK:acQ 174 (.pointer (some ⟨w.heap.size,0,none⟩)) (.pointer (some ⟨w.heap.size+1,0,none⟩)) p.length (vH p ranks) (λw'=>Below w2.heap.size w2 w'):=
  ⟨λk w' hw hk=>axG k A A' c c' p ranks w.heap.size (w.heap.size+1) w' B ((h.below (k2.mono hB)).below (hw.mono zO)) ((h'.below (k2.mono hB)).below (hw.mono zO)) ((bp.below k12 zO).below hw zO) ((br.below k12 zO).below hw zO) hk H8.o (hpk _ (zd hk)) hmost,
   λw' m hw=>below_drewN hw m⟩
 have HK:=zL hK
 clear hK
 go_wp2_with fail
 refine (ao5 A c p per _ _ (vH p ranks) w2 B zO (h.below (k2.mono hB)) hpk h300 h0 h1 HK.o).mono ?_
 rintro e w3 ⟨A3,c3,rfl,row,hb3⟩
 go_wp2_with fail
 go_ret2
 rw [He.o]
 exact ⟨A3,c3,_,rfl,qO row k2.size,.nil,k2.trans (hb3.mono k2.size)⟩
set_option maxHeartbeats 1000000 in
theorem alQ (A A':Option Addr) (c c':Nat) (p:List Pk) (per:Int) (ranks:List Int) (S:Nat->Addr) (w:World) (B:Nat) (hB:B<=w.heap.size) (h:RdP w B A p) (h':RdI w B A' ranks) (hS:Snt w B S [2,3,5]) (hl:p.length<=9223372036854775807) (hl':ranks.length<=9223372036854775807) (hok:(qM p per ranks 1099511627776).1≠0):
 Calls Tryz.prog 147 #[.slice A p.length c,.int .i64 per,.slice A' ranks.length c'] w (yE Sn.cs 3 64 [] S (qM p per ranks 1099511627776).1 (qM p per ranks 1099511627776).2 w):=by
 have ba:Below w.heap.size w ((w.alloc (.cells #[.slice A p.length c] 46)).alloc (.cells #[.slice A' ranks.length c'] 27)):=((zAA _ _).alloc (zD _) _).alloc zA1 _
 have br:Blk ((w.alloc (.cells #[.slice A p.length c] 46)).alloc (.cells #[.slice A' ranks.length c'] 27)) (w.heap.size+1) 27 #[.slice A' ranks.length c']:=qN _ _ _
 obtain ⟨wa,hwa⟩:∃wa,wa=((w.alloc (.cells #[.slice A p.length c] 46)).alloc (.cells #[.slice A' ranks.length c'] 27)):=⟨_,rfl⟩
 rw [<-hwa] at ba br
 have sa:wa.heap.size=w.heap.size+2:=by rw [hwa];simp
 have x0:wa.cell? ⟨w.heap.size,0,none⟩=some (.slice A p.length c):=zB5
 have x1:wa.cell? ⟨w.heap.size+1,0,none⟩=some (.slice A' ranks.length c'):=br.cell 0
 by_cases h1:(qm p per).1=0
 ·obtain ⟨hf,_,_,_,_⟩:=zI h1
  have He:=zM (qM p per ranks 1099511627776=(vz ranks 1099511627776,-1)) (zp h1)
  have Hn:=zM (vz ranks 1099511627776≠0) zCV
  have Hf:=zL hf
  clear hok hf h1
  go_enter Tryz.func147,Tryz.ntmps147
  go_wp2_with fail
  rw [<-hwa]
  refine (xK A c p per S wa B zO (h.below (ba.mono hB)) ((hS.below (ba.mono hB)).sub zA1) hl).mono ?_
  rintro e w1 ⟨v,rfl,hv,hb1⟩
  obtain rfl:=hv.qK zCF
  have y0:w1.cell? ⟨w.heap.size+1,0,none⟩=some (.slice A' ranks.length c'):=(hb1.cell (p:=⟨w.heap.size+1,0,none⟩) zBc).trans x1
  have z1:=hb1.size
  have k1:=ba.trans (hb1.mono zO)
  go_wp2_with fail
  refine (jP A' c' ranks 1099511627776 S w1 B zO (h'.below (k1.mono hB)) ((hS.below (k1.mono hB)).sub zA1) hl').mono ?_
  exact zEY
 ·have He:=zM (qM p per ranks 1099511627776=qm p per) (z6 h1)
  have Hn:=zL h1
  clear hok h1
  go_enter Tryz.func147,Tryz.ntmps147
  exact zD5
end Go.Proofs.YtoomffajodheaaaGreatDoor
