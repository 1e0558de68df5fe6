/- The proof of ScriptPlays, part ShB. Conditions: in each statement. -/
import Derived.Test.YtoomffajodheaaaGreatDoorZBkM
import Derived.Lib.MinMax
set_option linter.all false
namespace Go.Proofs.YtoomffajodheaaaGreatDoor
open Go.RowKit
set_option maxRecDepth 100000
theorem zBC{p:Prop}(h:p:=by rw [IntKind.wrap_i64];omega):p:=h
theorem zDW{p:Prop}(h:p:=by
 go_enter Tryz.func55,Tryz.ntmps55
 go_wp2_with fail
 refine (uA g s t _ H.o hs zO q2).mono ?_
 rintro e w2 ⟨rfl,m,rfl⟩
 rw [<-Hhv.o]
 go_wp2_with fail
 go_ret
 exact ⟨by rw [Hw.o];rfl,m,rfl⟩):p:=h
theorem zDi{p:Prop}(h:p:=by
 rw [Hs2.o]
 unfold zG glue
 split
 ·rename_i h9;exact Prod.ext rfl h9
 ·rename_i h9
  have key:∀(p:List Pk) (ss:List Bu) (last:Int) (i:Nat),(shapeGo p ss last i).2≠-1->(shapeGo p ss last i).1=[]:=λp=>by
   induction p with
   |nil=>intro ss last i h8;exact zAv rfl h8
   |cons x r ih=>
    intro ss last i h8
    unfold shapeGo at h8 ⊢
    split
    ·rfl
    ·rename_i T hT
     rw [hT] at h8
     simp only at h8
     split
     ·rename_i h7;rw [zp h7] at h8;exact zAv rfl h8
     ·rfl
  exact Prod.ext (key p _ 0 0 h9) rfl):p:=h
theorem zD2{p:Prop}(h:p:=by
 intro e
 rcases at3 with h9|h9
 ·rw [h9] at e
  rcases zAQ.1 hx with hx|hx
  ·exact h.far x hx e
  ·rw [zAW.1 hx] at e
   have:=hrow _ e
   omega
 ·rw [h9] at e
  injection e with e
  have hs:(w2.alloc o).heap.size=w2.heap.size+1:=zA1
  rcases zAQ.1 hx with hx|hx
  ·have:=hlt x hx;omega
  ·rw [zAW.1 hx] at e;omega):p:=h
theorem zEh{p:Prop}(h:p:=by
 refine List.nodup_append.2 ⟨h.nd,by simp,λa ha b hb=>?_⟩
 obtain ⟨x,hx,rfl⟩:=zAT.1 ha
 simp only [List.map_cons,List.map_nil,zAW] at hb
 have:=hlt x hx
 omega):p:=h
theorem zEm{p:Prop}(h:p:=by
 have:x.2∈bs.map (·.2):=zAT.2 ⟨x,hx,rfl⟩
 rw [Hs2.o] at this
 obtain ⟨y,hy,e⟩:=zAT.1 this
 rw [<-e]
 exact ⟨akM (Hlo.o y hy),zAV _⟩):p:=h
theorem zEs{p:Prop}(h:p:=by
 have:x.1∈bs2.map (·.1):=zAT.2 ⟨x,hx,rfl⟩
 rw [Hb2f.o] at this
 obtain ⟨y,hy,e⟩:=zAT.1 this
 rw [<-e];exact Hlt6.o y hy):p:=h
theorem zFI{p:Prop}(h:p:=by
 go_enter Tryz.func83,Tryz.ntmps83
 go_wp2_with fail
 go_ret
 exact ⟨by rw [Hv.o];rfl,0,rfl⟩):p:=h
theorem zFP{p:Prop}(h:p:=by
 rw [Heq.o,hd]
 show glue acc ([],-1)=_
 unfold glue
 rw [zp rfl,zAo]):p:=h
theorem zFY{p:Prop}(h:p:=by
 rw [zAW.1 hx]
 exact (hb.alloc o).grown g (λe=>by have:=hrow _ e.symm;omega)):p:=h
theorem a1H:(Tryz.prog.info? 266).map (λi=>(i.zero,i.size,i.bytes))=some (some (.pointer none),1,8):=zK
theorem xh.below {base:Nat} {w w':World} {A:Option Addr} {c:Nat} {bs:List (Nat × Bu)} (h:xh base w A c bs) (hb:Below w.heap.size w w'):xh base w' A c bs:=
 ⟨own_below h.row hb (zD _),λx hx=>(h.bk x hx).below hb (h.bk x hx).lt,h.nd,h.ge,h.far⟩
theorem xh.drew {base:Nat} {w:World} {A:Option Addr} {c:Nat} {bs:List (Nat × Bu)} (h:xh base w A c bs):xh base w.drew A c bs:=⟨h.row,h.bk,h.nd,h.ge,h.far⟩
theorem xh.qi {base:Nat} {w:World} {A:Option Addr} {c:Nat} {bs:List (Nat × Bu)} (h:xh base w A c bs) {a:Addr} (h1:∀x∈bs,x.1≠a.block) (h2:(Value.slice A bs.length c).ownBlock≠some a.block) (u:Value):xh base (w.setCell a u) A c bs:=
 ⟨ownsRow_setCell_other h.row h2 u,λx hx=>(h.bk x hx).far (h1 x hx) u,h.nd,h.ge,h.far⟩
theorem xh.ui (base:Nat) (w:World):xh base w none 0 []:=⟨⟨by simp,.inl ⟨rfl,rfl⟩⟩,by simp,List.nodup_nil,by simp,by simp⟩
theorem a1W {base:Nat} {w1 w2 w3:World} {A A':Option Addr} {c c':Nat} {bs:List (Nat × Bu)} {y:Nat × Bu} {o:Obj} (h:xh base w1 A c bs) (k:Below w1.heap.size w1 w2) (hy:w1.heap.size<=y.1) (hb:Blk w2 y.1 288 y.2.cells) (hbase:base<=w1.heap.size)
 (row:w3.ownsRow base 266 1 (.slice A' (bs++[y]).length c') (bs++[y]).length ((bs++[y]).flatMap pC)) (g:(w2.alloc o).grownBy w3 (Value.slice A bs.length c).ownBlock) (at3:(Value.slice A' (bs++[y]).length c').ownBlock=(Value.slice A bs.length c).ownBlock\/(Value.slice A' (bs++[y]).length c').ownBlock=some (w2.alloc o).heap.size):xh base w3 A' c' (bs++[y]):=by
 have hlt:∀x∈bs,x.1<w1.heap.size:=λx hx=>(h.bk x hx).lt
 have hrow:∀b,(Value.slice A bs.length c).ownBlock=some b->b<w1.heap.size:=λb hb=>jQ h.row b hb
 have hyl:y.1<w2.heap.size:=hb.lt
 have z:=k.size
 refine ⟨row,λx hx=>?_,?_,λx hx=>?_,λx hx=>?_⟩
 ·rcases zAQ.1 hx with hx|hx
  ·exact (((h.bk x hx).below k (hlt x hx)).alloc o).grown g (λe=>h.far x hx e.symm)
  ·exact zFY
 ·rw [List.map_append]
  exact zEh
 ·rcases zAQ.1 hx with hx|hx
  ·exact h.ge x hx
  ·rw [zAW.1 hx];omega
 ·exact zD2
theorem uk.row {base base3:Nat} {bs:List (Nat × Bu)} {w w':World} (h:uk base bs w w') {e:TypeId} {size n:Nat} {v:Value} {xs:List Value} (hr:w.ownsRow base3 e size v n xs) (hlt:∀x∈bs,x.1<base3):w'.ownsRow base3 e size v n xs:=by
 obtain ⟨h1,h2⟩:=hr
 refine ⟨h1,?_⟩
 rcases h2 with h2|⟨g',cap,cur,hv,hg',hh,r⟩
 ·exact .inl h2
 ·exact .inr ⟨g',cap,cur,hv,hg',(h.blk g' (λx hx e=>by have:=hlt x hx;omega)).trans hh,r⟩
set_option maxHeartbeats 4000000 in
theorem avK (A A':Option Addr) (c c':Nat) (l:List Ln) (p:List Pk) (S:Nat->Addr) (w:World) (B:Nat) (hB:B<=w.heap.size) (h:RdL w B A l) (h':RdP w B A' p) (hS:Snt w B S [2,3,4,5]) (hl:l.length<=9223372036854775807) (hl':p.length<=9223372036854775807) (h1:(qj p).1=0) (h2:(qh l).1=0):
 Calls Tryz.prog 150 #[.slice A l.length c,.slice A' p.length c'] w (yE Pk.cs 3 53 (jH l p) S (yU l p).1 (yU l p).2 w):=by
 have hpk:=xC h1
 have h300:=vg h1
 obtain ⟨l1,l6,hlo,_⟩:=crvErr_ok h2
 have He:=zM (yU l p=if (zG l p).2=-1 then (0,-1) else (4,(zG l p).2)) (by unfold yU;rw [z6 zO,z6 zO])
 have Hc:=zL (uU h1)
 have Hl:=zL h2
 have Hp:=zL hpk
 have Hlo:=zL hlo
 obtain ⟨i0,hi0,hz0,hz1,hz2⟩:=info_parts a1H
 clear h1 h2 hpk hlo
 go_enter Tryz.func150,Tryz.ntmps150
 go_wp2_with fail
 refine (vk A' c' p S _ B hB h' (hS.sub zA1) hl').mono ?_
 rintro e w1 ⟨v,rfl,hv,k1⟩
 obtain rfl:=hv.qK zCy
 have z1:=k1.size
 go_wp2_with fail
 refine (yw A c l S w1 B zO (h.below (k1.mono hB)) ((hS.below (k1.mono hB)).sub zA1) hl).mono ?_
 rintro e w2 ⟨v,rfl,hv,k2⟩
 obtain rfl:=hv.qK Hl.o
 have k2':=k1.trans (k2.mono z1)
 have z2:=k2'.size
 clear hv
 go_wp2_with fail
 go_loopw [8,30] (λav iv wr=>∃(k:Nat) (A5:Option Addr) (c5:Nat) (bs:List (Nat × Bu)),k<=l.length/\bs.length=k/\av=.slice A5 bs.length c5/\iv=.int .i64 k/\bs.map (·.2)=(l.take k).map newB/\xh w2.heap.size wr A5 c5 bs/\Below w.heap.size w wr/\w2.heap.size<=wr.heap.size) (λ_ iv _=>l.length - (intOf iv).toNat)
 case atStart=>exact ⟨0,none,0,[],zAK _,rfl,rfl,rfl,rfl,xh.ui _ _,k2',zD _⟩
 case round=>
  obtain ⟨k,A5,c5,bs,hk,hbl,rfl,rfl,hsnd,hm,hbw,hzw⟩:=hrel
  have Hm:=zL hm
  have Hsnd:=zL hsnd
  have zw:=hbw.size
  clear hm hsnd
  by_cases hlt:k<l.length
  ·obtain ⟨b,o,rfl,hb,d0,d1⟩:=RdL.get (h.below (hbw.mono hB)) hlt
   obtain ⟨x,hx⟩:∃x,x=l[k]:=⟨_,rfl⟩
   rw [<-hx] at d0 d1
   have hxo:yL x:=by rw [hx];exact Hlo.o _ (zd hlt)
   have Hx:=zL hx
   have Hxo:=zL hxo
   have Hbl:=zL hbl
   have q1:bs.length+1<=maxLen:=zA2
   have q2:(bs.length+1)*8<=140737488355328:=zO
   obtain ⟨wv,hwv⟩:∃wv:World,wv=wr.alloc (.cells #[.int .i64 x.b,.int .i64 x.r] 75):=⟨_,rfl⟩
   have kv:Below wr.heap.size wr wv:=by rw [hwv];exact (zAA _ _).alloc (zD _) _
   have kv':=hbw.trans (kv.mono zw)
   have zv:=kv'.size
   have Hwv:=zL hwv
   clear hx hxo hbl hwv
   go_wp2_with fail
   rw [<-Hwv.o]
   refine (a1B x S wv B (zAB hB zv) (((hS.below (kv'.mono hB))).sub zA1) Hxo.o).mono ?_
   rintro e w4 ⟨g,rfl,b4,hg,k4⟩
   have kw4:Below wr.heap.size wr w4:=kv.trans (k4.mono kv.size)
   have kw4':=hbw.trans (kw4.mono zw)
   have hgr:wr.heap.size<=g:=zAB kv.size hg
   have hz4:w2.heap.size<=w4.heap.size:=zAB hzw kw4.size
   have B4:=zL b4
   have hrow4:=own_below Hm.o.row kw4 (zD _)
   have Row4:=zL hrow4
   obtain ⟨bs',hbs'⟩:∃bs',bs'=bs++[(g,newB x)]:=⟨_,rfl⟩
   have Hbs:=zL hbs'
   clear b4 hrow4 hbs'
   go_wp2_with (at_builtin;refine qd _ pC rfl (.tmp 42) (.tmp 44) 265 rfl w2.heap.size 266 i0 (.pointer none) 1 8 Tryz.underlying265 hi0 hz0 hz1 hz2 rfl zO aeZ avW (.slice A5 bs.length c5) bs.length (bs.flatMap pC) rfl (Row4.o.alloc _) (w4.heap.size+1) (some ⟨w4.heap.size,0,none⟩) 1 [(g,newB x)] rfl (Rd.zU rfl zO aeZ) q1 q2 (qG hz4 _) ?_;intro v12 w12 row12 g12 at12;obtain ⟨A12,c12,hv12,row12⟩:=qI row12 zO;rw [hv12] at at12 ⊢;rw [<-Hbs.o] at row12 at12 ⊢;clear hv12)
   have hm12:xh w2.heap.size w12 A12 c12 bs':=by
    rw [Hbs.o] at row12 at12 ⊢
    exact a1W Hm.o kw4 hgr B4.o hzw row12 g12 at12
   have k12:Below w.heap.size w w12:=ql (kw4'.alloc kw4'.size _) (Row4.o.alloc _) g12 z2 (qG kw4'.size _)
   have hz12:w2.heap.size<=w12.heap.size:=zAB (qG hz4 _) g12.size
   go_roundw
   case rel=>exact ⟨k+1,A12,c12,bs',hlt,by rw [Hbs.o];simp;exact Hbl.o,rfl,by go_num,by rw [Hbs.o,List.map_append,Hsnd.o,zAN hlt,List.map_append,<-Hx.o];rfl,hm12,k12,hz12⟩
   case measure=>simp [intOf];omega
  ·have hke:k=l.length:=by omega
   have Hs2:=zM (bs.map (·.2)=l.map newB) (by rw [Hsnd.o,zAZ zO])
   have hb6:bs.length<=1000:=zO
   obtain ⟨wo,rfl⟩:∃wo:World,wo=wr:=⟨_,rfl⟩
   clear hke hbl
   go_wp2_with fail
   refine (ab5 A' c' p wo B (zAB hB zw) (h'.below (hbw.mono hB)) zO).mono ?_
   rintro e w5 ⟨A6,c6,rfl,o6,k6⟩
   have k6':=hbw.trans (k6.mono zw)
   have hm6:=Hm.o.below k6
   have hlt6:∀x∈bs,x.1<wo.heap.size:=λx hx=>(Hm.o.bk x hx).lt
   have hrl6:∀b,(Value.slice A5 bs.length c5).ownBlock=some b->b<wo.heap.size:=λb hb=>jQ Hm.o.row b hb
   have hbsok:au1 bs 0:=λx hx=>by
    exact zEm
   have heq0:zG l p=glue [] (shapeGo p (bs.map (·.2)) 0 0):=zDi
   have Heq0:=zL heq0
   have Hm6:=zL hm6
   have Hok0:=zL hbsok
   have Hlt6:=zL hlt6
   have Hrl6:=zL hrl6
   have O6:=zL o6
   have hzo:wo.heap.size<=w5.heap.size:=k6.size
   clear heq0 hm6 hbsok hlt6 hrl6 o6
   go_wp2_with fail
   go_loopw [14,51] (λlv iv wr=>∃(k:Nat) (acc:List Pk) (bs2:List (Nat × Bu)) (last:Int),k<=p.length/\acc.length=k/\iv=.int .i64 k/\lv=.int .i64 last/\bs2.length=bs.length/\bs2.map (·.1)=bs.map (·.1)/\au1 bs2 last/\0<=last/\last<=1099511627776/\zG l p=glue acc (shapeGo (p.drop k) (bs2.map (·.2)) last k)/\xh w2.heap.size wr A5 c5 bs2/\wr.ownsRow wo.heap.size 53 3 (.slice A6 p.length c6) p.length ((acc++p.drop k).flatMap Pk.cs)/\Below w.heap.size w wr/\wo.heap.size<=wr.heap.size) (λ_ iv _=>p.length - (intOf iv).toNat)
   case atStart=>exact ⟨0,[],bs,0,zAK _,rfl,rfl,rfl,rfl,rfl,Hok0.o,zAV _,by omega,Heq0.o,Hm6.o,O6.o,k6',hzo⟩
   case round=>
    obtain ⟨k,acc,bs2,last,hk,hacc,rfl,rfl,hb2l,hb2f,hok2,hla0,hla1,heq,hm2,row2,kb2,hz2'⟩:=hrel
    have zw2:=kb2.size
    have Hm2:=zL hm2
    have Row2:=zL row2
    have Hok2:=zL hok2
    have Heq:=zL heq
    have Hb2f:=zL hb2f
    have Hacc:=zL hacc
    have hlt2:∀x∈bs2,x.1<wo.heap.size:=λx hx=>by
     exact zEs
    have Hlt2:=zL hlt2
    have Hb2l:=zL hb2l
    clear hm2 row2 hok2 heq hb2f hacc hlt2 hb2l
    by_cases hlt:k<p.length
    ·obtain ⟨x,hx⟩:∃x,x=p[k]:=⟨_,rfl⟩
     have hd:p.drop k=x::p.drop (k+1):=by rw [hx];exact zAE hlt
     have Hd:=zL hd
     have hpo:zg x:=by rw [hx];exact Hp.o _ (zd hlt)
     obtain ⟨g,cap,hv6,hg6,hgl⟩:=Row2.o.form zO
     cases hv6
     have hcell:∀j,j<3->(w':World)->w'.ownsRow wo.heap.size 53 3 (.slice (some ⟨g,0,none⟩) p.length c6) p.length ((acc++p.drop k).flatMap Pk.cs)->w'.cell? ⟨g,k*3+j,none⟩=x.cs[j]?:=λj hj w' hr=>by
      rw [hr.cellAt _ zO,Hd.o,flat_get Pk.cs 3 zO Pk.qw]
      have e1:(k*3+j) / 3=k:=zO
      have e2:(k*3+j) % 3=j:=zO
      rw [e1,e2,List.getElem?_append_right (by rw [Hacc.o];exact zD _),Hacc.o,Nat.sub_self]
      rfl
     have Hcell:=zL hcell
     have d1:wr.cell? ⟨g,k*3+1,none⟩=some (.int .i64 x.s):=Hcell.o 1 zO wr Row2.o
     have d2:wr.cell? ⟨g,k*3+2,none⟩=some (.int .i64 x.a):=Hcell.o 2 zO wr Row2.o
     have r1:(k:Int)<(p.length:Int):=zO
     have r2:(0:Int)<=(k:Int):=zO
     obtain ⟨p1,p2,p3,p4,p5,p6⟩:=hpo
     have hfr:=aq4 last x.a
     have hmax:max last x.a=fr last x.a:=by unfold fr;rw [Int.max_def];split<;>split<;>omega
     have Hmax:=zL hmax
     have hf2:fr last x.a<=1099511627776:=zO
     have Sd:=zM (Snt wr.drew B S [2,4,5]) ((hS.below ((kb2.drew).mono hB)).sub zA1)
     have Mw:=zL Hm2.o.drew
     have Bok:=zM (∀x∈bs2,uM x.2) (λx hx=>(Hok2.o x hx).1)
     have hb26:bs2.length<=1000:=by rw [Hb2l.o];exact hb6
     have z20:B<=w2.heap.size:=zAB hB z2
     clear hd hcell hx hfr hmax
     cases hlv:yo bs2 (fr last x.a) x.s (fr last x.a) with
     |none=>
      have Hlv:=zL hlv
      have Hsh:=zM (zG l p=([],(k:Int))) (by rw [Heq.o,Hd.o];exact ajV (by rw [<-aaZ];exact Hlv.o))
      have Hce:=zL (ao4 A5 c5 bs2 (fr last x.a) x.s S wr.drew B w2.heap.size z20 Sd.o Mw.o Bok.o hb26 Hlv.o)
      rw [<-Hmax.o,Hb2l.o] at Hce
      clear hlv
      go_wp2_with fail
      go_region_held3 (λw'=>w'.cell? ⟨g,k*3+1,none⟩=some (.int .i64 x.s)/\w'.cell? ⟨g,k*3+2,none⟩=some (.int .i64 x.a))
       (first
        |go_keep)
       (first
        |(go_at_call 181;refine (Hce.o).mono ?_;rintro e w9 ⟨⟨T,a,rfl⟩,m9,rfl⟩))
      all_goals
       obtain ⟨v2,hv2⟩:∃v2:World,v2=wr.drewN (1+m9):=⟨_,rfl⟩
       have k9:Below w.heap.size w v2:=by rw [hv2];exact below_drewN kb2 _
       have g4:v2.cell? ⟨G 4,0,none⟩=some (sv S 4):=((hS.below (k9.mono hB)) 4 zA1).2.2
       have l4:=zAU v2 _ g4
       simp only [G,sv] at g4 l4
       have Hv0:=zM (jH l p=[]) (by unfold jH;rw [He.o,Hsh.o];rw [z6 (show ¬(k:Int)=-1 by omega)];rfl)
       have He2:=zM (yU l p=(4,(k:Int))) (by rw [He.o,Hsh.o];exact z6 (show ¬(k:Int)=-1 by omega))
       rw [<-hv2]
       clear hv2 d1 d2
       go_wp2_with fail
       go_region
       all_goals
        go_wp2_with fail
        go_ret2
        rw [Hv0.o,He2.o]
        exact ⟨none,0,_,rfl,⟨by simp,.inl ⟨rfl,rfl⟩⟩,.fault 4 zO zO _ _ zA1 (heap_alloc_new _ _),(k9.alloc k9.size _).drew⟩
     |some T=>
      have Hlv:=zL hlv
      obtain ⟨s1,s2,s3,s4⟩:=aj5 Hok2.o ⟨p5,p6⟩ hla1 hlv
      have Hs1:=zL s1
      have Hsh:=zM (zG l p=glue (acc++[⟨x.f,x.s,T⟩]) (shapeGo (p.drop (k+1)) ((bs2.map (tookP T x.s)).map (·.2)) T (k+1))) (by rw [Heq.o,Hd.o,ajU (by rw [<-aaZ];exact Hlv.o),al1])
      have Hce:=zL (ao3 A5 c5 bs2 (fr last x.a) x.s T S wr.drew B w2.heap.size z20 Sd.o Mw.o Bok.o hb26 hf2 Hlv.o)
      rw [<-Hmax.o,Hb2l.o] at Hce
      obtain ⟨bs3,hbs3⟩:∃bs3,bs3=bs2.map (tookP T x.s):=⟨_,rfl⟩
      rw [<-hbs3] at Hce Hs1 Hsh
      have Hbs3:=zL hbs3
      have hgx:∀y∈bs2,y.1≠g:=λy hy=>by have:=Hlt2.o y hy;omega
      have Hgx:=zL hgx
      clear hlv s1 hbs3 hgx
      go_wp2_with fail
      go_region_held3 (λw'=>w'.cell? ⟨g,k*3+1,none⟩=some (.int .i64 x.s)/\w'.cell? ⟨g,k*3+2,none⟩=some (.int .i64 x.a))
       (first
        |go_keep
        |exact ⟨(zAb (a:=⟨g,k*3+1,none⟩) (on9.blk g Hgx.o)).trans d1,(zAb (a:=⟨g,k*3+2,none⟩) (on9.blk g Hgx.o)).trans d2⟩)
       (first
        |(go_at_call 181;refine (Hce.o).mono ?_;rintro e w9 ⟨rfl,m9,on9⟩))
      all_goals
       have hlt3:∀y∈bs2,y.1<wo.heap.size:=Hlt2.o
       have row9:=on9.row (show wr.drew.ownsRow wo.heap.size 53 3 (.slice (some ⟨g,0,none⟩) p.length c6) p.length ((acc++p.drop k).flatMap Pk.cs) from Row2.o) hlt3
       have f9:=row9.frozenAt (k*3+2)
       have c9:w9.cell? ⟨g,k*3+2,none⟩=some (.int .i64 x.a):=Hcell.o 2 zO w9 row9
       have Row9:=zL row9
       have M9:=zL m9
       clear row9 m9
       go_wp2_with fail
       have row6:(w9.setCell ⟨g,k*3+2,none⟩ (.int .i64 T)).ownsRow wo.heap.size 53 3 (.slice (some ⟨g,0,none⟩) p.length c6) p.length (((acc++[(⟨x.f,x.s,T⟩:Pk)])++p.drop (k+1)).flatMap Pk.cs):=by
        have h9:=(Row9.o.stored (k*3+2) (.int .i64 T)).1
        have e9:=a05 acc x (p.drop (k+1)) T
        rw [Hacc.o] at e9
        rw [Hd.o,e9] at h9
        exact h9
       have hf3:bs3.map (·.1)=bs.map (·.1):=by rw [Hbs3.o,List.map_map,<-Hb2f.o];rfl
       have hm6:xh w2.heap.size (w9.setCell ⟨g,k*3+2,none⟩ (.int .i64 T)) A5 c5 bs3:=M9.o.qi (a:=⟨g,k*3+2,none⟩) (λy hy=>by
             have:y.1∈bs3.map (·.1):=zAT.2 ⟨y,hy,rfl⟩
             rw [hf3] at this
             obtain ⟨z,hz,e⟩:=zAT.1 this
             have:=Hlt6.o z hz
             show y.1≠g
             omega) (λe=>by
             have e2:(Value.slice A5 bs.length c5).ownBlock=some g:=by cases A5<;>exact e
             have:=Hrl6.o g e2
             omega) _
       go_roundw
       case rel=>exact ⟨k+1,acc++[⟨x.f,x.s,T⟩],bs3,T,hlt,by simp;exact Hacc.o,by go_num,rfl,by rw [Hbs3.o,List.length_map];exact Hb2l.o,hf3,Hs1.o,by omega,s4,Hsh.o,hm6,row6,(kb2.drew.trans (on9.bel.mono z2)).setCell (p:=⟨g,k*3+2,none⟩) (zAB zw hg6) _,by rw [zf];exact zAB hz2' on9.bel.size⟩
       case measure=>simp [intOf];omega
    ·have hd:p.drop k=[]:=zAO zO
     have hsh:zG l p=(acc,-1):=zFP
     have Hv0:=zM (jH l p=acc) (by unfold jH;rw [He.o,hsh];rfl)
     have He2:=zM (yU l p=(0,-1)) (by rw [He.o,hsh];rfl)
     have hpl:p.length=acc.length:=by rw [Hacc.o];omega
     have hr:=Row2.o
     rw [hd,zAo] at hr
     have Hr:=zL hr
     have Hpl:=zL hpl
     clear hd hsh hpl hr
     go_wp2_with fail
     go_ret2
     rw [Hv0.o,He2.o]
     have hr2:=Hr.o
     rw [Hpl.o] at hr2 ⊢
     exact ⟨A6,c6,.nilIface,rfl,qO hr2 zw,.nil,kb2⟩
set_option maxHeartbeats 1000000 in
theorem ai5 (A A':Option Addr) (c c':Nat) (l:List Ln) (p:List Pk) (S:Nat->Addr) (w:World) (B:Nat) (hB:B<=w.heap.size) (h:RdL w B A l) (h':RdP w B A' p) (hS:Snt w B S [2,3,4,5]) (hl:l.length<=9223372036854775807) (hl':p.length<=9223372036854775807):
 Calls Tryz.prog 150 #[.slice A l.length c,.slice A' p.length c'] w (yE Pk.cs 3 53 (jH l p) S (yU l p).1 (yU l p).2 w):=by
 by_cases h1:(qj p).1=0
 ·by_cases h2:(qh l).1=0
  ·exact avK A A' c c' l p S w B hB h h' hS hl hl' h1 h2
  ·have He:=zM (yU l p=qh l) (by unfold yU;rw [z6 zO,zp h2])
   have Hv:=zM (jH l p=[]) (by unfold jH;rw [He.o,z6 h2])
   have Hc:=zL (uU h1)
   have H2:=zL h2
   clear h1 h2
   go_enter Tryz.func150,Tryz.ntmps150
   go_wp2_with fail
   refine (vk A' c' p S _ B hB h' (hS.sub zA1) hl').mono ?_
   rintro e w1 ⟨v,rfl,hv,k1⟩
   obtain rfl:=hv.qK zCy
   have z1:=k1.size
   go_wp2_with fail
   refine (yw A c l S w1 B zO (h.below (k1.mono hB)) ((hS.below (k1.mono hB)).sub zA1) hl).mono ?_
   rintro e w2 ⟨v,rfl,hv,k2⟩
   obtain ⟨T,a,rfl⟩:=hv.qW H2.o
   have k2':=k1.trans (k2.mono z1)
   go_wp2_with fail
   go_ret2
   rw [Hv.o,He.o]
   exact ⟨none,0,_,rfl,⟨by simp,.inl ⟨rfl,rfl⟩⟩,hv,k2'⟩
 ·have He:=zM (yU l p=qj p) (by unfold yU;rw [zp h1])
  have Hv:=zM (jH l p=[]) (by unfold jH;rw [He.o,z6 h1])
  have H1:=zL h1
  clear h1
  go_enter Tryz.func150,Tryz.ntmps150
  go_wp2_with fail
  refine (vk A' c' p S _ B hB h' (hS.sub zA1) hl').mono ?_
  rintro e w1 ⟨v,rfl,hv,k1⟩
  obtain ⟨T,a,rfl⟩:=hv.qW H1.o
  go_wp2_with fail
  go_ret2
  rw [Hv.o,He.o]
  exact ⟨none,0,_,rfl,⟨by simp,.inl ⟨rfl,rfl⟩⟩,hv,k1⟩
def Bu.rc (s:Bu):Array Value:=#[.int .i64 s.b,.int .i64 s.r,.int .i64 s.has,.int .i64 s.at_,.int .i64 s.last]
theorem axV {l r:Int} (hr:0<r):(l+r - 1) / r=if l / r*r<l then l / r+1 else l / r:=by
 have h1:=Int.emod_add_mul_ediv l r
 have h2:=Int.emod_nonneg l (by omega:r≠0)
 have h3:=Int.emod_lt_of_pos l hr
 obtain ⟨d,hd⟩:∃d,d=l / r:=⟨_,rfl⟩
 rw [<-hd] at h1 ⊢
 have hm:d*r=r*d:=zAl _ _
 split
 ·rename_i h
  refine Int.le_antisymm ?_ ?_
  ·refine Int.le_of_lt_add_one (Int.ediv_lt_of_lt_mul hr ?_)
   have:(d+1+1)*r=d*r+r+r:=by rw [Int.add_mul,Int.add_mul];omega
   omega
  ·refine Int.le_ediv_of_mul_le hr ?_
   have:(d+1)*r=d*r+r:=by rw [Int.add_mul];omega
   omega
 ·rename_i h
  refine Int.le_antisymm ?_ ?_
  ·refine Int.le_of_lt_add_one (Int.ediv_lt_of_lt_mul hr ?_)
   have:(d+1)*r=d*r+r:=by rw [Int.add_mul];omega
   omega
  ·refine Int.le_ediv_of_mul_le hr ?_
   omega
theorem uA (g:Nat) (s:Bu) (t:Int) (w:World) (h:Blk w g 115 s.rc) (hs:uM s) (ht:s.at_<=t) (ht2:t<=1099511627776):
 Calls Tryz.prog 83 #[.pointer (some ⟨g,0,none⟩),.int .i64 t] w λe w'=>e=.returned (.int .i64 (holdsB s t))/\∃m,w'=w.drewN m:=by
 obtain ⟨b,r,a,hh,la⟩:=s
 have c0:w.cell? ⟨g,0,none⟩=some (.int .i64 b):=h.cell 0
 have c1:w.cell? ⟨g,1,none⟩=some (.int .i64 r):=h.cell 1
 have c2:w.cell? ⟨g,2,none⟩=some (.int .i64 hh):=h.cell 2
 have c3:w.cell? ⟨g,3,none⟩=some (.int .i64 a):=h.cell 3
 have hsl:=aaI hs ht
 obtain ⟨b1,b2,r1,r2,h1,h2,a1,a2,l2⟩:=hs
 simp only at b1 b2 r1 r2 h1 h2 a1 a2 l2 hsl ht
 clear h
 by_cases hr:r=0
 ·subst hr
  have Hv:=zM (holdsB ⟨b,0,a,hh,la⟩ t=hh) ((z6 (λh9=>by have:=h9.1;simp at this)).trans zA1)
  clear hsl
  exact zFI
 ·have e1:(r==0)=false:=beq_eq_false_iff_ne.2 hr
  have hr0:0<r:=zO
  have q0:0<=(1000*b - hh) / r:=Int.ediv_nonneg zO zO
  have q1:(1000*b - hh) / r<=1000*b - hh:=Int.ediv_le_self _ zO
  by_cases hf:hh=1000*b
  ·have e2:(hh==1000*b)=true:=beq_iff_eq.2 hf
   have Hv:=zL (show holdsB ⟨b,r,a,hh,la⟩ t=hh by
    unfold holdsB
    simp only
    by_cases h9:0<r/\(1000*b - hh) / r<t - a
    ·rw [zp h9,hf]
    ·have hz:=hsl h9
     rw [z6 h9]
     omega)
   clear hsl hf hr
   exact zFI
  ·have e2:(hh==1000*b)=false:=beq_eq_false_iff_ne.2 hf
   by_cases hc:(1000*b - hh) / r<t - a
   ·have Hv:=zM (holdsB ⟨b,r,a,hh,la⟩ t=1000*b) (zp ⟨hr0,hc⟩)
    clear hsl hf
    go_enter Tryz.func83,Tryz.ntmps83
    go_wp2_with fail
    go_ret
    exact ⟨yh Hv.o.symm,0,rfl⟩
   ·have Hv:=zM (holdsB ⟨b,r,a,hh,la⟩ t=hh+r*(t - a)) (z6 (λh9=>hc h9.2))
    obtain ⟨m1,m2⟩:=hsl (λh9=>hc h9.2)
    rw [zAl] at m1 m2
    have hc2:t - a<=(1000*b - hh) / r:=zO
    clear hsl hc hf hr
    go_enter Tryz.func83,Tryz.ntmps83
    go_wp2_with fail
    go_quiet (fail)
    go_wp2_with fail
    go_ret
    exact ⟨yh (by rw [Hv.o,zAl]),_,rfl⟩
set_option maxHeartbeats 400000 in
theorem asC (g:Nat) (s:Bu) (t n:Int) (w:World) (h:Blk w g 115 s.rc) (hs:uM s) (hk:yN s t n=0):
 Calls Tryz.prog 56 #[.pointer (some ⟨g,0,none⟩),.int .i64 t,.int .i64 n] w λe w'=>e=.returned (.bool (takeB s t n))/\Blk w' g 115 (yK s t n).rc/\qU g w w':=by
 obtain ⟨q1,q2,q3,q4,q5⟩:=kP hk
 have q6:=hs.a2
 have q7:=hs.b2
 obtain ⟨q8,q9⟩:=jo hs (show s.at_<=t by omega)
 have q10:=hs.h1
 obtain ⟨hv,hhv⟩:∃hv,hv=holdsB s t:=⟨_,rfl⟩
 have Hk:=zL hk
 have Hhv:=zL hhv
 rw [<-hhv] at q8 q9
 have c4:w.cell? ⟨g,4,none⟩=some (.int .i64 s.last):=h.cell 4
 have f4:=h.frozen 4
 have b1:Blk (w.setCell ⟨g,4,none⟩ (.int .i64 t)) g 115 (Bu.rc ⟨s.b,s.r,s.at_,s.has,t⟩):=h.qi 4 _
 have B1:=zL b1
 have hs1:uM ⟨s.b,s.r,s.at_,s.has,t⟩:=⟨hs.b1,hs.b2,hs.r1,hs.r2,hs.h1,hs.h2,hs.a1,by simp only;omega,q2⟩
 have Hh1:=zM (holdsB ⟨s.b,s.r,s.at_,s.has,t⟩ t=hv) (by rw [hhv];rfl)
 have on1:=(qU.refl g w).qi 4 (.int .i64 t)
 clear hk hhv h b1
 by_cases hc:hv<1000*n
 ·have Ht:=zM (takeB s t n=false) (zAH (λh9=>by rw [<-Hhv.o] at h9;omega))
  have Hs:=zM (yK s t n=⟨s.b,s.r,s.at_,s.has,t⟩) zCk
  go_enter Tryz.func56,Tryz.ntmps56
  go_wp2_with fail
  refine (uA g ⟨s.b,s.r,s.at_,s.has,t⟩ t _ B1.o hs1 zBc q2).mono ?_
  rintro e w2 ⟨rfl,m,rfl⟩
  rw [Hh1.o]
  go_wp2_with fail
  go_ret
  rw [Ht.o,Hs.o]
  exact ⟨rfl,B1.o,on1.drewN m⟩
 ·have hc2:1000*n<=hv:=by omega
  have Ht:=zM (takeB s t n=true) (zAI ⟨Hk.o,by rw [<-Hhv.o];exact hc2⟩)
  have Hs:=zM (yK s t n=⟨s.b,s.r,t,hv - 1000*n,t⟩) zCZ
  clear hc
  have b2:=B1.o.qi 2 (.int .i64 (hv - 1000*n))
  have x2:(w.setCell ⟨g,4,none⟩ (.int .i64 t)).cell? ⟨g,2,none⟩=some (.int .i64 s.has):=B1.o.cell 2
  have y2:=B1.o.frozen 2
  have x3:((w.setCell ⟨g,4,none⟩ (.int .i64 t)).setCell ⟨g,2,none⟩ (.int .i64 (hv - 1000*n))).cell? ⟨g,3,none⟩=some (.int .i64 s.at_):=b2.cell 3
  have y3:=b2.frozen 3
  have X3:(w.setCell ⟨g,4,none⟩ (.int .i64 t)).cell? ⟨g,3,none⟩=some (.int .i64 s.at_):=B1.o.cell 3
  have Y3:=B1.o.frozen 3
  clear b2
  go_enter Tryz.func56,Tryz.ntmps56
  go_wp2_with fail
  refine (uA g ⟨s.b,s.r,s.at_,s.has,t⟩ t _ B1.o hs1 zBc q2).mono ?_
  rintro e w2 ⟨rfl,m,rfl⟩
  rw [Hh1.o]
  go_wp2_with fail
  go_ret
  rw [Ht.o,Hs.o]
  exact ⟨rfl,((B1.o.drewN m).qi 2 (.int .i64 (hv - 1000*n))).qi 3 (.int .i64 t),((on1.drewN m).qi 2 (.int .i64 (hv - 1000*n))).qi 3 (.int .i64 t)⟩
def uH (s:Bu) (t n:Int):Int:=if (zi s t n).1=0 then (zi s t n).2 else -1
set_option maxHeartbeats 1000000 in
theorem ar6 (g:Nat) (s:Bu) (t n:Int) (w:World) (h:Blk w g 115 s.rc) (hs:uM s) (hk:yN s t n=0):
 Calls Tryz.prog 55 #[.pointer (some ⟨g,0,none⟩),.int .i64 t,.int .i64 n] w λe w'=>e=.returned (.int .i64 (uH s t n))/\∃m,w'=w.drewN m:=by
 obtain ⟨q1,q2,q3,q4,q5⟩:=kP hk
 have q6:=hs.a2
 have q7:=hs.b2
 have q71:=hs.b1
 obtain ⟨q8,q9⟩:=jo hs (show s.at_<=t by omega)
 have q10:=hs.h1
 have r1:=hs.r1
 have r2:=hs.r2
 obtain ⟨hv,hhv⟩:∃hv,hv=holdsB s t:=⟨_,rfl⟩
 have Hk:=zL hk
 have Hhv:=zL hhv
 rw [<-hhv] at q8 q9
 have c0:w.cell? ⟨g,0,none⟩=some (.int .i64 s.b):=h.cell 0
 have c1:w.cell? ⟨g,1,none⟩=some (.int .i64 s.r):=h.cell 1
 have H:=zL h
 clear hk hhv h
 by_cases hb:s.b<n
 ·have Hw:=zM (uH s t n=-1) (by have e:zi s t n=(4,0):=by {unfold zi;rw [z6 zBe,zp hb]};unfold uH;rw [e];rfl)
  go_enter Tryz.func55,Tryz.ntmps55
  go_wp2_with fail
  go_ret
  exact ⟨by rw [Hw.o];rfl,0,rfl⟩
 ·have hb2:n<=s.b:=by omega
  by_cases hl:1000*n - hv<=0
  ·have Hw:=zM (uH s t n=t) (by have e:zi s t n=(0,t):=by {unfold zi;rw [z6 zBe,z6 hb,zp zBn]};unfold uH;rw [e];rfl)
   clear hb
   exact zDW
  ·have hl2:0<1000*n - hv:=by omega
   by_cases hr:s.r=0
   ·have Hw:=zM (uH s t n=-1) (by have e:zi s t n=(4,0):=by {unfold zi;rw [z6 zBe,z6 hb,z6 zBn,zp hr]};unfold uH;rw [e];rfl)
    rw [hr] at c1
    clear hb hl hr
    exact zDW
   ·have hr2:0<s.r:=by omega
    have hr3:(s.r==0)=false:=beq_eq_false_iff_ne.2 hr
    have hr4:s.r≠0:=hr
    have hce:=axV (l:=1000*n - hv) hr2
    have d0:0<=(1000*n - hv) / s.r:=Int.ediv_nonneg zO zO
    have d1:(1000*n - hv) / s.r<=(1000*n - hv):=Int.ediv_le_self _ zO
    have d2:(1000*n - hv) / s.r*s.r<=(1000*n - hv):=Int.ediv_mul_le _ zO
    have d3:0<=(1000*n - hv) / s.r*s.r:=zAY d0 zO
    have hlk1:(1000*n - hv)<=2000000:=zO
    obtain ⟨D,hD⟩:∃D,D=if (1000*n - hv) / s.r*s.r<(1000*n - hv) then (1000*n - hv) / s.r+1 else (1000*n - hv) / s.r:=⟨_,rfl⟩
    have hwb:zi s t n=if 1099511627776<t+D then (4,0) else (0,t+D):=by
     unfold zi
     rw [z6 zBe,z6 hb,z6 zBn,z6 hr,<-Hhv.o,hce,<-hD]
    have lk2:0<(1000*n - hv):=zO
    by_cases hx:(1000*n - hv) / s.r*s.r<(1000*n - hv)
    ·rw [zp hx] at hD
     by_cases ht:1099511627776<t+D
     ·have Hw:=zM (uH s t n=-1) (by unfold uH;rw [hwb,zp ht];rfl)
      rw [hD] at ht
      have ht':1099511627776<t+((1000*n - hv) / s.r+1):=ht
      clear hb hl hr hce hD hwb ht
      exact zDW
     ·have Hw:=zM (uH s t n=t+((1000*n - hv) / s.r+1)) (by unfold uH;rw [hwb,z6 ht,hD];rfl)
      rw [hD] at ht
      have ht':t+((1000*n - hv) / s.r+1)<=1099511627776:=zO
      clear hb hl hr hce hD hwb ht
      exact zDW
    ·rw [z6 hx] at hD
     have hx2:(1000*n - hv)<=(1000*n - hv) / s.r*s.r:=zO
     by_cases ht:1099511627776<t+D
     ·have Hw:=zM (uH s t n=-1) (by unfold uH;rw [hwb,zp ht];rfl)
      rw [hD] at ht
      have ht':1099511627776<t+(1000*n - hv) / s.r:=ht
      clear hb hl hr hce hD hwb ht hx
      exact zDW
     ·have Hw:=zM (uH s t n=t+(1000*n - hv) / s.r) (by unfold uH;rw [hwb,z6 ht,hD];rfl)
      rw [hD] at ht
      have ht':t+(1000*n - hv) / s.r<=1099511627776:=zO
      clear hb hl hr hce hD hwb ht hx
      exact zDW
structure xE (base:Nat) (w:World) (A:Option Addr) (c:Nat) (bs:List (Nat × Bu)):Prop where
 row:w.ownsRow base 113 1 (.slice A bs.length c) bs.length (bs.flatMap pC)
 bk:∀x∈bs,Blk w x.1 115 x.2.rc
 nd:(bs.map (·.1)).Nodup
 ge:∀x∈bs,base<=x.1
 far:∀x∈bs,(Value.slice A bs.length c).ownBlock≠some x.1
section
variable {base:Nat} {w w':World} {A:Option Addr} {c:Nat} {bs:List (Nat × Bu)}
theorem xE.drewN (h:xE base w A c bs) (m:Nat):xE base (w.drewN m) A c bs:=⟨h.row,h.bk,h.nd,h.ge,h.far⟩
theorem xE.rd (h:xE base w A c bs):Rd w w.heap.size 1 pC A bs:=Rd.qA h.row zO aeZ
theorem xE.get (h:xE base w A c bs) {k:Nat} (hk:k<bs.length):∃b o,A=some ⟨b,o,none⟩/\b<w.heap.size/\w.cell? ⟨b,o+k,none⟩=some (.pointer (some ⟨bs[k].1,0,none⟩)):=by
 obtain ⟨b,o,e,hb,hc⟩:=h.rd.at_ hk
 exact zEL
theorem xE.step (h:xE base w A c bs) {k:Nat} (hk:k<bs.length) {s':Bu} (ho:qU bs[k].1 w w') (hb:Blk w' bs[k].1 115 s'.rc):xE base w' A c (bs.set k (bs[k].1,s')):=zDN
end
theorem xE.below {base:Nat} {w w':World} {A:Option Addr} {c:Nat} {bs:List (Nat × Bu)} (h:xE base w A c bs) (hb:Below w.heap.size w w'):xE base w' A c bs:=
 ⟨own_below h.row hb (zD _),λx hx=>(h.bk x hx).below hb (h.bk x hx).lt,h.nd,h.ge,h.far⟩
theorem xE.drew {base:Nat} {w:World} {A:Option Addr} {c:Nat} {bs:List (Nat × Bu)} (h:xE base w A c bs):xE base w.drew A c bs:=⟨h.row,h.bk,h.nd,h.ge,h.far⟩
theorem xE.qi {base:Nat} {w:World} {A:Option Addr} {c:Nat} {bs:List (Nat × Bu)} (h:xE base w A c bs) {a:Addr} (h1:∀x∈bs,x.1≠a.block) (h2:(Value.slice A bs.length c).ownBlock≠some a.block) (u:Value):xE base (w.setCell a u) A c bs:=
 ⟨ownsRow_setCell_other h.row h2 u,λx hx=>(h.bk x hx).far (h1 x hx) u,h.nd,h.ge,h.far⟩
theorem xE.ui (base:Nat) (w:World):xE base w none 0 []:=⟨⟨by simp,.inl ⟨rfl,rfl⟩⟩,by simp,List.nodup_nil,by simp,by simp⟩
theorem a1X {base:Nat} {w1 w2 w3:World} {A A':Option Addr} {c c':Nat} {bs:List (Nat × Bu)} {y:Nat × Bu} {o:Obj} (h:xE base w1 A c bs) (k:Below w1.heap.size w1 w2) (hy:w1.heap.size<=y.1) (hb:Blk w2 y.1 115 y.2.rc) (hbase:base<=w1.heap.size)
 (row:w3.ownsRow base 113 1 (.slice A' (bs++[y]).length c') (bs++[y]).length ((bs++[y]).flatMap pC)) (g:(w2.alloc o).grownBy w3 (Value.slice A bs.length c).ownBlock) (at3:(Value.slice A' (bs++[y]).length c').ownBlock=(Value.slice A bs.length c).ownBlock\/(Value.slice A' (bs++[y]).length c').ownBlock=some (w2.alloc o).heap.size):xE base w3 A' c' (bs++[y]):=by
 have hlt:∀x∈bs,x.1<w1.heap.size:=λx hx=>(h.bk x hx).lt
 have hrow:∀b,(Value.slice A bs.length c).ownBlock=some b->b<w1.heap.size:=λb hb=>jQ h.row b hb
 have hyl:y.1<w2.heap.size:=hb.lt
 have z:=k.size
 refine ⟨row,λx hx=>?_,?_,λx hx=>?_,λx hx=>?_⟩
 ·rcases zAQ.1 hx with hx|hx
  ·exact (((h.bk x hx).below k (hlt x hx)).alloc o).grown g (λe=>h.far x hx e.symm)
  ·exact zFY
 ·rw [List.map_append]
  exact zEh
 ·rcases zAQ.1 hx with hx|hx
  ·exact h.ge x hx
  ·rw [zAW.1 hx];omega
 ·exact zD2
theorem azV:(Tryz.prog.info? 113).map (λi=>(i.zero,i.size,i.bytes))=some (some (.pointer none),1,8):=zK
theorem azW:(Tryz.prog.info? 53).map (λi=>(i.zero,i.size,i.bytes))=some (some (.agg #[.int .i64 0,.int .i64 0,.int .i64 0]),3,24):=zK
def a3K (l:List Pk) (n:Int) (w:World) (e:Ending) (w':World):Prop:=
 ∃A1 c1,e=.returned (.tuple #[.slice A1 l.length c1,.int .i64 n])/\w'.ownsRow w.heap.size 53 3 (.slice A1 l.length c1) l.length (l.flatMap Pk.cs)/\Below w.heap.size w w'
theorem qU.of_same {g b:Nat} {w w':World} (h:qU g w w') (hb:b≠g) {T:TypeId} {cs:Array Value} (hk:Blk w b T cs):Blk w' b T cs:=hk.same (h.blk b hb)
structure jL (w:World) (p:List Pk) (base wo Q:Nat) (A5:Option Addr) (c5:Nat) (bs:List (Nat × Bu)) (A7:Option Addr) (c7:Nat) (acc:List Pk) (x:Pk) (t:Int) (wr:World):Prop where
 q:Blk wr Q 53 #[.int .i64 x.f,.int .i64 x.s,.int .i64 t]
 bm:xE base wr A5 c5 bs
 row:wr.ownsRow wo 53 3 (.slice A7 acc.length c7) acc.length (acc.flatMap Pk.cs)
 bel:Below w.heap.size w wr
 lo:wo<=wr.heap.size
theorem jL.drewN {w:World} {p:List Pk} {base wo Q:Nat} {A5:Option Addr} {c5:Nat} {bs:List (Nat × Bu)} {A7:Option Addr} {c7:Nat} {acc:List Pk} {x:Pk} {t:Int} {wr:World} (h:jL w p base wo Q A5 c5 bs A7 c7 acc x t wr) (m:Nat):jL w p base wo Q A5 c5 bs A7 c7 acc x t (wr.drewN m):=⟨h.q,h.bm.drewN m,h.row,below_drewN h.bel m,h.lo⟩
theorem jL.at_ {w:World} {p:List Pk} {base wo Q:Nat} {A5:Option Addr} {c5:Nat} {bs:List (Nat × Bu)} {A7:Option Addr} {c7:Nat} {acc:List Pk} {x:Pk} {t:Int} {wr:World} (h:jL w p base wo Q A5 c5 bs A7 c7 acc x t wr) (t':Int) (hwq:w.heap.size<=Q) (hq1:∀y∈bs,y.1≠Q) (hq2:(Value.slice A5 bs.length c5).ownBlock≠some Q) (hq3:(Value.slice A7 acc.length c7).ownBlock≠some Q):jL w p base wo Q A5 c5 bs A7 c7 acc x t' (wr.setCell ⟨Q,2,none⟩ (.int .i64 t')):=
 ⟨h.q.qi 2 (.int .i64 t'),h.bm.qi (a:=⟨Q,2,none⟩) hq1 hq2 _,ownsRow_setCell_other h.row hq3 _,h.bel.setCell (p:=⟨Q,2,none⟩) hwq _,by rw [zf];exact h.lo⟩
theorem jL.step {w:World} {p:List Pk} {base wo Q:Nat} {A5:Option Addr} {c5:Nat} {bs:List (Nat × Bu)} {A7:Option Addr} {c7:Nat} {acc:List Pk} {x:Pk} {t:Int} {wr w':World} (h:jL w p base wo Q A5 c5 bs A7 c7 acc x t wr) {k:Nat} (hk:k<bs.length) {s':Bu} (ho:qU bs[k].1 wr w') (hb:Blk w' bs[k].1 115 s'.rc) (hQ:bs[k].1≠Q) (hwo:bs[k].1<wo) (hw:w.heap.size<=bs[k].1):jL w p base wo Q A5 c5 (bs.set k (bs[k].1,s')) A7 c7 acc x t w':=by
 refine ⟨ho.of_same (λe=>hQ e.symm) h.q,h.bm.step hk ho hb,?_,h.bel.trans (ho.bel.mono hw),zAB h.lo ho.bel.size⟩
 obtain ⟨h1,h2⟩:=h.row
 refine ⟨h1,?_⟩
 rcases h2 with h2|⟨g',cap,cur,hv,hg',hh,r⟩
 ·exact .inl h2
 ·exact .inr ⟨g',cap,cur,hv,hg',(ho.blk g' (λe=>by omega)).trans hh,r⟩
theorem xE.a1Z {base B:Nat} {w w':World} {A:Option Addr} {c:Nat} {bs:List (Nat × Bu)} (h:xE base w A c bs) (hb:Below B w w') (h1:∀x∈bs,x.1<B) (h2:∀g,(Value.slice A bs.length c).ownBlock=some g->g<B):xE base w' A c bs:=by
 refine ⟨?_,λx hx=>(h.bk x hx).below hb (h1 x hx),h.nd,h.ge,h.far⟩
 obtain ⟨r1,r2⟩:=h.row
 refine ⟨r1,?_⟩
 rcases r2 with r2|⟨g',cap,cur,hv,hg',hh,r⟩
 ·exact .inl r2
 ·exact .inr ⟨g',cap,cur,hv,hg',(hb.block g' (h2 g' zCv)).trans hh,r⟩
theorem jL.drew {w:World} {p:List Pk} {base wo Q:Nat} {A5:Option Addr} {c5:Nat} {bs:List (Nat × Bu)} {A7:Option Addr} {c7:Nat} {acc:List Pk} {x:Pk} {t:Int} {wr:World} (h:jL w p base wo Q A5 c5 bs A7 c7 acc x t wr):jL w p base wo Q A5 c5 bs A7 c7 acc x t wr.drew:=⟨h.q,h.bm.drew,h.row,h.bel.drew,h.lo⟩
theorem ajK {s:Bu} {F n last:Int} (h:s.last<=last) (h1:last<=F) (h0:0<=F) (h2:F<=1099511627776) (h3:1<=n) (h4:n<=1500):yN s F n=0:=by
 unfold yN
 rw [z6 zO,z6 zO]
set_option maxHeartbeats 8000000 in
theorem alH (A A':Option Addr) (c c':Nat) (l:List Ln) (p:List Pk) (w:World) (B:Nat) (hB:B<=w.heap.size) (h:RdL w B A l) (h':RdP w B A' p) (hl:l.length<=9223372036854775807) (h1:(qj p).1=0) (h2:(qh l).1=0):
 Calls Tryz.prog 34 #[.slice A l.length c,.slice A' p.length c'] w (a3K (zG l p).1 (zG l p).2 w):=by
 have hpk:=xC h1
 have h300:=vg h1
 obtain ⟨l1,l6,hlo,_⟩:=crvErr_ok h2
 have Hp:=zL hpk
 have Hlo:=zL hlo
 obtain ⟨i0,hi0,hz0,hz1,hz2⟩:=info_parts azV
 obtain ⟨i1,hi1,hy0,hy1,hy2⟩:=info_parts azW
 clear h1 h2 hpk hlo
 go_enter Tryz.func34,Tryz.ntmps34
 go_wp2_with fail
 go_loopw [6,7] (λav iv wr=>∃(k:Nat) (A5:Option Addr) (c5:Nat) (bs:List (Nat × Bu)),k<=l.length/\bs.length=k/\av=.slice A5 bs.length c5/\iv=.int .i64 k/\bs.map (·.2)=(l.take k).map newB/\xE w.heap.size wr A5 c5 bs/\Below w.heap.size w wr) (λ_ iv _=>l.length - (intOf iv).toNat)
 case atStart=>exact ⟨0,none,0,[],zAK _,rfl,rfl,rfl,rfl,xE.ui _ _,zAA _ _⟩
 case round=>
  obtain ⟨k,A5,c5,bs,hk,hbl,rfl,rfl,hsnd,hm,hbw⟩:=hrel
  have Hm:=zL hm
  have Hsnd:=zL hsnd
  have zw:=hbw.size
  clear hm hsnd
  by_cases hlt:k<l.length
  ·obtain ⟨b,o,rfl,hb,d0,d1⟩:=RdL.get (h.below (hbw.mono hB)) hlt
   obtain ⟨x,hx⟩:∃x,x=l[k]:=⟨_,rfl⟩
   rw [<-hx] at d0 d1
   have hxo:yL x:=by rw [hx];exact Hlo.o _ (zd hlt)
   have Hx:=zL hx
   have Hxo:=zL hxo
   have Hbl:=zL hbl
   have hu:IntKind.i64.wrap (1000*x.b)=1000*x.b:=by rw [IntKind.wrap_i64];have h9:=hxo;unfold yL at h9;omega
   have HU:=zL hu
   have hec:(#[.int .i64 x.b,.int .i64 x.r,.int .i64 (IntKind.i64.wrap (1000*x.b)),.int .i64 0,.int .i64 0]:Array Value)=(newB x).rc:=by rw [hu];rfl
   have hbB:Blk (wr.alloc (.cells #[.int .i64 x.b,.int .i64 x.r,.int .i64 (IntKind.i64.wrap (1000*x.b)),.int .i64 0,.int .i64 0] 115)) wr.heap.size 115 (newB x).rc:=by
    unfold Blk
    rw [heap_alloc_new,hec]
   have HB:=zL hbB
   have q1:bs.length+1<=maxLen:=zA2
   have q2:(bs.length+1)*8<=140737488355328:=zO
   have j1:(0:Int)<=(bs.length:Int):=zO
   have Hrow2:=(Hm.o.row.alloc (.cells #[.int .i64 x.b,.int .i64 x.r,.int .i64 (IntKind.i64.wrap (1000*x.b)),.int .i64 0,.int .i64 0] 115)).alloc (.cells #[.pointer (some ⟨wr.heap.size,0,none⟩)] 113)
   have hnew:Rd ((wr.alloc (.cells #[.int .i64 x.b,.int .i64 x.r,.int .i64 (IntKind.i64.wrap (1000*x.b)),.int .i64 0,.int .i64 0] 115)).alloc (.cells #[.pointer (some ⟨wr.heap.size,0,none⟩)] 113)) (wr.heap.size+2) 1 pC (some ⟨wr.heap.size+1,0,none⟩) [(wr.heap.size,newB x)]:=Rd.of_block (qN _ _ _) rfl (Nat.lt_succ_self _) Nat.one_pos aeZ
   have hq7:w.heap.size<=((wr.alloc (.cells #[.int .i64 x.b,.int .i64 x.r,.int .i64 (IntKind.i64.wrap (1000*x.b)),.int .i64 0,.int .i64 0] 115)).alloc (.cells #[.pointer (some ⟨wr.heap.size,0,none⟩)] 113)).heap.size:=zA7
   obtain ⟨bs',hbs'⟩:∃bs',bs'=bs++[(wr.heap.size,newB x)]:=⟨_,rfl⟩
   have Hbs:=zL hbs'
   have kv:Below wr.heap.size wr (wr.alloc (.cells #[.int .i64 x.b,.int .i64 x.r,.int .i64 (IntKind.i64.wrap (1000*x.b)),.int .i64 0,.int .i64 0] 115)):=(zAA _ _).alloc (zD _) _
   have KV:=zL kv
   subst hbl
   clear hx hu hec hbB hbs' kv
   go_wp2_with fail
   go_region_law (refine yx _ pC rfl (.tmp 21) (.tmp 34) 112 rfl w.heap.size 113 i0 (.pointer none) 1 8 Tryz.underlying112 hi0 hz0 hz1 hz2 rfl Nat.one_pos aeZ avW (.slice A5 bs.length c5) bs.length (bs.flatMap pC) rfl Hrow2 (wr.heap.size+2) (some ⟨wr.heap.size+1,0,none⟩) 1 [(wr.heap.size,newB x)] rfl hnew q1 q2 hq7 ?_;intro v3 w3 row3 g3 at3)
   all_goals
    obtain ⟨A12,c12,hv12,row12⟩:=qI (l:=bs) (l':=[(wr.heap.size,newB x)]) row3 zO
    rw [hv12] at at3 ⊢
    clear hv12 row3
    have hm12:xE w.heap.size w3 A12 c12 (bs++[(wr.heap.size,newB x)]):=a1X Hm.o KV.o (zD _) HB.o zw row12 ⟨g3.os,g3.tape,g3.output,g3.size,g3.block⟩ at3
    have k12:Below w.heap.size w w3:=ql ((hbw.alloc zw _).alloc (qG zw _) _).drew Hrow2.drew ⟨g3.os,g3.tape,g3.output,g3.size,g3.block⟩ (zD _) hq7
    have Hm12:=zL hm12
    have hsn:(bs++[(wr.heap.size,newB x)]).map (·.2)=(l.take (bs.length+1)).map newB:=by rw [List.map_append,Hsnd.o,zAN hlt,List.map_append,<-Hx.o];rfl
    have HSN:=zL hsn
    have hln:(bs++[(wr.heap.size,newB x)]).length=bs.length+1:=zA1
    clear row12 g3 at3 hm12 hsn
    go_wp2_with fail
    go_roundw
    case rel=>exact ⟨bs.length+1,A12,c12,bs++[(wr.heap.size,newB x)],hlt,hln,by rw [hln],by go_num,HSN.o,Hm12.o,k12⟩
    case measure=>simp [intOf];omega
  ·have hke:k=l.length:=by omega
   have Hs2:=zM (bs.map (·.2)=l.map newB) (by rw [Hsnd.o,zAZ zO])
   have hb6:bs.length<=1000:=zO
   obtain ⟨wo,rfl⟩:∃wo:World,wo=wr:=⟨_,rfl⟩
   clear hke hbl
   have hlt6:∀x∈bs,x.1<wo.heap.size:=λx hx=>(Hm.o.bk x hx).lt
   have hrl6:∀b,(Value.slice A5 bs.length c5).ownBlock=some b->b<wo.heap.size:=λb hb=>jQ Hm.o.row b hb
   have hbsok:au1 bs 0:=λx hx=>by
    exact zEm
   have heq0:zG l p=glue [] (shapeGo p (bs.map (·.2)) 0 0):=zDi
   have Heq0:=zL heq0
   have Hok0:=zL hbsok
   have Hlt6:=zL hlt6
   have Hrl6:=zL hrl6
   clear heq0 hbsok hlt6 hrl6
   go_wp2_with fail
   go_loopw [8,9] (λov iv wr=>∃(k:Nat) (acc:List Pk) (A7:Option Addr) (c7:Nat) (bs2:List (Nat × Bu)) (last:Int),k<=p.length/\acc.length=k/\iv=.int .i64 k/\ov=.slice A7 acc.length c7/\bs2.length=bs.length/\bs2.map (·.1)=bs.map (·.1)/\au1 bs2 last/\0<=last/\last<=1099511627776/\(k=0/\last=0\/∃(j:Nat) (hj:j<acc.length),k=j+1/\acc[j].a=last)/\zG l p=glue acc (shapeGo (p.drop k) (bs2.map (·.2)) last k)/\xE w.heap.size wr A5 c5 bs2/\wr.ownsRow wo.heap.size 53 3 (.slice A7 acc.length c7) acc.length (acc.flatMap Pk.cs)/\Below w.heap.size w wr/\wo.heap.size<=wr.heap.size) (λ_ iv _=>p.length - (intOf iv).toNat)
   case atStart=>exact ⟨0,[],none,0,bs,0,zAK _,rfl,rfl,rfl,rfl,rfl,Hok0.o,zAV _,by omega,.inl ⟨rfl,rfl⟩,Heq0.o,Hm.o,⟨by simp,.inl ⟨rfl,rfl⟩⟩,hbw,zD _⟩
   case round=>
    obtain ⟨k,acc,A7,c7,bs2,last,hk,hacc,rfl,rfl,hb2l,hb2f,hok2,hla0,hla1,hlast,heq,hm2,row2,kb2,hz2'⟩:=hrel
    have zw2:=kb2.size
    have Hm2:=zL hm2
    have Row2:=zL row2
    have Hok2:=zL hok2
    have Heq:=zL heq
    have Hb2f:=zL hb2f
    have Hacc:=zL hacc
    have Hlast:=zL hlast
    have Hb2l:=zL hb2l
    have hlt2:∀x∈bs2,x.1<wo.heap.size:=λx hx=>by
     exact zEs
    have Hlt2:=zL hlt2
    clear hm2 row2 hok2 heq hb2f hlt2 hlast hb2l
    by_cases hlt:k<p.length
    ·have hd:p.drop k=p[k]::p.drop (k+1):=zAE hlt
     obtain ⟨x,hx⟩:∃x,x=p[k]:=⟨_,rfl⟩
     obtain ⟨b,o,rfl,hbb,d0,d1,d2⟩:=RdP.get (h'.below (kb2.mono hB)) hlt
     have hpo:zg x:=by rw [hx];exact Hp.o _ (zd hlt)
     rw [<-hx] at d0 d1 d2 hd
     have Hd:=zL hd
     have r1:(k:Int)<(p.length:Int):=zO
     have r2:(0:Int)<=(k:Int):=zO
     obtain ⟨p1,p2,p3,p4,p5,p6⟩:=hpo
     have hfr:=aq4 last x.a
     obtain ⟨Q,hQ⟩:∃Q,Q=wr.heap.size:=⟨_,rfl⟩
     obtain ⟨W0,hW0⟩:∃W0:World,W0=wr.alloc (.cells #[.int .i64 x.f,.int .i64 x.s,.int .i64 x.a] 53):=⟨_,rfl⟩
     have qr0:jL w p w.heap.size wo.heap.size Q A5 c5 bs2 A7 c7 acc x x.a W0:=by
      rw [hW0,hQ]
      exact ⟨Blk.new _ _ _,Hm2.o.below ((zAA _ _).alloc (zD _) _),Row2.o.alloc _,kb2.alloc zw2 _,zAB hz2' zA1⟩
     have hQo:wo.heap.size<=Q:=zO
     have hQ1:∀y∈bs2,y.1≠Q:=λy hy=>by have:=Hlt2.o y hy;omega
     have hQ2:(Value.slice A5 bs2.length c5).ownBlock≠some Q:=λe=>by
      have e2:(Value.slice A5 bs.length c5).ownBlock=some Q:=by cases A5<;>exact e
      have:=Hrl6.o Q e2
      omega
     have hQ3:(Value.slice A7 acc.length c7).ownBlock≠some Q:=λe=>by have:=jQ Row2.o Q e;omega
     have hQw:w.heap.size<=Q:=zO
     have HQ1:=zL hQ1
     have HQ2:=zL hQ2
     have HQ3:=zL hQ3
     have QR0:=zL qr0
     have HW0:=zL hW0
     have HQ:=zL hQ
     have s0:W0.cell? ⟨Q,2,none⟩=some (.int .i64 x.a):=qr0.q.cell 2
     have z0:=qr0.q.frozen 2
     have hx0:=hx
     clear hd hx hx0 hQ hQ1 hQ2 hQ3 qr0 hW0
     obtain ⟨F,hF⟩:∃F,F=fr last x.a:=⟨_,rfl⟩
     rw [<-hF] at hfr
     have HF:=zL hF
     have hF2:F<=1099511627776:=zO
     obtain ⟨L,hL⟩:∃L,L=last:=⟨_,rfl⟩
     have bw0:Below B wr W0:=by rw [HW0.o];exact (zAA _ _).alloc (zAB hB zw2) _
     have ways:(decide ((0:Int)<(k:Int))=false/\x.a=F)\/(∃(b7 o7 j:Nat),A7=some ⟨b7,o7,none⟩/\(k:Int) - 1=(j:Int)/\(j:Int)<(acc.length:Int)/\0<k/\wr.cell? ⟨b7,o7+j*3+2,none⟩=some (.int .i64 last)/\b7<wr.heap.size):=by
      rcases Hlast.o with ⟨e1,e2⟩|⟨j,hj,e1,e2⟩
      ·refine .inl ⟨zAH zO,?_⟩
       rw [HF.o]
       unfold fr
       split<;>omega
      ·obtain ⟨b7,o7,e7,hb7,_,_,c7'⟩:=RdP.get (RdP.qA Row2.o) hj
       exact .inr ⟨b7,o7,j,e7,by omega,by omega,by omega,by rw [e2] at c7';exact c7',hb7⟩
     have bwz:Below wr.heap.size wr W0:=by rw [HW0.o];exact (zAA _ _).alloc (zD _) _
     clear hF hL
     clear hacc
     rcases ways with ⟨e0,eF⟩|⟨b7,o7,j,rfl,ej,jl,k0,c7',hb7⟩
     focus
      have s0':W0.cell? ⟨Q,2,none⟩=some (.int .i64 F):=by rw [<-eF];exact s0
      have q3:jL w p w.heap.size wo.heap.size Q A5 c5 bs2 A7 c7 acc x F W0:=by have:=QR0.o;rw [eF] at this;exact this
      have Q3:=zL q3
      have E0:=zL e0
      clear s0 q3 eF e0
      go_wp2_with fail
      rw [<-HQ.o,<-HW0.o]
      have e0:=E0.o
      have e00:decide (0<k)=false:=by rw [decide_eq_false_iff_not] at e0 ⊢;omega
      go_quiet (fail)
      rename Nat=>nq
      obtain ⟨W3,hW3⟩:∃W3:World,W3=W0.drewN nq:=⟨_,rfl⟩
      rw [<-hW3]
      have q3:jL w p w.heap.size wo.heap.size Q A5 c5 bs2 A7 c7 acc x F W3:=by rw [hW3];exact Q3.o.drewN nq
      have s3:W3.cell? ⟨Q,2,none⟩=some (.int .i64 F):=q3.q.cell 2
      have QR3:=zL q3
      clear hW3 q3 s0' e0 e00
      go_wp2_with fail
     rotate_left
     focus
      have d7:W0.cell? ⟨b7,o7+j*3+2,none⟩=some (.int .i64 last):=(bwz.cell (p:=⟨b7,o7+j*3+2,none⟩) hb7).trans c7'
      have hbQ:b7<Q:=by rw [HQ.o];exact hb7
      obtain rfl:k=j+1:=zO
      have q3:(0:Int)<((j+1:Nat):Int):=zO
      have q4:((j+1:Nat):Int) - 1=(j:Int):=zO
      have jb:(j:Int)<=300:=zO
      have j0:(0:Int)<=(j:Int):=zO
      have hwj:IntKind.i64.wrap (j:Int)=(j:Int):=zBC
      clear ej k0
      by_cases hgt:x.a<last
      focus
       have eF:last=F:=by rw [HF.o];unfold fr;rw [z6 zO]
       have q3:∀m:Nat,jL w p w.heap.size wo.heap.size Q A5 c5 bs2 (some ⟨b7,o7,none⟩) c7 acc x F ((W0.drewN m).setCell ⟨Q,2,none⟩ (.int .i64 F)):=λm=>(QR0.o.drewN m).at_ F hQw HQ1.o HQ2.o HQ3.o
       have Q3:=zL q3
       have EF:=zL eF
       rw [eF] at d7 hgt
       clear q3 eF
       go_wp2_with fail
       rw [<-HQ.o,<-HW0.o]
       go_quiet (fail)
       rename Nat=>nq
       go_wp2_with fail
       obtain ⟨W3,hW3⟩:∃W3:World,W3=(W0.drewN nq).setCell ⟨Q,2,none⟩ (.int .i64 F):=⟨_,rfl⟩
       rw [<-hW3]
       have QR3:=zM (jL w p w.heap.size wo.heap.size Q A5 c5 bs2 (some ⟨b7,o7,none⟩) c7 acc x F W3) (by rw [hW3];exact Q3.o nq)
       have s3:W3.cell? ⟨Q,2,none⟩=some (.int .i64 F):=QR3.o.q.cell 2
       clear hW3 s0 hgt
      rotate_left
      focus
       have eF:x.a=F:=by rw [HF.o];unfold fr;split<;>omega
       have s0':W0.cell? ⟨Q,2,none⟩=some (.int .i64 F):=by rw [<-eF];exact s0
       have q3:jL w p w.heap.size wo.heap.size Q A5 c5 bs2 (some ⟨b7,o7,none⟩) c7 acc x F W0:=by have:=QR0.o;rw [eF] at this;exact this
       have Q3:=zL q3
       have hg2:decide (F<last)=false:=zAH zO
       have Hg2:=zL hg2
       have EF:=zL eF
       clear s0 q3 eF hgt hg2
       go_wp2_with fail
       rw [<-HQ.o,<-HW0.o]
       have hg2:=Hg2.o
       go_quiet (fail)
       rename Nat=>nq
       obtain ⟨W3,hW3⟩:∃W3:World,W3=W0.drewN nq:=⟨_,rfl⟩
       rw [<-hW3]
       have QR3:=zM (jL w p w.heap.size wo.heap.size Q A5 c5 bs2 (some ⟨b7,o7,none⟩) c7 acc x F W3) (by rw [hW3];exact Q3.o.drewN nq)
       have s3:W3.cell? ⟨Q,2,none⟩=some (.int .i64 F):=QR3.o.q.cell 2
       clear hW3 s0' hg2
       go_wp2_with fail
      all_goals
       generalize hA7:(some (⟨b7,o7,none⟩:Addr))=A7 at*
       rw [show (j:Int)+1=((j+1:Nat):Int) from by omega]
       generalize hjk:j+1=k at*
       have Hjk:=zL hjk
       clear hA7 hjk q3 q4 d7 hwj jb j0 jl
     all_goals
      go_loopw [12] (λiv wr=>∃(k3:Nat) (t:Int),k3<=bs.length/\iv=.int .i64 k3/\F<=t/\t<=1099511627776/\yo bs2 F x.s F=yo (bs2.drop k3) F x.s t/\jL w p w.heap.size wo.heap.size Q A5 c5 bs2 A7 c7 acc x t wr) (λiv _=>bs.length - (intOf iv).toNat)
      case atStart=>exact ⟨0,F,zAK _,rfl,zAV _,hF2,rfl,QR3.o⟩
      case round=>
       obtain ⟨k3,t,hk3,rfl,hFt,ht2,hlv,qr⟩:=hrel
       have QR:=zL qr
       have Hlv:=zL hlv
       have z2:wr.cell? ⟨Q,2,none⟩=some (.int .i64 t):=qr.q.cell 2
       have y2:=qr.q.frozen 2
       have z1:wr.cell? ⟨Q,1,none⟩=some (.int .i64 x.s):=qr.q.cell 1
       clear hlv qr s3
       by_cases hlt3:k3<bs.length
       ·have hlt4:k3<bs2.length:=by rw [Hb2l.o];exact hlt3
        obtain ⟨b5,o5,rfl,hb5,d5⟩:=QR.o.bm.get hlt4
        obtain ⟨y,hy⟩:∃y,y=bs2[k3]:=⟨_,rfl⟩
        have hmem:y∈bs2:=by rw [hy];exact zd hlt4
        rw [<-hy] at d5
        obtain ⟨ho1,ho2⟩:=Hok2.o y hmem
        have hlk:yN y.2 F x.s=0:=ajK ho2 zO zO hF2 p3 p4
        have hdr:bs2.drop k3=y::bs2.drop (k3+1):=by rw [hy];exact zAE hlt4
        have Hce:=zL (ar6 y.1 y.2 F x.s wr.drew (QR.o.drew.bm.bk y hmem) ho1 hlk)
        have Ho1:=zL ho1
        have Hdr:=zL hdr
        have u1:(k3:Int)<(bs.length:Int):=zO
        have u2:(0:Int)<=(k3:Int):=zO
        clear hy hlk hdr ho1 ho2
        by_cases hw:(zi y.2 F x.s).1=0
        ·obtain ⟨T0,hT0⟩:∃T0,T0=(zi y.2 F x.s).2:=⟨_,rfl⟩
         have hwr:uH y.2 F x.s=T0:=by unfold uH;rw [zp hw,hT0]
         obtain ⟨_,g1,g2⟩:=abP Ho1.o hw
         rw [<-hT0] at g1 g2
         rw [hwr] at Hce
         have Hlv2:=zM (yo bs2 F x.s F=yo (bs2.drop (k3+1)) F x.s (if t<T0 then T0 else t)) (by rw [Hlv.o,Hdr.o,yo,zp hw,<-hT0])
         have g3:(0:Int)<=T0:=zO
         clear hw hT0 hwr Hlv
         by_cases htT:t<T0
         ·have Hlv:=zM (yo bs2 F x.s F=yo (bs2.drop (k3+1)) F x.s T0) (by have:=Hlv2.o;rw [zp htT] at this;exact this)
          clear Hlv2
          go_wp2_with fail
          go_region_held3 (λw'=>w'.cell? ⟨b5,o5+k3,none⟩=some (.pointer (some ⟨y.1,0,none⟩))/\w'.cell? ⟨Q,1,none⟩=some (.int .i64 x.s))
           (first
            |go_keep)
           (first
            |(go_at_call 55;refine (Hce.o).mono ?_;rintro e w9 ⟨rfl,m9,rfl⟩))
          all_goals
           obtain ⟨v2,hv2⟩:∃v2:World,v2=wr.drewN (1+m9):=⟨_,rfl⟩
           rw [<-hv2]
           have QR2:=zM (jL w p w.heap.size wo.heap.size Q (some ⟨b5,o5,none⟩) c5 bs2 A7 c7 acc x t v2) (by rw [hv2];exact QR.o.drewN _)
           have z2':v2.cell? ⟨Q,2,none⟩=some (.int .i64 t):=QR2.o.q.cell 2
           have y2':=QR2.o.q.frozen 2
           clear hv2 z2 z1 y2 d5
           go_wp2_with fail
           have QR3':=zL (QR2.o.at_ T0 hQw HQ1.o HQ2.o HQ3.o)
           go_roundw
           case rel=>exact ⟨k3+1,T0,hlt3,by go_num,by omega,g2,Hlv.o,QR3'.out⟩
           case measure=>simp [intOf];omega
         ·have Hlv:=zM (yo bs2 F x.s F=yo (bs2.drop (k3+1)) F x.s t) (by have:=Hlv2.o;rw [z6 htT] at this;exact this)
          have htT2:T0<=t:=zO
          clear Hlv2
          go_wp2_with fail
          go_region_held3 (λw'=>w'.cell? ⟨b5,o5+k3,none⟩=some (.pointer (some ⟨y.1,0,none⟩))/\w'.cell? ⟨Q,1,none⟩=some (.int .i64 x.s))
           (first
            |go_keep)
           (first
            |(go_at_call 55;refine (Hce.o).mono ?_;rintro e w9 ⟨rfl,m9,rfl⟩))
          all_goals
           obtain ⟨v2,hv2⟩:∃v2:World,v2=wr.drewN (1+m9):=⟨_,rfl⟩
           rw [<-hv2]
           have QR2:=zM (jL w p w.heap.size wo.heap.size Q (some ⟨b5,o5,none⟩) c5 bs2 A7 c7 acc x t v2) (by rw [hv2];exact QR.o.drewN _)
           have z2':v2.cell? ⟨Q,2,none⟩=some (.int .i64 t):=QR2.o.q.cell 2
           have y2':=QR2.o.q.frozen 2
           clear hv2 z2 z1 y2 d5
           go_wp2_with fail
           go_roundw
           case rel=>exact ⟨k3+1,t,hlt3,by go_num,hFt,ht2,Hlv.o,QR2.o⟩
           case measure=>simp [intOf];omega
        ·have hwr:uH y.2 F x.s=-1:=by unfold uH;rw [z6 hw]
         rw [hwr] at Hce
         have Hnone:=zM (yo bs2 F x.s F=none) (by rw [Hlv.o,Hdr.o,yo,z6 hw])
         have Hsh:=zM (zG l p=([],(k:Int))) (by rw [Heq.o,Hd.o];exact ajV (by rw [<-aaZ,<-HF.o];exact Hnone.o))
         have kw:=QR.o.bel
         have KW:=zL kw
         clear hw hwr Hlv kw
         go_wp2_with fail
         go_region_held3 (λw'=>w'.cell? ⟨b5,o5+k3,none⟩=some (.pointer (some ⟨y.1,0,none⟩))/\w'.cell? ⟨Q,1,none⟩=some (.int .i64 x.s))
          (first
           |go_keep)
          (first
           |(go_at_call 55;refine (Hce.o).mono ?_;rintro e w9 ⟨rfl,m9,rfl⟩))
         all_goals
          go_wp2_with fail
          go_ret2
          rw [Hsh.o]
          exact ⟨none,0,rfl,⟨by simp,.inl ⟨rfl,rfl⟩⟩,below_drewN KW.o _⟩
       ·have hsome:yo bs2 F x.s F=some t:=by rw [Hlv.o,zAO (by rw [Hb2l.o];omega)];rfl
        have hsome':yo bs2 (fr last x.a) x.s (fr last x.a)=some t:=by rw [<-HF.o];exact hsome
        obtain ⟨s1,s2,s3,s4⟩:=aj5 Hok2.o ⟨p5,p6⟩ hla1 hsome'
        have Hs1:=zL s1
        have Hsh:=zM (zG l p=glue (acc++[⟨x.f,x.s,t⟩]) (shapeGo (p.drop (k+1)) ((bs2.map (tookP t x.s)).map (·.2)) t (k+1))) (by rw [Heq.o,Hd.o,ajU (by rw [<-aaZ];exact hsome'),al1])
        clear hsome hsome' s1 Hlv
        obtain ⟨W4,hW4⟩:∃W4:World,W4=wr:=⟨_,rfl⟩
        go_wp2_with fail
        go_loopw [14] (λiv wr=>∃k4:Nat,k4<=bs.length/\iv=.int .i64 k4/\jL w p w.heap.size wo.heap.size Q A5 c5 (uh bs2 t x.s k4) A7 c7 acc x t wr) (λiv _=>bs.length - (intOf iv).toNat)
        case atStart=>exact ⟨0,zAK _,rfl,QR.o⟩
        case round=>
         obtain ⟨k4,hk4,rfl,qr⟩:=hrel
         have QR:=zL qr
         have x2:wr.cell? ⟨Q,2,none⟩=some (.int .i64 t):=qr.q.cell 2
         have x1:wr.cell? ⟨Q,1,none⟩=some (.int .i64 x.s):=qr.q.cell 1
         clear qr z2 z1 y2 hW4
         by_cases hlt5:k4<bs.length
         ·have hlt4:k4<bs2.length:=by rw [Hb2l.o];exact hlt5
          have hlt6:k4<(uh bs2 t x.s k4).length:=by rw [agT];exact hlt4
          obtain ⟨b5,o5,rfl,hb5,d5⟩:=QR.o.bm.get hlt6
          rw [jT hlt4 hlt6] at d5
          have Hat:=zL (jT hlt4 hlt6)
          have hbk:=QR.o.bm.bk _ (zd hlt6)
          rw [jT hlt4 hlt6] at hbk
          have hmem:bs2[k4]∈bs2:=zd hlt4
          obtain ⟨ho1,ho2⟩:=Hok2.o _ hmem
          have hlk:yN bs2[k4].2 t x.s=0:=aa9 ho1 (ajK ho2 zO zO hF2 p3 p4) hFt ht2
          have hbk':Blk wr.drew bs2[k4].1 115 bs2[k4].2.rc:=hbk
          have Hce:=zL (asC bs2[k4].1 bs2[k4].2 t x.s wr.drew hbk' ho1 hlk)
          have hyQ:=HQ1.o _ hmem
          have hyo:=Hlt2.o _ hmem
          have hyw:=Hm2.o.ge _ hmem
          have HyQ:=zL hyQ
          have hb5y:b5≠bs2[k4].1:=λe=>QR.o.bm.far _ (zd hlt6) (by rw [Hat.o,<-e];rfl)
          have Hb5y:=zL hb5y
          clear hb5y
          obtain ⟨y,hy⟩:∃y,y=bs2[k4]:=⟨_,rfl⟩
          rw [<-hy] at d5 Hat Hce HyQ hyo hyw Hb5y
          have Hy:=zL hy
          have u1:(k4:Int)<(bs.length:Int):=zO
          have u2:(0:Int)<=(k4:Int):=zO
          clear hbk hbk' ho1 ho2 hlk hyQ hy
          go_wp2_with fail
          go_region_held3 (λw'=>w'.cell? ⟨b5,o5+k4,none⟩=some (.pointer (some ⟨y.1,0,none⟩))/\w'.cell? ⟨Q,1,none⟩=some (.int .i64 x.s)/\w'.cell? ⟨Q,2,none⟩=some (.int .i64 t))
           (first
            |go_keep
            |exact ⟨(zAb (a:=⟨b5,o5+k4,none⟩) (on9.blk b5 Hb5y.o)).trans d5,(zAb (a:=⟨Q,1,none⟩) (on9.blk Q (λe=>HyQ.o e.symm))).trans x1,(zAb (a:=⟨Q,2,none⟩) (on9.blk Q (λe=>HyQ.o e.symm))).trans x2⟩)
           (first
            |(go_at_call 56;refine (Hce.o).mono ?_;rintro e w9 ⟨rfl,b9,on9⟩))
          all_goals
           have QR9:=zL (show jL w p w.heap.size wo.heap.size Q (some ⟨b5,o5,none⟩) c5 (uh bs2 t x.s (k4+1)) A7 c7 acc x t w9 by
            have h9:=QR.o.drew.step hlt6 (s':=yK y.2 t x.s) (w':=w9) (by rw [Hat.o];exact on9) (by rw [Hat.o];exact b9) (by rw [Hat.o];exact HyQ.o) (by rw [Hat.o];exact hyo) (by rw [Hat.o];exact hyw)
            rw [Hat.o] at h9
            rw [afT hlt4,<-Hy.o]
            exact h9)
           clear b9 on9 d5 x1 x2
           go_wp2_with fail
           go_roundw
           case rel=>exact ⟨k4+1,hlt5,by go_num,QR9.o⟩
           case measure=>simp [intOf];omega
         ·obtain ⟨bs3,hbs3⟩:∃bs3,bs3=bs2.map (tookP t x.s):=⟨_,rfl⟩
          have QR5:=zL (show jL w p w.heap.size wo.heap.size Q A5 c5 bs3 A7 c7 acc x t wr by
           have h9:=QR.o
           rw [show k4=bs2.length by rw [Hb2l.o];omega,agU] at h9
           rw [hbs3];exact h9)
          rw [<-hbs3] at Hs1 Hsh
          have Hbs3:=zL hbs3
          have x0:wr.cell? ⟨Q,0,none⟩=some (.int .i64 x.f):=QR5.o.q.cell 0
          have zr:=QR5.o.lo
          have hal:acc.length+1<=301:=by rw [Hacc.o];omega
          have Hnew:=zM (Rd (wr.alloc (.cells #[.int .i64 x.f,.int .i64 x.s,.int .i64 t] 53)) (wr.heap.size+1) 3 Pk.cs (some ⟨wr.heap.size,0,none⟩) [(⟨x.f,x.s,t⟩:Pk)]) (Rd.of_block (heap_alloc_new _ _) rfl (Nat.lt_succ_self _) zO Pk.qw)
          clear QR hbs3
          go_wp2_with (at_builtin;refine qd _ Pk.cs rfl (.tmp 106) (.tmp 108) 46 rfl wo.heap.size 53 i1 (.agg #[.int .i64 0,.int .i64 0,.int .i64 0]) 3 24 Tryz.underlying46 hi1 hy0 hy1 hy2 rfl zO Pk.qw Pk.qV (.slice A7 acc.length c7) acc.length (acc.flatMap Pk.cs) rfl (QR5.o.row.alloc _) (wr.heap.size+1) (some ⟨wr.heap.size,0,none⟩) 1 [⟨x.f,x.s,t⟩] rfl Hnew.o zA8 zBF zA7 ?_;intro v9 w9 row9 g9 at9;obtain ⟨A9,c9,hv9,row9⟩:=qI (l:=acc) (l':=[(⟨x.f,x.s,t⟩:Pk)]) row9 zO;rw [hv9] at at9 ⊢;clear hv9)
          have hf3:bs3.map (·.1)=bs.map (·.1):=by rw [Hbs3.o,List.map_map,<-Hb2f.o];rfl
          have hbl3:bs3.length=bs.length:=by rw [Hbs3.o,List.length_map];exact Hb2l.o
          have k9:Below wo.heap.size wr w9:=ql ((zAA _ _).alloc zr _) (QR5.o.row.alloc _) g9 (zD _) (qG zr _)
          have bm9:xE w.heap.size w9 A5 c5 bs3:=QR5.o.bm.a1Z k9 (λy hy=>by
           have:y.1∈bs3.map (·.1):=zAT.2 ⟨y,hy,rfl⟩
           rw [hf3] at this
           obtain ⟨z,hz,e⟩:=zAT.1 this
           rw [<-e];exact Hlt6.o z hz) (λg e=>Hrl6.o g (by rw [hbl3] at e;exact e))
          refine ⟨⟨k+1,acc++[⟨x.f,x.s,t⟩],A9,c9,bs3,t,hlt,by rw [zAP,Hacc.o];rfl,by go_num,by rw [zAP];rfl,hbl3,hf3,Hs1.o,by omega,ht2,.inr ⟨acc.length,by simp,by rw [Hacc.o],by simp⟩,Hsh.o,bm9,row9,QR5.o.bel.trans (k9.mono zw),zAB zr k9.size⟩,?_⟩
          first
           |(simp [intOf];omega)
           |(have hjk:=Hjk.o;simp [intOf];omega)
    ·have hd:p.drop k=[]:=zAO zO
     have hsh:zG l p=(acc,-1):=zFP
     have Hsh:=zL hsh
     clear hd hsh
     go_wp2_with fail
     go_ret2
     rw [Hsh.o]
     exact ⟨A7,c7,by rw [Hacc.o];rfl,qO Row2.o zw,kb2⟩
end Go.Proofs.YtoomffajodheaaaGreatDoor
