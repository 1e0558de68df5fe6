/- The proof of ScriptPlays, part CvM. Conditions: in each statement. -/
import Derived.Test.YtoomffajodheaaaGreatDoorZPkM
set_option linter.all false
namespace Go.Proofs.YtoomffajodheaaaGreatDoor
open Go.RowKit
set_option maxRecDepth 100000
theorem zAx{p:Prop}(h:p:=by kernel_rfl):p:=h
theorem zBd{p:Prop}(h:p:=by simp only;omega):p:=h
theorem zBg{p:Prop}(h:p:=by rw [beq_eq_false_iff_ne];omega):p:=h
theorem zCB{p:Prop}(h:p:=by split<;>omega):p:=h
theorem zC4{p:Prop}(h:p:=by rw [hbad,zAO (by omega)];rfl):p:=h
theorem zDU{p:Prop}(h:p:=by
 have q3:(0:Int)<((j+1:Nat):Int):=zO
 have q4:((j+1:Nat):Int) - 1=(j:Int):=zO
 have q5:(j:Int)<(l.length:Int):=zO
 by_cases hlast:l[j+1].a<l[j].a
 ·have Hb:=zM (qj l=(5,((j+1:Nat):Int))) zCO
  clear hbad
  go_wp2_with fail
  go_quiet (fail)
  go_wp2_with fail
  exact zAt (v:=fv 5 ((j+1:Nat):Int)) (zAs (p:=2) rfl _ _ w.heap.size 55 #[.int .i64 5,.int .i64 ((j+1:Nat):Int)] (0,0) _ rfl (((On.o.drewN _).qi 0 (.int .i64 5)).qi 1 (.int .i64 ((j+1:Nat):Int))) Tryz.underlying55 rfl zn) rfl
       ⟨by rw [Hb.o];rfl,((below_drewN kc _).setCell (p:=⟨w.heap.size,0,none⟩) (zD _) _).setCell (p:=⟨w.heap.size,1,none⟩) (zD _) _⟩
 ·have hlast2:l[j].a<=l[j+1].a:=by omega
  have Hb:=zM (qj l=yO (l.drop (j+1+1)) l[j+1].a (j+1+1)) zCP
  clear hbad hlast
  go_wp2_with fail
  go_quiet (fail)
  go_wp2_with fail
  go_roundw
  case rel=>exact ⟨j+1+1,_,hlt,by go_num,Hb.o,.inr ⟨j+1,rfl,hlt,rfl⟩,below_drewN (hbw.alloc zO _) _⟩
  case measure=>simp [intOf];omega):p:=h
theorem zDa{p:Prop}(h:p:=by
 have Hb:=zM (qj l=(2,(k:Int))) zCq
 clear hbad
 have hx':l[k].f<0\/(0<=l[k].f/\8<=l[k].f)\/(0<=l[k].f/\l[k].f<8/\l[k].s<1)\/(0<=l[k].f/\l[k].f<8/\1<=l[k].s/\1500<l[k].s)\/(0<=l[k].f/\l[k].f<8/\1<=l[k].s/\l[k].s<=1500/\l[k].a<0)\/(0<=l[k].f/\l[k].f<8/\1<=l[k].s/\l[k].s<=1500/\0<=l[k].a/\1099511627776<l[k].a):=by
        unfold zg at hx
        omega
 clear hx hm
 rcases hx' with p1|⟨p1,p2⟩|⟨p1,p2,p3⟩|⟨p1,p2,p3,p4⟩|⟨p1,p2,p3,p4,p5⟩|⟨p1,p2,p3,p4,p5,p6⟩
 all_goals
        go_wp2_with fail
        exact zAt (v:=fv 2 k) (zAs (p:=2) rfl _ _ w.heap.size 55 #[.int .i64 2,.int .i64 k] (0,0) _ rfl ((On.o.qi 0 (.int .i64 2)).qi 1 (.int .i64 k)) Tryz.underlying55 rfl zn) rfl
         ⟨by rw [Hb.o];rfl,(kc.setCell (p:=⟨w.heap.size,0,none⟩) (zD _) _).setCell (p:=⟨w.heap.size,1,none⟩) (zD _) _⟩):p:=h
theorem zDe{p:Prop}(h:p:=by
 have Hb:=zM (qj l=(0,-1)) zC4
 clear hbad
 go_wp2_with fail
 refine (jq _).mono ?_
 rintro e w1 ⟨rfl,k1⟩
 have b1:=Hb0.o.below k1 zO
 have c0:=b1.cell 0
 have c1:=b1.cell 1
 have v0:=b1.frozen 0
 have v1:=b1.frozen 1
 simp only [zc,zE,zj] at c0 c1
 have Hb1:=zL b1
 clear b1
 unfold fv
 go_wp2_with fail
 exact zAt (v:=fv 0 (-1)) (zAs (p:=2) rfl _ _ w.heap.size 55 #[.int .i64 0,.int .i64 (-1)] (0,0) _ rfl ((Hb1.o.qi 0 (.int .i64 0)).qi 1 (.int .i64 (-1))) Tryz.underlying55 rfl zn) rfl
  ⟨by rw [Hb.o];rfl,((kb.trans (k1.mono zO)).setCell (p:=⟨w.heap.size,0,none⟩) (zD _) _).setCell (p:=⟨w.heap.size,1,none⟩) (zD _) _⟩):p:=h
theorem zDh{p:Prop}(h:p:=by
 go_enter Tryz.func18,Tryz.ntmps18
 go_wp2_with fail
 refine (yg 2 _).mono ?_
 rintro e w1 ⟨rfl,k1⟩
 have b1:Blk w1 w.heap.size 55 #[.int .i64 0,.int .i64 0]:=akL k1
 have c0:=b1.cell 0
 have c1:=b1.cell 1
 have z0:=b1.frozen 0
 have z1:=b1.frozen 1
 simp only [zc,zE,zj] at c0 c1
 unfold fv
 go_wp2_with fail
 exact zAt (v:=fv 2 (-1)) (zAs (p:=2) rfl _ _ w.heap.size 55 #[.int .i64 2,.int .i64 (-1)] (0,0) _ rfl ((b1.qi 0 (.int .i64 2)).qi 1 (.int .i64 (-1))) Tryz.underlying55 rfl zn) rfl ⟨by rw [Hf.o];rfl,((ba.trans (k1.mono ba.size)).setCell (p:=⟨w.heap.size,0,none⟩) (zD _) _).setCell (p:=⟨w.heap.size,1,none⟩) (zD _) _⟩):p:=h
theorem zD7{p:Prop}(h:p:=by
 clear hbad
 simp only [Nat.zero_mul,Nat.add_zero] at d0 d1 d2
 go_wp2_with fail
 go_quiet (fail)
 go_wp2_with fail
 go_roundw
 case rel=>exact ⟨1,_,hlt,by go_num,Hb.o,.inr ⟨0,rfl,hlt,rfl⟩,below_drewN (hbw.alloc zO _) _⟩
 case measure=>simp [intOf];omega):p:=h
theorem zEZ{p:Prop}(h:p:=by
 go_wp2_with fail
 go_quiet (fail)
 go_wp2
 go_roundw
 case rel=>exact ⟨k+1,_,hlt,by go_num,rfl,.inr Hv.o,below_drewN hbw _⟩
 case measure=>simp [intOf];omega):p:=h
theorem zFh{p:Prop}(h:p:=by
 go_wp2
 go_ret
 rw [Hf.o]
 exact ⟨_,rfl,.bare 3 zO zO,zAA _ _⟩):p:=h
def ug (b r:Int):Bool:=decide (1<=b/\b<=20000/\0<=r/\r<=100000)
theorem al7 (b r:Int) (w:World):
 Calls Tryz.prog 109 #[.agg #[.int .i64 b,.int .i64 r]] w λe w'=>e=.returned (.bool (ug b r))/\Below w.heap.size w w':=by
 go_enter Tryz.func109,Tryz.ntmps109
 go_wp2
 all_goals (go_ret;exact ⟨vL (by unfold ug;symm;first |exact zAI zO|exact zAH zO|exact decide_eq_decide.2 zO),(zAA _ _).alloc (zD _) _⟩)
theorem am2 (b r:Int) (w:World):
 Calls Tryz.prog 108 #[.agg #[.int .i64 b,.int .i64 r]] w λe w'=>e=.returned (.bool (!ug b r))/\Below w.heap.size w w':=by
 go_enter Tryz.func108,Tryz.ntmps108
 go_wp2_with (go_at_call 109;refine (al7 _ _ _).mono ?_;rintro e w1 ⟨rfl,hb1⟩)
 go_ret
 exact ⟨rfl,((zAA _ _).alloc (zD _) _).trans (hb1.mono zA1)⟩
def yD:List Ln->Nat->Int
 |[],_=>-1
 |x::r,k=>if ug x.b x.r then yD r (k+1) else k
theorem auT (l:List Ln) (k:Nat):yD l k=-1\/((k:Int)<=yD l k/\yD l k<k+l.length):=by
 induction l generalizing k with
 |nil=>exact .inl rfl
 |cons x r ih=>
  unfold yD
  split
  ·rcases ih (k+1) with h|h
   ·exact .inl h
   ·exact .inr zA7
  ·exact .inr (by simp only [zAL];omega)
theorem aq0 (A:Option Addr) (c:Nat) (l:List Ln) (w:World) (B:Nat) (hB:B<=w.heap.size) (h:RdL w B A l) (hl:l.length<=9223372036854775807):
 Calls Tryz.prog 107 #[.slice A l.length c,.func (.func 108) #[] #[]] w λe w'=>e=.returned (.int .i64 (yD l 0))/\Below w.heap.size w w':=by
 go_enter Tryz.func107,Tryz.ntmps107
 go_wp2
 go_loopw [5,8] (λ_ i wr=>∃k:Nat,k<=l.length/\i=.int .i64 k/\yD l 0=yD (l.drop k) k/\Below w.heap.size w wr) (λ_ i _=>l.length - (intOf i).toNat)
 case atStart=>exact ⟨0,zAK _,rfl,rfl,zAA _ _⟩
 case round=>
  obtain ⟨k,hk,rfl,hbad,hbw⟩:=hrel
  by_cases hlt:k<l.length
  ·obtain ⟨b,o,rfl,hb,h0,h1⟩:=RdL.get (h.below (hbw.mono hB)) hlt
   have hd:l.drop k=l[k]::l.drop (k+1):=zAE hlt
   rw [hd] at hbad
   have Hbad:=zL hbad
   clear hbad hd
   cases hx:ug l[k].b l[k].r
   ·have Hx:=zL hx;clear hx
    go_wp2_with (go_at_call 108;refine (am2 _ _ _).mono ?_;rintro e w1 ⟨rfl,hb1⟩;rw [Hx.o])
    go_ret
    exact ⟨yh (by rw [Hbad.o];simp [yD,Hx.o]),hbw.trans (hb1.mono (by have:=hbw.size;omega))⟩
   ·have Hx:=zL hx;clear hx
    go_wp2_with (go_at_call 108;refine (am2 _ _ _).mono ?_;rintro e w1 ⟨rfl,hb1⟩;rw [Hx.o])
    go_roundw
    case rel=>exact ⟨k+1,by omega,by go_num,by rw [Hbad.o];simp [yD,Hx.o],hbw.trans (hb1.mono (by have:=hbw.size;omega))⟩
    case measure=>simp [intOf];omega
  ·have hkl:l.length<=k:=by omega
   rw [zAO hkl] at hbad
   have Hbad:=zL hbad
   clear hbad
   go_wp2
   go_ret
   exact ⟨yh (by rw [Hbad.o];rfl),hbw⟩
def qh (l:List Ln):Nat × Int:=if l.length<1\/6<l.length then (3,-1) else if yD l 0=-1 then (0,-1) else (2,yD l 0)
theorem yw (A:Option Addr) (c:Nat) (l:List Ln) (S:Nat->Addr) (w:World) (B:Nat) (hB:B<=w.heap.size) (h:RdL w B A l) (hS:Snt w B S [2,3]) (hl:l.length<=9223372036854775807):
 Calls Tryz.prog 81 #[.slice A l.length c] w (aiH S (qh l).1 (qh l).2 w):=by
 by_cases h1:l.length<1\/6<l.length
 ·have g3:w.cell? ⟨G 3,0,none⟩=some (sv S 3):=(hS 3 zA1).2.2
  simp only [G,sv] at g3
  have Hf:=zM (qh l=(3,-1)) (zp h1)
  rcases h1 with h1|h1
  ·go_enter Tryz.func81,Tryz.ntmps81
   exact zFh
  ·go_enter Tryz.func81,Tryz.ntmps81
   exact zFh
 ·have h2:1<=l.length:=by omega
  have h3:l.length<=6:=zO
  have hge:=auT l 0
  by_cases h4:yD l 0=-1
  ·have Hf:=zM (qh l=(0,-1)) ((z6 h1).trans (zp h4))
   have H4:=zL h4
   clear h4 h1 hge
   go_enter Tryz.func81,Tryz.ntmps81
   go_wp2_with (go_at_call 107;refine (aq0 A c l _ B hB h hl).mono ?_;rintro e w1 ⟨rfl,hb1⟩;rw [H4.o])
   go_ret
   rw [Hf.o]
   exact ⟨_,rfl,.nil,hb1⟩
  ·have Hf:=zM (qh l=(2,yD l 0)) ((z6 h1).trans (z6 h4))
   have h5:0<=yD l 0:=zO
   clear h4 h1 hge
   have g2:∀w1,Below w.heap.size w w1->w1.cell? ⟨G 2,0,none⟩=some (sv S 2):=λw1 hb1=>((hS.below (hb1.mono hB)) 2 zA1).2.2
   simp only [G,sv] at g2
   have G2:=zL g2
   clear g2
   go_enter Tryz.func81,Tryz.ntmps81
   go_wp2_with (go_at_call 107;refine (aq0 A c l _ B hB h hl).mono ?_;rintro e w1 ⟨rfl,hb1⟩;have g2:=G2.o w1 hb1)
   go_ret
   rw [Hf.o]
   exact ⟨_,rfl,.fault 2 zO zO _ _ zA1 (heap_alloc_new _ _),hb1.alloc hb1.size _⟩
def lineAt (x:Ln) (t:Int):Int:=x.b+x.r*t / 1000
def ww (t:Int):Int->List Ln->Int
 |n,[]=>n
 |n,x::r=>ww t (if lineAt x t<n then lineAt x t else n) r
def qP (l:List Ln) (t:Int):Int:=match l with |[]=>0|x::r=>ww t (lineAt x t) (x::r)
def yL (x:Ln):Prop:=1<=x.b/\x.b<=20000/\0<=x.r/\x.r<=100000
theorem adS {x:Ln} (h:yL x) {t:Int} (h0:0<=t) (h1:t<=1099511627776):0<=x.r*t/\x.r*t<=109951162777600000:=by
 obtain ⟨_,_,a,b⟩:=h
 refine ⟨zAY a h0,?_⟩
 have:=Int.mul_le_mul b h1 h0 (by omega:(0:Int)<=100000)
 omega
theorem arV (A:Option Addr) (c:Nat) (l:List Ln) (t:Int) (w:World) (B:Nat) (hB:B<=w.heap.size) (h:RdL w B A l) (hl:l.length<=9223372036854775807) (h0:0<l.length) (hok:∀x∈l,yL x) (ht0:0<=t) (ht1:t<=1099511627776):
 Calls Tryz.prog 123 #[.slice A l.length c,.int .i64 t] w λe w'=>e=.returned (.int .i64 (qP l t))/\Below w.heap.size w w':=by
 have hok0:=hok _ (zd h0)
 obtain ⟨m1,m2⟩:=adS hok0 ht0 ht1
 obtain ⟨p1,p2,p3,p4⟩:=hok0
 obtain ⟨b,o,rfl,hb,c0,c1⟩:=RdL.get h h0
 simp only [Nat.zero_mul,Nat.add_zero] at c0 c1
 go_enter Tryz.func123,Tryz.ntmps123
 go_wp2
 go_quiet (fail)
 go_wp2
 have Bw:Below w.heap.size w (w.drewN nq):=below_drewN (zAA _ _) _
 go_loopw [5,22] (λn i wr=>∃(k:Nat) (m:Int),k<=l.length/\i=.int .i64 k/\n=.int .i64 m/\qP l t=ww t m (l.drop k)/\Below w.heap.size w wr) (λ_ i _=>l.length - (intOf i).toNat)
 case atStart=>exact ⟨0,_,zAK _,rfl,rfl,by cases l with |nil=>simp at h0|cons x r=>rfl,Bw⟩
 case round=>
  obtain ⟨k,m,hk,rfl,rfl,hv,hbw⟩:=hrel
  have Hv:=zL hv
  clear hv
  by_cases hlt:k<l.length
  ·have hokk:=hok _ (zd hlt)
   obtain ⟨q1,q2⟩:=adS hokk ht0 ht1
   obtain ⟨r1,r2,r3,r4⟩:=hokk
   obtain ⟨b',o',he,hb',d0,d1⟩:=RdL.get (h.below (hbw.mono hB)) hlt
   simp only [zAC,zAS,and_true] at he
   obtain ⟨rfl,rfl⟩:=he
   have hd:l.drop k=l[k]::l.drop (k+1):=zAE hlt
   have Hd:=zL hd
   clear hd
   go_wp2
   all_goals
    go_roundw
    case rel=>exact ⟨k+1,_,by omega,by go_num,rfl,by rw [Hv.o,Hd.o];rfl,hbw.trans ((zAA _ _).alloc (by have:=hbw.size;omega) _)⟩
    case measure=>simp [intOf];omega
  ·go_wp2
   go_ret
   refine ⟨yh ?_,hbw⟩
   rw [Hv.o,zAO zO];rfl
theorem ahD (l:List Ln) (k:Nat) (h:yD l k=-1):∀x∈l,yL x:=by
 induction l generalizing k with
 |nil=>simp
 |cons x r ih=>
  unfold yD at h
  split at h
  ·rename_i hx
   intro y hy
   rcases zAM.1 hy with rfl|hy
   ·unfold ug at hx;have h2:=of_decide_eq_true hx;exact h2
   ·exact ih _ h y hy
  ·omega
theorem crvErr_ok {l:List Ln} (h:(qh l).1=0):1<=l.length/\l.length<=6/\(∀x∈l,yL x)/\(qh l).2=-1:=by
 unfold qh at h ⊢
 by_cases h1:l.length<1\/6<l.length
 ·rw [zp h1] at h;simp at h
 ·rw [z6 h1] at h ⊢
  by_cases h2:yD l 0=-1
  ·rw [zp h2];exact ⟨by omega,by omega,ahD l 0 h2,rfl⟩
  ·rw [z6 h2] at h;simp at h
def jC (l:List Ln) (t:Int):Nat × Int:=if (qh l).1≠0 then qh l else if t<0\/1099511627776<t then (2,-1) else (0,-1)
def jM (l:List Ln) (t:Int):Int:=if (jC l t).1=0 then qP l t else 0
set_option maxHeartbeats 400000 in
theorem a10 (A:Option Addr) (c:Nat) (l:List Ln) (t:Int) (S:Nat->Addr) (w:World) (B:Nat) (hB:B<=w.heap.size) (h:RdL w B A l) (hS:Snt w B S [2,3]) (hl:l.length<=9223372036854775807):
 Calls Tryz.prog 98 #[.slice A l.length c,.int .i64 t] w (adA (.int .i64 (jM l t)) S (jC l t).1 (jC l t).2 w):=by
 by_cases h1:(qh l).1=0
 ·obtain ⟨q1,q2,q3,q4⟩:=crvErr_ok h1
  have Hc:=zM (qh l=(0,-1)) (Prod.ext h1 q4)
  clear h1 q4
  by_cases h2:t<0\/1099511627776<t
  ·have Hf:=zM (jC l t=(2,-1)) (by unfold jC;rw [Hc.o];exact zp h2)
   have Hv:=zM (jM l t=0) (by unfold jM;rw [Hf.o];rfl)
   have g2:∀w1,Below w.heap.size w w1->w1.cell? ⟨G 2,0,none⟩=some (sv S 2):=λw1 hb1=>((hS.below (hb1.mono hB)) 2 zA1).2.2
   simp only [G,sv] at g2
   have G2:=zL g2
   clear g2
   rcases h2 with h2|h2
   all_goals
    go_enter Tryz.func98,Tryz.ntmps98
    go_wp2_with (go_at_call 81;refine (yw A c l S _ B hB h hS hl).mono ?_;rintro e w1 ⟨v,rfl,hv,hb1⟩;have g2:=G2.o w1 hb1;obtain rfl:=hv.qK zCy)
    go_quiet (fail)
    go_wp2
    go_ret2
    rw [Hf.o,Hv.o]
    exact ⟨_,rfl,.bare 2 zO zO,below_drewN hb1 _⟩
  ·have h3:0<=t:=by omega
   have h4:t<=1099511627776:=zO
   have Hf:=zM (jC l t=(0,-1)) (by unfold jC;rw [Hc.o];exact z6 h2)
   have Hv:=zM (jM l t=qP l t) (by unfold jM;rw [Hf.o];rfl)
   clear h2
   go_enter Tryz.func98,Tryz.ntmps98
   go_wp2_with (first |(go_at_call 81;refine (yw A c l S _ B hB h hS hl).mono ?_;rintro e w1 ⟨v,rfl,hv,hb1⟩;obtain rfl:=hv.qK zCy)|(go_at_call 123;refine (arV A c l t _ B (zAB hB hb1.size) (h.below (hb1.mono hB)) hl q1 q3 h3 h4).mono ?_;rintro e w2 ⟨rfl,hb2⟩))
   go_ret2
   rw [Hf.o,Hv.o]
   exact ⟨_,rfl,.nil,hb1.trans (hb2.mono hb1.size)⟩
 ·have h1':(qh l).1≠0:=h1
  have Hf:=zM (jC l t=qh l) (zp h1')
  have Hv:=zM (jM l t=0) (by unfold jM;rw [Hf.o];exact z6 h1')
  have H1:=zL h1'
  clear h1 h1'
  go_enter Tryz.func98,Tryz.ntmps98
  go_wp2_with (go_at_call 81;refine (yw A c l S _ B hB h hS hl).mono ?_;rintro e w1 ⟨v,rfl,hv,hb1⟩;obtain ⟨T,a,rfl⟩:=hv.qW H1.o)
  go_ret2
  rw [Hf.o,Hv.o]
  exact ⟨_,rfl,hv,hb1⟩
theorem anM (t:Int) (l:List Ln) (n:Int):ww t n l<=n/\∀x∈l,ww t n l<=lineAt x t:=by
 induction l generalizing n with
 |nil=>exact ⟨zAV _,by simp⟩
 |cons x r ih=>
  obtain ⟨h1,h2⟩:=ih (if lineAt x t<n then lineAt x t else n)
  have h3:(if lineAt x t<n then lineAt x t else n)<=n:=zCB
  have h4:(if lineAt x t<n then lineAt x t else n)<=lineAt x t:=zCB
  refine ⟨Int.le_trans h1 h3,λy hy=>?_⟩
  rcases zAM.1 hy with rfl|hy
  ·exact Int.le_trans h1 h4
  ·exact h2 y hy
theorem valFrom_mem (t:Int) (l:List Ln) (n:Int):ww t n l=n\/∃x∈l,ww t n l=lineAt x t:=by
 induction l generalizing n with
 |nil=>exact .inl rfl
 |cons x r ih=>
  rcases ih (if lineAt x t<n then lineAt x t else n) with h|⟨y,hy,h⟩
  ·by_cases hc:lineAt x t<n
   ·rw [zp hc] at h
    exact .inr ⟨x,zAD,by show ww t (if lineAt x t<n then lineAt x t else n) r=_;rw [zp hc];exact h⟩
   ·rw [z6 hc] at h
    exact .inl (by show ww t (if lineAt x t<n then lineAt x t else n) r=_;rw [z6 hc];exact h)
  ·exact .inr ⟨y,zAJ _ hy,h⟩
theorem vG {l:List Ln} {x:Ln} (hx:x∈l) (t:Int):qP l t<=lineAt x t:=by
 cases l with
 |nil=>cases hx
 |cons y r=>exact (anM t (y::r) _).2 x hx
theorem wZ {l:List Ln} (h0:0<l.length) (t:Int):∃x∈l,qP l t=lineAt x t:=by
 cases l with
 |nil=>simp at h0
 |cons y r=>
  rcases valFrom_mem t (y::r) (lineAt y t) with h|h
  ·exact ⟨y,zAD,h⟩
  ·exact h
theorem ao2 {x:Ln} (h:yL x) {t:Int} (ht:0<=t):1<=lineAt x t:=by
 unfold lineAt
 have h1:=zAY h.2.2.1 ht
 have:=h.1
 omega
theorem acS {l:List Ln} (h0:0<l.length) (hok:∀x∈l,yL x) {t:Int} (ht:0<=t):1<=qP l t:=by
 obtain ⟨x,hx,e⟩:=wZ h0 t
 rw [e]
 exact ao2 (hok x hx) ht
theorem agS {l:List Ln} (h0:0<l.length) (hok:∀x∈l,yL x) {t:Int} (ht:0<=t) (ht1:t<=1099511627776):qP l t<=109951162797600:=by
 obtain ⟨x,hx,e⟩:=wZ h0 t
 rw [e]
 have:=adS (hok x hx) ht ht1
 have:=(hok x hx).2.1
 unfold lineAt
 omega
theorem auS {l:List Ln} (h:∀x∈l,yL x) (k:Nat):yD l k=-1:=by
 induction l generalizing k with
 |nil=>rfl
 |cons x r ih=>
  have hx:ug x.b x.r=true:=zAI (h x zAD)
  unfold yD
  rw [zp hx]
  exact ih (λy hy=>h y (zAJ _ hy)) _
theorem aj3 {l:List Ln} (h1:1<=l.length) (h2:l.length<=6) (h:∀x∈l,yL x):qh l=(0,-1):=by
 unfold qh
 rw [z6 zO,zp (auS h 0)]
structure Bu where
 b:Int
 r:Int
 at_:Int
 has:Int
 last:Int
def Bu.cells (s:Bu):Array Value:=#[.int .i64 s.b,.int .i64 s.r,.int .i64 s.at_,.int .i64 s.has,.int .i64 s.last]
structure uM (s:Bu):Prop where
 b1:1<=s.b
 b2:s.b<=20000
 r1:0<=s.r
 r2:s.r<=100000
 h1:0<=s.has
 h2:s.has<=1000*s.b
 a1:0<=s.at_
 a2:s.at_<=s.last
 l2:s.last<=1099511627776
def holdsB (s:Bu) (t:Int):Int:=if 0<s.r/\(1000*s.b - s.has) / s.r<t - s.at_ then 1000*s.b else s.has+s.r*(t - s.at_)
def yN (s:Bu) (t n:Int):Nat:=if t<0\/1099511627776<t\/n<1\/1500<n then 2 else if t<s.last then 5 else 0
theorem kP {s:Bu} {t n:Int} (h:yN s t n=0):0<=t/\t<=1099511627776/\1<=n/\n<=1500/\s.last<=t:=by
 unfold yN at h
 split at h
 ·omega
 ·split at h
  ·omega
  ·omega
theorem aaI {s:Bu} (h:uM s) {t:Int} (ht:s.at_<=t) (hn:¬(0<s.r/\(1000*s.b - s.has) / s.r<t - s.at_)):0<=s.r*(t - s.at_)/\s.r*(t - s.at_)<=1000*s.b - s.has:=by
 refine ⟨zAY h.r1 zO,?_⟩
 have:=h.r1
 have:=h.h2
 by_cases h0:0<s.r
 ·have h1:t - s.at_<=(1000*s.b - s.has) / s.r:=by
   refine Int.not_lt.1 λh9=>hn ⟨h0,h9⟩
  have h2:=Int.mul_le_mul_of_nonneg_left h1 (Int.le_of_lt h0)
  have h3:=Int.mul_ediv_self_le (x:=1000*s.b - s.has) (k:=s.r) zO
  omega
 ·have:s.r=0:=by omega
  rw [this]
  omega
theorem jo {s:Bu} (h:uM s) {t:Int} (ht:s.at_<=t):s.has<=holdsB s t/\holdsB s t<=1000*s.b:=by
 unfold holdsB
 have:=h.h2
 split
 ·exact ⟨by omega,zAV _⟩
 ·rename_i hn
  have:=aaI h ht hn
  omega
theorem uY (g:Nat) (s:Bu) (t:Int) (w:World) (h:Blk w g 288 s.cells) (hs:uM s) (ht:s.at_<=t) (ht2:t<=1099511627776):
 Calls Tryz.prog 220 #[.pointer (some ⟨g,0,none⟩),.int .i64 t] w λe w'=>e=.returned (.int .i64 (holdsB s t))/\∃m,w'=w.drewN m:=by
 obtain ⟨b,r,a,hh,la⟩:=s
 have c0:w.cell? ⟨g,0,none⟩=some (.int .i64 b):=h.cell 0
 have c1:w.cell? ⟨g,1,none⟩=some (.int .i64 r):=h.cell 1
 have c2:w.cell? ⟨g,2,none⟩=some (.int .i64 a):=h.cell 2
 have c3:w.cell? ⟨g,3,none⟩=some (.int .i64 hh):=h.cell 3
 have hsl:=aaI hs ht
 obtain ⟨b1,b2,r1,r2,h1,h2,a1,a2,l2⟩:=hs
 simp only at b1 b2 r1 r2 h1 h2 a1 a2 l2 hsl ht
 clear h
 by_cases hr:0<r
 ·have q0:0<=(1000*b - hh) / r:=Int.ediv_nonneg zO zO
  have q1:(1000*b - hh) / r<=1000*b - hh:=Int.ediv_le_self _ zO
  by_cases hf:(1000*b - hh) / r<t - a
  ·have Hv:=zM (holdsB ⟨b,r,a,hh,la⟩ t=1000*b) (zp ⟨hr,hf⟩)
   clear hsl
   go_enter Tryz.func220,Tryz.ntmps220
   go_wp2_with fail
   go_quiet (fail)
   go_wp2_with fail
   go_ret
   exact ⟨yh Hv.o.symm,_,rfl⟩
  ·have Hv:=zM (holdsB ⟨b,r,a,hh,la⟩ t=hh+r*(t - a)) (z6 (λh9=>hf h9.2))
   obtain ⟨m1,m2⟩:=hsl (λh9=>hf h9.2)
   have hf2:t - a<=(1000*b - hh) / r:=zO
   clear hsl hf
   go_enter Tryz.func220,Tryz.ntmps220
   go_wp2_with fail
   go_quiet (fail)
   go_wp2_with fail
   go_quiet (fail)
   go_wp2_with fail
   go_ret
   exact ⟨yh Hv.o.symm,_,by first |rfl|exact World.drewN_drewN _ _ _⟩
 ·obtain rfl:r=0:=by omega
  have Hv:=zM (holdsB ⟨b,0,a,hh,la⟩ t=hh) ((z6 (λh9=>hr h9.1)).trans zA1)
  clear hsl hr
  go_enter Tryz.func220,Tryz.ntmps220
  go_wp2_with fail
  go_quiet (fail)
  go_wp2_with fail
  go_quiet (fail)
  go_wp2_with fail
  go_ret
  exact ⟨by rw [Hv.o];rfl,_,by first |rfl|exact World.drewN_drewN _ _ _⟩
theorem vX (g:Nat) (s:Bu) (t n:Int) (S:Nat->Addr) (w:World) (B:Nat) (hS:Snt w B S [2,5]) (h:Blk w g 288 s.cells):
 Calls Tryz.prog 219 #[.pointer (some ⟨g,0,none⟩),.int .i64 t,.int .i64 n] w λe w'=>∃v,e=.returned v/\Er w w.heap.size S v (yN s t n) (-1)/\w=w':=by
 have c4:w.cell? ⟨g,4,none⟩=some (.int .i64 s.last):=h.cell 4
 have g2:w.cell? ⟨G 2,0,none⟩=some (sv S 2):=(hS 2 zA1).2.2
 have g5:w.cell? ⟨G 5,0,none⟩=some (sv S 5):=(hS 5 zA1).2.2
 simp only [G,sv] at g2 g5
 by_cases hb:t<0\/1099511627776<t\/n<1\/1500<n
 ·have Hf:=zM (yN s t n=2) (zp hb)
  have hb2:t<0\/(0<=t/\1099511627776<t)\/(0<=t/\t<=1099511627776/\n<1)\/(0<=t/\t<=1099511627776/\1<=n/\1500<n):=zO
  clear hb
  rcases hb2 with h1|⟨h1,h2⟩|⟨h1,h2,h3⟩|⟨h1,h2,h3,h4⟩
  all_goals
   go_enter Tryz.func219,Tryz.ntmps219
   go_wp2_with fail
   go_ret
   rw [Hf.o]
   exact ⟨_,rfl,.bare 2 zO zO,rfl⟩
 ·have h1:0<=t:=by omega
  have h2:t<=1099511627776:=zO
  have h3:1<=n:=zO
  have h4:n<=1500:=zO
  by_cases hl:t<s.last
  ·have Hf:=zM (yN s t n=5) ((z6 hb).trans (zp hl))
   clear hb
   go_enter Tryz.func219,Tryz.ntmps219
   go_wp2_with fail
   go_ret
   rw [Hf.o]
   exact ⟨_,rfl,.bare 5 zO zO,rfl⟩
  ·have Hf:=zM (yN s t n=0) ((z6 hb).trans (z6 hl))
   have h5:s.last<=t:=zO
   clear hb hl
   go_enter Tryz.func219,Tryz.ntmps219
   go_wp2_with fail
   go_ret
   rw [Hf.o]
   exact ⟨_,rfl,.nil,rfl⟩
def je (x:Ln):Int:=if ug x.b x.r then 0 else 2
theorem abV (x:Ln) (w:World):
 Calls Tryz.prog 45 #[.agg #[.int .i64 x.b,.int .i64 x.r]] w λe w'=>e=.returned (.int .i64 (je x))/\Below w.heap.size w w':=by
 obtain ⟨b,r⟩:=x
 go_enter Tryz.func45,Tryz.ntmps45
 go_wp2
 all_goals (go_ret;exact ⟨yh (by unfold je ug;symm;first |exact zp (zAI zBd)|exact z6 (by rw [zAe];simp only;omega)),(zAA _ _).alloc (zD _) _⟩)
theorem aaP:(Tryz.prog.info? 75).map (λi=>(i.zero,i.size,i.bytes))=some (some (.agg #[.int .i64 0,.int .i64 0]),2,16):=zAx
def fv (k a:Int):Value:=.agg #[.int .i64 k,.int .i64 a]
theorem zn:(Tryz.prog.info? 55).map (·.size)=some 2:=zAx
theorem yg (k:Int) (w:World):Calls Tryz.prog 29 #[.int .i64 k] w λe w'=>e=.returned (fv k (-1))/\Below w.heap.size w w':=by
 go_enter Tryz.func29,Tryz.ntmps29
 go_wp2
 exact zAt (v:=fv k (-1)) (zAs (p:=2) rfl _ _ w.heap.size 55 #[.int .i64 k,.int .i64 (-1)] (0,0) _ rfl (heap_alloc_new _ _) Tryz.underlying55 rfl zn) rfl ⟨rfl,(zAA _ _).alloc (zD _) _⟩
theorem jq (w:World):Calls Tryz.prog 30 #[] w λe w'=>e=.returned (fv 0 (-1))/\Below w.heap.size w w':=by
 go_enter Tryz.func30,Tryz.ntmps30
 go_wp2
 exact zAt (v:=fv 0 (-1)) (zAs (p:=0) rfl _ _ w.heap.size 55 #[.int .i64 0,.int .i64 (-1)] (0,0) _ rfl (heap_alloc_new _ _) Tryz.underlying55 rfl zn) rfl ⟨rfl,(zAA _ _).alloc (zD _) _⟩
theorem kZ (A:Option Addr) (c:Nat) (l:List Ln) (w:World) (B:Nat) (hB:B<=w.heap.size) (h:RdL w B A l) (hl:l.length<=9223372036854775807):
 Calls Tryz.prog 27 #[.slice A l.length c] w λe w'=>e=.returned (fv (qh l).1 (qh l).2)/\Below w.heap.size w w':=by
 have ba:Below w.heap.size w (w.alloc (.cells #[.int .i64 0,.int .i64 0] 55)):=(zAA _ _).alloc (zD _) _
 by_cases h1:l.length<1\/6<l.length
 ·have Hf:=zM (qh l=(3,-1)) (zp h1)
  have h2:l.length<1\/(1<=l.length/\6<l.length):=zO
  clear h1
  rcases h2 with h1|⟨h1,h2⟩
  all_goals
   go_enter Tryz.func27,Tryz.ntmps27
   go_wp2_with fail
   refine (yg 3 _).mono ?_
   rintro e w1 ⟨rfl,k1⟩
   have b1:Blk w1 w.heap.size 55 #[.int .i64 0,.int .i64 0]:=akL k1
   have c0:=b1.cell 0
   have c1:=b1.cell 1
   have z0:=b1.frozen 0
   have z1:=b1.frozen 1
   simp only [zc,zE,zj] at c0 c1
   unfold fv
   go_wp2_with fail
   exact zAt (v:=fv 3 (-1)) (zAs (p:=2) rfl _ _ w.heap.size 55 #[.int .i64 3,.int .i64 (-1)] (0,0) _ rfl ((b1.qi 0 (.int .i64 3)).qi 1 (.int .i64 (-1))) Tryz.underlying55 rfl zn) rfl ⟨by rw [Hf.o];rfl,((ba.trans (k1.mono ba.size)).setCell (p:=⟨w.heap.size,0,none⟩) (zD _) _).setCell (p:=⟨w.heap.size,1,none⟩) (zD _) _⟩
 ·have h2:1<=l.length:=by omega
  have h3:l.length<=6:=zO
  have Hn:=zL h1
  clear h1
  go_enter Tryz.func27,Tryz.ntmps27
  go_wp2_with fail
  go_loopw [3] (λi wr=>∃k:Nat,k<=l.length/\i=.int .i64 k/\yD l 0=yD (l.drop k) k/\Below (w.heap.size+1) (w.alloc (.cells #[.int .i64 0,.int .i64 0] 55)) wr) (λi _=>l.length - (intOf i).toNat)
  case atStart=>exact ⟨0,zAK _,rfl,rfl,zAA _ _⟩
  case round=>
   obtain ⟨k,hk,rfl,hbad,hbw⟩:=hrel
   have hz:=hbw.size
   simp at hz
   have kb:Below w.heap.size w wr:=ba.trans (hbw.mono (Nat.le_succ _))
   have b0:Blk wr w.heap.size 55 #[.int .i64 0,.int .i64 0]:=(Blk.new _ _ _).below hbw (Nat.lt_succ_self _)
   have Hb0:=zL b0
   clear b0
   by_cases hlt:k<l.length
   ·obtain ⟨b,o,rfl,hb,d0,d1⟩:=RdL.get (h.below (kb.mono hB)) hlt
    rw [zAE hlt] at hbad
    have q1:(k:Int)<(l.length:Int):=zO
    cases hx:ug l[k].b l[k].r
    ·have Hbad:=zM (yD l 0=k) (by rw [hbad];simp [yD,hx])
     have He:=zM (je l[k]=2) (by unfold je;rw [hx];rfl)
     clear hbad hx
     go_wp2_with fail
     refine (abV l[k] _).mono ?_
     rintro e w1 ⟨rfl,k1⟩
     rw [He.o]
     have b1:=Hb0.o.below k1 zO
     have c0:=b1.cell 0
     have c1:=b1.cell 1
     have z0:=b1.frozen 0
     have z1:=b1.frozen 1
     simp only [zc,zE,zj] at c0 c1
     have Hb1:=zL b1
     clear b1
     go_wp2_with fail
     exact zAt (v:=fv 2 k) (zAs (p:=2) rfl _ _ w.heap.size 55 #[.int .i64 2,.int .i64 k] (0,0) _ rfl ((Hb1.o.qi 0 (.int .i64 2)).qi 1 (.int .i64 k)) Tryz.underlying55 rfl zn) rfl
            ⟨by rw [show qh l=(2,yD l 0) from (z6 Hn.o).trans (z6 (by rw [Hbad.o];omega)),Hbad.o];rfl,((kb.trans (k1.mono zO)).setCell (p:=⟨w.heap.size,0,none⟩) (zD _) _).setCell (p:=⟨w.heap.size,1,none⟩) (zD _) _⟩
    ·have Hbad:=zM (yD l 0=yD (l.drop (k+1)) (k+1)) (by rw [hbad];simp [yD,hx])
     have He:=zM (je l[k]=0) (by unfold je;rw [hx];rfl)
     clear hbad hx
     go_wp2_with fail
     refine (abV l[k] _).mono ?_
     rintro e w1 ⟨rfl,k1⟩
     rw [He.o]
     go_wp2_with fail
     go_roundw
     case rel=>exact ⟨k+1,hlt,by go_num,Hbad.o,hbw.trans (k1.mono zO)⟩
     case measure=>simp [intOf];omega
   ·have Hbad:=zM (yD l 0=-1) zC4
    clear hbad
    go_wp2_with fail
    refine (jq _).mono ?_
    rintro e w1 ⟨rfl,k1⟩
    have b1:=Hb0.o.below k1 zO
    have c0:=b1.cell 0
    have c1:=b1.cell 1
    have z0:=b1.frozen 0
    have z1:=b1.frozen 1
    simp only [zc,zE,zj] at c0 c1
    have Hb1:=zL b1
    clear b1
    unfold fv
    go_wp2_with fail
    exact zAt (v:=fv 0 (-1)) (zAs (p:=2) rfl _ _ w.heap.size 55 #[.int .i64 0,.int .i64 (-1)] (0,0) _ rfl ((Hb1.o.qi 0 (.int .i64 0)).qi 1 (.int .i64 (-1))) Tryz.underlying55 rfl zn) rfl
     ⟨by rw [show qh l=(0,-1) from (z6 Hn.o).trans (zp Hbad.o)];rfl,((kb.trans (k1.mono zO)).setCell (p:=⟨w.heap.size,0,none⟩) (zD _) _).setCell (p:=⟨w.heap.size,1,none⟩) (zD _) _⟩
theorem ax5 (A:Option Addr) (c:Nat) (l:List Ln) (t:Int) (w:World) (B:Nat) (hB:B<=w.heap.size) (h:RdL w B A l) (hl:l.length<=9223372036854775807) (h0:0<l.length) (hok:∀x∈l,yL x) (ht0:0<=t) (ht1:t<=1099511627776):
 Calls Tryz.prog 20 #[.slice A l.length c,.int .i64 t] w λe w'=>e=.returned (.int .i64 (qP l t))/\Below w.heap.size w w':=by
 go_enter Tryz.func20,Tryz.ntmps20
 go_wp2
 go_loopw [5,6] (λn i wr=>∃(k:Nat) (m:Int),k<=l.length/\i=.int .i64 k/\n=.int .i64 m/\(k=0\/qP l t=ww t m (l.drop k))/\Below w.heap.size w wr) (λ_ i _=>l.length - (intOf i).toNat)
 case atStart=>exact ⟨0,_,zAK _,rfl,rfl,.inl rfl,zAA _ _⟩
 case round=>
  obtain ⟨k,m,hk,rfl,rfl,hv,hbw⟩:=hrel
  by_cases hlt:k<l.length
  ·have hokk:=hok _ (zd hlt)
   obtain ⟨q1,q2⟩:=adS hokk ht0 ht1
   obtain ⟨r1,r2,r3,r4⟩:=hokk
   obtain ⟨b',o',rfl,hb',d0,d1⟩:=RdL.get (h.below (hbw.mono hB)) hlt
   have hd:l.drop k=l[k]::l.drop (k+1):=zAE hlt
   have q3:(k:Int)<(l.length:Int):=zO
   have q4:(0:Int)<=(k:Int):=zO
   by_cases hk0:k=0
   ·subst hk0
    have Hv:=zL (show qP l t=ww t (lineAt l[0] t) (l.drop 1) by
     cases l with
     |nil=>simp at h0
     |cons x r=>show ww t (if lineAt x t<lineAt x t then lineAt x t else lineAt x t) r=_;rw [z6 (Int.lt_irrefl _)];rfl)
    clear hv hd
    simp only [Nat.zero_mul,Nat.add_zero] at d0 d1
    go_wp2_with fail
    go_quiet (fail)
    go_wp2
    go_roundw
    case rel=>exact ⟨1,_,hlt,by go_num,rfl,.inr Hv.o,below_drewN hbw _⟩
    case measure=>simp [intOf];omega
   ·have hv':qP l t=ww t (if lineAt l[k] t<m then lineAt l[k] t else m) (l.drop (k+1)):=by
     rcases hv with hv|hv
     ·omega
     ·rw [hv,hd];rfl
    have hk1:((k:Int)==0)=false:=zBg
    clear hv hd
    by_cases hc:l[k].b+l[k].r*t / 1000<m
    ·have Hv:=zM (qP l t=ww t (l[k].b+l[k].r*t / 1000) (l.drop (k+1))) (by rw [hv'];unfold lineAt;rw [zp hc])
     clear hv'
     exact zEZ
    ·have Hv:=zM (qP l t=ww t m (l.drop (k+1))) (by rw [hv'];unfold lineAt;rw [z6 hc])
     have hc2:m<=l[k].b+l[k].r*t / 1000:=zO
     clear hv' hc
     exact zEZ
  ·have Hv:=zL (show qP l t=m by
    rcases hv with hv|hv
    ·omega
    ·rw [hv,zAO zO];rfl)
   clear hv
   go_wp2
   go_ret
   exact ⟨yh Hv.o.symm,hbw⟩
set_option maxHeartbeats 2000000 in
theorem vU (A:Option Addr) (c:Nat) (l:List Pk) (w:World) (B:Nat) (hB:B<=w.heap.size) (h:RdP w B A l) (hl:l.length<=9223372036854775807):
 Calls Tryz.prog 18 #[.slice A l.length c] w λe w'=>e=.returned (fv (qj l).1 (qj l).2)/\Below w.heap.size w w':=by
 have ba:Below w.heap.size w (w.alloc (.cells #[.int .i64 0,.int .i64 0] 55)):=(zAA _ _).alloc (zD _) _
 by_cases h1:300<l.length
 ·have Hf:=zM (qj l=(2,-1)) (zp h1)
  exact zDh
 ·have Hf:=zM (qj l=yO l 0 0) (z6 h1)
  have h2:l.length<=300:=zO
  clear h1
  go_enter Tryz.func18,Tryz.ntmps18
  go_wp2_with fail
  go_loopw [3] (λi wr=>∃(k:Nat) (m:Int),k<=l.length/\i=.int .i64 k/\qj l=yO (l.drop k) m k/\((k=0/\m=0)\/∃j,k=j+1/\∃hj:j<l.length,m=l[j].a)/\Below (w.heap.size+1) (w.alloc (.cells #[.int .i64 0,.int .i64 0] 55)) wr) (λi _=>l.length - (intOf i).toNat)
  case atStart=>exact ⟨0,0,zAK _,rfl,Hf.o,.inl ⟨rfl,rfl⟩,zAA _ _⟩
  case round=>
   obtain ⟨k,m,hk,rfl,hbad,hm,hbw⟩:=hrel
   have hz:=hbw.size
   simp at hz
   have kb:Below w.heap.size w wr:=ba.trans (hbw.mono (Nat.le_succ _))
   have b0:Blk wr w.heap.size 55 #[.int .i64 0,.int .i64 0]:=(Blk.new _ _ _).below hbw (Nat.lt_succ_self _)
   have y0:=b0.cell 0
   have y1:=b0.cell 1
   have z0:=b0.frozen 0
   have z1:=b0.frozen 1
   simp only [zc,zE,zj] at y0 y1
   have Hb0:=zL b0
   clear b0 Hf
   by_cases hlt:k<l.length
   ·obtain ⟨b,o,rfl,hb,d0,d1,d2⟩:=RdP.get (h.below (kb.mono hB)) hlt
    rw [zAE hlt] at hbad
    have q1:(k:Int)<(l.length:Int):=zO
    have q2:(0:Int)<=(k:Int):=zO
    have on:Blk (wr.alloc (.cells #[.int .i64 l[k].f,.int .i64 l[k].s,.int .i64 l[k].a] 53)) w.heap.size 55 #[.int .i64 0,.int .i64 0]:=Hb0.o.alloc _
    have x0:=on.cell 0
    have x1:=on.cell 1
    have f0:=on.frozen 0
    have f1:=on.frozen 1
    simp only [zc,zE,zj] at x0 x1
    have On:=zL on
    clear on
    have kc:Below w.heap.size w (wr.alloc (.cells #[.int .i64 l[k].f,.int .i64 l[k].s,.int .i64 l[k].a] 53)):=kb.alloc zO _
    by_cases hx:zg l[k]
    ·have Hx:=zL hx
     obtain ⟨p1,p2,p3,p4,p5,p6⟩:=hx
     rcases hm with ⟨rfl,rfl⟩|⟨j,rfl,hj,rfl⟩
     ·have Hb:=zM (qj l=yO (l.drop 1) l[0].a 1) (by rw [hbad];exact (zp Hx.o).trans (z6 zO))
      exact zD7
     ·obtain ⟨b',o',he,hb',e0,e1,e2⟩:=RdP.get (h.below (kb.mono hB)) hj
      simp only [zAC,zAS,and_true] at he
      obtain ⟨rfl,rfl⟩:=he
      have e2':(wr.alloc (.cells #[.int .i64 l[j+1].f,.int .i64 l[j+1].s,.int .i64 l[j+1].a] 53)).cell? ⟨b,o+j*3+2,none⟩=some (.int .i64 l[j].a):=(((zAA wr.heap.size wr).alloc (zD _) _).cell (p:=⟨b,o+j*3+2,none⟩) zBd).trans e2
      exact zDU
    ·exact zDa
   ·exact zDe
end Go.Proofs.YtoomffajodheaaaGreatDoor
