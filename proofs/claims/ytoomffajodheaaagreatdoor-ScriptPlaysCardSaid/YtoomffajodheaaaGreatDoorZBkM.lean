/- The proof of ScriptPlays, part BkM. Conditions: in each statement. -/
import Derived.Test.YtoomffajodheaaaGreatDoorZCvM
import Derived.Deep.RegionHeld3
import Derived.Test.YtoomffajodheaaaGreatDoorZMiscM
set_option linter.all false
namespace Go.Proofs.YtoomffajodheaaaGreatDoor
open Go.RowKit
set_option maxRecDepth 100000
theorem zBe{p:Prop}(h:p:=by rw [Hk.o];simp):p:=h
theorem zBn{p:Prop}(h:p:=by rw [<-Hhv.o];exact hl):p:=h
theorem zBp{p:Prop}(h:p:=by rw [<-Int.mul_add];congr 1;omega):p:=h
theorem zCZ{p:Prop}(h:p:=by unfold yK;rw [z6 (by rw [Hk.o];simp),z6 (by rw [<-Hhv.o];exact hc),<-Hhv.o]):p:=h
theorem zCk{p:Prop}(h:p:=by unfold yK;rw [z6 (by rw [Hk.o];simp),zp (by rw [<-Hhv.o];exact hc)]):p:=h
theorem zCl{p:Prop}(h:p:=by rw [<-Hhv.o];exact hc):p:=h
theorem zDN{p:Prop}(h:p:=by
 have hfst:(bs.set k (bs[k].1,s')).map (·.1)=bs.map (·.1):=by
  rw [List.map_set]
  apply List.ext_getElem?
  intro j
  rw [List.getElem?_set]
  split
  ·rename_i h9;subst h9;simp [hk]
  ·rfl
 have hflat:(bs.set k (bs[k].1,s')).flatMap pC=bs.flatMap pC:=by
  have:∀l:List (Nat × Bu),l.flatMap pC=(l.map (·.1)).map λg=>Value.pointer (some ⟨g,0,none⟩):=λl=>by
   induction l with
   |nil=>rfl
   |cons x r ih=>rw [List.flatMap_cons,ih];rfl
  rw [this,this,hfst]
 refine ⟨?_,λx hx=>?_,by rw [hfst];exact h.nd,λx hx=>?_,λx hx=>?_⟩
 ·rw [hflat,List.length_set]
  have hne:=h.far _ (zd hk)
  obtain ⟨h1,h2⟩:=h.row
  refine ⟨h1,?_⟩
  rcases h2 with h2|⟨g',cap,cur,hv,hg',hh,r⟩
  ·exact .inl h2
  ·exact .inr ⟨g',cap,cur,hv,hg',(ho.blk g' (λe=>hne (by rw [hv,e];rfl))).trans hh,r⟩
 ·obtain ⟨j,hj,e⟩:=List.getElem_of_mem hx
  rw [List.length_set] at hj
  rw [List.getElem_set] at e
  split at e
  ·subst e;exact hb
  ·rename_i hjk
   subst e
   have hne:bs[j].1≠bs[k].1:=λe=>by
    have h9:=List.pairwise_iff_getElem.1 h.nd
    rcases Nat.lt_or_gt_of_ne hjk with h8|h8
    ·exact h9 k j (by simpa using hk) (by simpa using hj) h8 (by simpa using e.symm)
    ·exact h9 j k (by simpa using hj) (by simpa using hk) h8 (by simpa using e)
   exact (h.bk _ (zd hj)).same (ho.blk _ hne)
 ·have:x.1∈bs.map (·.1):=by rw [<-hfst];exact zAT.2 ⟨x,hx,rfl⟩
  obtain ⟨y,hy,e⟩:=zAT.1 this
  have:=h.ge y hy
  omega
 ·rw [List.length_set]
  have:x.1∈bs.map (·.1):=by rw [<-hfst];exact zAT.2 ⟨x,hx,rfl⟩
  obtain ⟨y,hy,e⟩:=zAT.1 this
  have:=h.far y hy
  rw [e] at this
  exact this):p:=h
theorem zDp{p:Prop}(h:p:=by
 go_enter Tryz.func204,Tryz.ntmps204
 go_wp2_with fail
 refine (vX g s t n S w B hS2 H.o).mono ?_
 rintro e w1 ⟨v,rfl,hv1,rfl⟩
 obtain rfl:=hv1.qK Hk.o
 go_wp2_with fail
 refine (uY g s t _ H.o hs zO q2).mono ?_
 rintro e w2 ⟨rfl,m,rfl⟩
 rw [<-Hhv.o]
 go_wp2_with fail
 go_quiet (fail)
 go_wp2_with fail
 go_ret2
 rw [Hw.o]
 exact ⟨_,rfl,.bare 4 zO zO,_,by first |rfl|exact World.drewN_drewN _ _ _⟩):p:=h
theorem zDu{p:Prop}(h:p:=by
 have Hw:=zL hw
 have Hx:=zL hx
 have Hbk:=zL hbk
 clear hlv hw hx hbk
 go_wp2_with fail
 refine (agR bs[k].1 bs[k].2 from_ n S (w.drewN m) B (zAB hB hge) hS Hbk.o Hx.o).mono ?_
 rintro e w1 ⟨v,rfl,hv,m1,rfl⟩
 obtain rfl:=hv.qK Hw.o
 go_wp2_with fail
 go_roundw
 case rel=>exact ⟨k+1,_,_,hlt,by go_num,rfl,Hlv.o,by first |rfl|exact World.drewN_drewN _ _ _⟩
 case measure=>simp [intOf];omega):p:=h
def takeB (s:Bu) (t n:Int):Bool:=decide (yN s t n=0/\1000*n<=holdsB s t)
def yK (s:Bu) (t n:Int):Bu:=if yN s t n≠0 then s else if holdsB s t<1000*n then {s with last:=t} else ⟨s.b,s.r,t,holdsB s t - 1000*n,t⟩
theorem alD {s:Bu} (h:uM s) (t n:Int):uM (yK s t n):=by
 unfold yK
 by_cases h1:yN s t n≠0
 ·rw [zp h1];exact h
 ·rw [z6 h1]
  obtain ⟨q1,q2,q3,q4,q5⟩:=kP (by omega:yN s t n=0)
  have q6:=h.a2
  by_cases h2:holdsB s t<1000*n
  ·rw [zp h2];exact ⟨h.b1,h.b2,h.r1,h.r2,h.h1,h.h2,h.a1,by simp only;omega,q2⟩
  ·rw [z6 h2]
   have:=jo h (show s.at_<=t by omega)
   exact ⟨h.b1,h.b2,h.r1,h.r2,by simp only;omega,by simp only;omega,q1,zAV _,q2⟩
theorem arX (s:Bu) (t n:Int):(yK s t n).b=s.b/\(yK s t n).r=s.r:=by
 unfold yK
 split
 ·exact ⟨rfl,rfl⟩
 ·split
  ·exact ⟨rfl,rfl⟩
  ·exact ⟨rfl,rfl⟩
set_option maxHeartbeats 400000 in
theorem au9 (g:Nat) (s:Bu) (t n:Int) (S:Nat->Addr) (w:World) (B:Nat) (hB:B<=g) (hS:Snt w B S [2,5]) (h:Blk w g 288 s.cells) (hs:uM s):
 Calls Tryz.prog 205 #[.pointer (some ⟨g,0,none⟩),.int .i64 t,.int .i64 n] w λe w'=>∃v,e=.returned (.tuple #[.bool (takeB s t n),v])/\Er w' w'.heap.size S v (yN s t n) (-1)/\Blk w' g 288 (yK s t n).cells/\qU g w w':=by
 by_cases hk:yN s t n=0
 ·obtain ⟨q1,q2,q3,q4,q5⟩:=kP hk
  have q6:=hs.a2
  have q7:=hs.b2
  obtain ⟨q8,q9⟩:=jo hs (show s.at_<=t by omega)
  have q10:=hs.h1
  obtain ⟨hv,hhv⟩:∃hv,hv=holdsB s t:=⟨_,rfl⟩
  have Hk:=zL hk
  have Hhv:=zL hhv
  rw [<-hhv] at q8 q9
  have c4:w.cell? ⟨g,4,none⟩=some (.int .i64 s.last):=h.cell 4
  have f4:=h.frozen 4
  have H:=zL h
  have b1:Blk (w.setCell ⟨g,4,none⟩ (.int .i64 t)) g 288 (Bu.cells ⟨s.b,s.r,s.at_,s.has,t⟩):=h.qi 4 _
  have B1:=zL b1
  have hs1:uM ⟨s.b,s.r,s.at_,s.has,t⟩:=⟨hs.b1,hs.b2,hs.r1,hs.r2,hs.h1,hs.h2,hs.a1,by simp only;omega,q2⟩
  have Hh1:=zM (holdsB ⟨s.b,s.r,s.at_,s.has,t⟩ t=hv) (by rw [hhv];rfl)
  have on1:=(qU.refl g w).qi 4 (.int .i64 t)
  clear hk hhv h b1
  by_cases hc:hv<1000*n
  ·have Ht:=zM (takeB s t n=false) (zAH (λh9=>by rw [<-Hhv.o] at h9;omega))
   have Hs:=zM (yK s t n=⟨s.b,s.r,s.at_,s.has,t⟩) zCk
   go_enter Tryz.func205,Tryz.ntmps205
   go_wp2_with fail
   refine (vX g s t n S w B hS H.o).mono ?_
   rintro e w1 ⟨v,rfl,hv1,rfl⟩
   obtain rfl:=hv1.qK Hk.o
   go_wp2_with fail
   refine (uY g ⟨s.b,s.r,s.at_,s.has,t⟩ t _ B1.o hs1 zBc q2).mono ?_
   rintro e w2 ⟨rfl,m,rfl⟩
   rw [Hh1.o]
   go_wp2_with fail
   go_ret2
   rw [Ht.o,Hk.o,Hs.o]
   exact ⟨_,rfl,.nil,B1.o,on1.drewN m⟩
  ·have hc2:1000*n<=hv:=by omega
   have Ht:=zM (takeB s t n=true) (zAI ⟨Hk.o,by rw [<-Hhv.o];exact hc2⟩)
   have Hs:=zM (yK s t n=⟨s.b,s.r,t,hv - 1000*n,t⟩) zCZ
   clear hc
   have x2:(w.setCell ⟨g,4,none⟩ (.int .i64 t)).cell? ⟨g,2,none⟩=some (.int .i64 s.at_):=B1.o.cell 2
   have x3:(w.setCell ⟨g,4,none⟩ (.int .i64 t)).cell? ⟨g,3,none⟩=some (.int .i64 s.has):=B1.o.cell 3
   have y2:=B1.o.frozen 2
   have y3:=B1.o.frozen 3
   go_enter Tryz.func205,Tryz.ntmps205
   go_wp2_with fail
   refine (vX g s t n S w B hS H.o).mono ?_
   rintro e w1 ⟨v,rfl,hv1,rfl⟩
   obtain rfl:=hv1.qK Hk.o
   go_wp2_with fail
   refine (uY g ⟨s.b,s.r,s.at_,s.has,t⟩ t _ B1.o hs1 zBc q2).mono ?_
   rintro e w2 ⟨rfl,m,rfl⟩
   rw [Hh1.o]
   go_wp2_with fail
   go_ret2
   rw [Ht.o,Hk.o,Hs.o]
   exact ⟨_,rfl,.nil,((B1.o.drewN m).qi 2 (.int .i64 t)).qi 3 (.int .i64 (hv - 1000*n)),((on1.drewN m).qi 2 (.int .i64 t)).qi 3 (.int .i64 (hv - 1000*n))⟩
 ·have Hk:=zL hk
  have Ht:=zM (takeB s t n=false) (zAH (λh9=>hk h9.1))
  have Hs:=zM (yK s t n=s) (zp hk)
  clear hk
  go_enter Tryz.func205,Tryz.ntmps205
  go_wp2_with fail
  refine (vX g s t n S w B hS h).mono ?_
  rintro e w1 ⟨v,rfl,hv1,rfl⟩
  obtain ⟨T,a,rfl⟩:=hv1.qW Hk.o
  go_wp2_with fail
  go_ret2
  rw [Ht.o,Hs.o]
  exact ⟨_,rfl,hv1,h,qU.refl _ _⟩
def zi (s:Bu) (t n:Int):Nat × Int:=if yN s t n≠0 then (yN s t n,0) else if s.b<n then (4,0) else if 1000*n - holdsB s t<=0 then (0,t) else if s.r=0 then (4,0) else
 if 1099511627776<t+(1000*n - holdsB s t+s.r - 1) / s.r then (4,0) else (0,t+(1000*n - holdsB s t+s.r - 1) / s.r)
set_option maxHeartbeats 1000000 in
theorem agR (g:Nat) (s:Bu) (t n:Int) (S:Nat->Addr) (w:World) (B:Nat) (hB:B<=g) (hS:Snt w B S [2,4,5]) (h:Blk w g 288 s.cells) (hs:uM s):
 Calls Tryz.prog 204 #[.pointer (some ⟨g,0,none⟩),.int .i64 t,.int .i64 n] w λe w'=>∃v,e=.returned (.tuple #[.int .i64 (zi s t n).2,v])/\Er w' w'.heap.size S v (zi s t n).1 (-1)/\∃m,w'=w.drewN m:=by
 have g4:w.cell? ⟨G 4,0,none⟩=some (sv S 4):=(hS 4 zA1).2.2
 simp only [G,sv] at g4
 have hS2:Snt w B S [2,5]:=hS.sub zA1
 by_cases hk:yN s t n=0
 ·obtain ⟨q1,q2,q3,q4,q5⟩:=kP hk
  have q6:=hs.a2
  have q7:=hs.b2
  have q71:=hs.b1
  obtain ⟨q8,q9⟩:=jo hs (show s.at_<=t by omega)
  have q10:=hs.h1
  have r1:=hs.r1
  have r2:=hs.r2
  obtain ⟨hv,hhv⟩:∃hv,hv=holdsB s t:=⟨_,rfl⟩
  have Hk:=zL hk
  have Hhv:=zL hhv
  rw [<-hhv] at q8 q9
  have c0:w.cell? ⟨g,0,none⟩=some (.int .i64 s.b):=h.cell 0
  have c1:w.cell? ⟨g,1,none⟩=some (.int .i64 s.r):=h.cell 1
  have H:=zL h
  clear hk hhv h
  by_cases hb:s.b<n
  ·have Hw:=zM (zi s t n=(4,0)) (by unfold zi;rw [z6 zBe,zp hb])
   exact zDp
  ·have hb2:n<=s.b:=by omega
   by_cases hl:1000*n - hv<=0
   ·have Hw:=zM (zi s t n=(0,t)) (by unfold zi;rw [z6 zBe,z6 hb,zp zBn])
    clear hb
    go_enter Tryz.func204,Tryz.ntmps204
    go_wp2_with fail
    refine (vX g s t n S w B hS2 H.o).mono ?_
    rintro e w1 ⟨v,rfl,hv1,rfl⟩
    obtain rfl:=hv1.qK Hk.o
    go_wp2_with fail
    refine (uY g s t _ H.o hs zO q2).mono ?_
    rintro e w2 ⟨rfl,m,rfl⟩
    rw [<-Hhv.o]
    go_wp2_with fail
    go_ret2
    rw [Hw.o]
    exact ⟨_,rfl,.nil,_,rfl⟩
   ·have hl2:0<1000*n - hv:=by omega
    by_cases hr:s.r=0
    ·have Hw:=zM (zi s t n=(4,0)) (by unfold zi;rw [z6 zBe,z6 hb,z6 zBn,zp hr])
     rw [hr] at c1
     clear hb hl hr
     exact zDp
    ·have hr2:0<s.r:=by omega
     have hr3:(s.r==0)=false:=beq_eq_false_iff_ne.2 hr
     have d0:0<=(1000*n - hv+s.r - 1) / s.r:=Int.ediv_nonneg zO zO
     have d1:(1000*n - hv+s.r - 1) / s.r<=1000*n - hv+s.r - 1:=Int.ediv_le_self _ zO
     by_cases ht:1099511627776<t+(1000*n - hv+s.r - 1) / s.r
     ·have Hw:=zM (zi s t n=(4,0)) (by unfold zi;rw [z6 zBe,z6 hb,z6 zBn,z6 hr,zp (by rw [<-Hhv.o];exact ht)])
      clear hb hl hr
      go_enter Tryz.func204,Tryz.ntmps204
      go_wp2_with fail
      refine (vX g s t n S w B hS2 H.o).mono ?_
      rintro e w1 ⟨v,rfl,hv1,rfl⟩
      obtain rfl:=hv1.qK Hk.o
      go_wp2_with fail
      refine (uY g s t _ H.o hs zO q2).mono ?_
      rintro e w2 ⟨rfl,m,rfl⟩
      rw [<-Hhv.o]
      go_wp2_with fail
      go_quiet (fail)
      go_wp2_with fail
      go_quiet (fail)
      go_wp2_with fail
      go_ret2
      rw [Hw.o]
      exact ⟨_,rfl,.bare 4 zO zO,_,by first |rfl|exact World.drewN_drewN _ _ _⟩
     ·have ht2:t+(1000*n - hv+s.r - 1) / s.r<=1099511627776:=by omega
      have Hw:=zM (zi s t n=(0,t+(1000*n - hv+s.r - 1) / s.r)) (by unfold zi;rw [z6 zBe,z6 hb,z6 zBn,z6 hr,z6 (by rw [<-Hhv.o];exact ht),<-Hhv.o])
      clear hb hl hr ht
      go_enter Tryz.func204,Tryz.ntmps204
      go_wp2_with fail
      refine (vX g s t n S w B hS2 H.o).mono ?_
      rintro e w1 ⟨v,rfl,hv1,rfl⟩
      obtain rfl:=hv1.qK Hk.o
      go_wp2_with fail
      refine (uY g s t _ H.o hs zO q2).mono ?_
      rintro e w2 ⟨rfl,m,rfl⟩
      rw [<-Hhv.o]
      go_wp2_with fail
      go_quiet (fail)
      go_wp2_with fail
      go_ret2
      rw [Hw.o]
      exact ⟨_,rfl,.nil,_,by first |rfl|exact World.drewN_drewN _ _ _⟩
 ·have Hk:=zL hk
  have Hw:=zM (zi s t n=(yN s t n,0)) (zp hk)
  clear hk
  go_enter Tryz.func204,Tryz.ntmps204
  go_wp2_with fail
  refine (vX g s t n S w B hS2 h).mono ?_
  rintro e w1 ⟨v,rfl,hv1,rfl⟩
  obtain ⟨T,a,rfl⟩:=hv1.qW Hk.o
  go_wp2_with fail
  go_ret2
  rw [Hw.o]
  exact ⟨_,rfl,hv1,0,rfl⟩
def newB (x:Ln):Bu:=⟨x.b,x.r,0,1000*x.b,0⟩
theorem akM {x:Ln} (h:yL x):uM (newB x):=by
 obtain ⟨h1,h2,h3,h4⟩:=h
 exact ⟨h1,h2,h3,h4,by simp only [newB];omega,zAV _,zAV _,zAV _,by simp only [newB];omega⟩
theorem a1B (x:Ln) (S:Nat->Addr) (w:World) (B:Nat) (hB:B<=w.heap.size) (hS:Snt w B S [2,3]) (hx:yL x):
 Calls Tryz.prog 180 #[.agg #[.int .i64 x.b,.int .i64 x.r]] w λe w'=>∃g,e=.returned (.tuple #[.pointer (some ⟨g,0,none⟩),.nilIface])/\Blk w' g 288 (newB x).cells/\w.heap.size<=g/\Below w.heap.size w w':=by
 obtain ⟨b,r⟩:=x
 have Hc:=zM (qh [⟨b,r⟩]=(0,-1)) (aj3 zA1 zA1 (λy hy=>by rw [zAW.1 hy];exact hx))
 obtain ⟨h1,h2,h3,h4⟩:=hx
 simp only at h1 h2 h3 h4
 have ba:Below w.heap.size w (w.alloc (.cells #[.int .i64 b,.int .i64 r] 75)):=(zAA _ _).alloc (zD _) _
 go_enter Tryz.func180,Tryz.ntmps180
 go_wp2_with fail
 refine (yw (some ⟨w.heap.size+1,0,none⟩) 1 [⟨b,r⟩] S _ (w.heap.size+2) zA1 (Rd.of_block (qN _ _ _) rfl (Nat.lt_succ_self _) zO Ln.qw) ((hS.below ((ba.alloc zA1 _).mono hB)).more zO) zA1).mono ?_
 rintro e w1 ⟨v,rfl,hv,k1⟩
 obtain rfl:=hv.qK zCy
 have k2:Below (w.heap.size+1) (w.alloc (.cells #[.int .i64 b,.int .i64 r] 75)) w1:=(((zAA _ _).alloc zA1 _)).trans (k1.mono zA1)
 have k3:=ba.trans (k2.mono (Nat.le_succ _))
 have b1:Blk w1 w.heap.size 75 #[.int .i64 b,.int .i64 r]:=(Blk.new _ _ _).below k2 (Nat.lt_succ_self _)
 have x0:w1.cell? ⟨w.heap.size,0,none⟩=some (.int .i64 b):=b1.cell 0
 have x1:w1.cell? ⟨w.heap.size,1,none⟩=some (.int .i64 r):=b1.cell 1
 clear b1
 go_wp2_with fail
 go_ret2
 exact ⟨w1.heap.size,rfl,Blk.new _ _ _,k3.size,k3.alloc k3.size _⟩
theorem uX {s:Bu} (h:uM s) {t:Int} (ht:s.at_<=t):holdsB s t=if 1000*s.b<s.has+s.r*(t - s.at_) then 1000*s.b else s.has+s.r*(t - s.at_):=by
 unfold holdsB
 by_cases hf:0<s.r/\(1000*s.b - s.has) / s.r<t - s.at_
 ·rw [zp hf]
  have h1:(1000*s.b - s.has) / s.r+1<=t - s.at_:=hf.2
  have h2:=Int.mul_le_mul_of_nonneg_left h1 (Int.le_of_lt hf.1)
  have h3:=Int.lt_mul_ediv_self_add (x:=1000*s.b - s.has) hf.1
  rw [Int.mul_add,Int.mul_one] at h2
  rw [zp zO]
 ·rw [z6 hf]
  have:=aaI h ht hf
  rw [z6 zO]
theorem ap4 {s:Bu} (h:uM s) {t n T:Int} (hw:zi s t n=(0,T)):
 yN s t n=0/\t<=T/\T<=1099511627776/\1000*n<=holdsB s T/\(t<T->holdsB s (T - 1)<1000*n):=by
 unfold zi at hw
 by_cases hk:yN s t n≠0
 ·rw [zp hk] at hw
  exact zAv (zAu Prod.fst hw) hk
 ·rw [z6 hk] at hw
  have hk0:yN s t n=0:=zO
  obtain ⟨q1,q2,q3,q4,q5⟩:=kP hk0
  have q6:=h.a2
  by_cases hb:s.b<n
  ·rw [zp hb] at hw;simp at hw
  ·rw [z6 hb] at hw
   by_cases hl:1000*n - holdsB s t<=0
   ·rw [zp hl] at hw
    obtain rfl:t=T:=zAu Prod.snd hw
    exact ⟨hk0,zAV _,q2,by omega,λh9=>zAv h9 (Int.lt_irrefl _)⟩
   ·rw [z6 hl] at hw
    by_cases hr:s.r=0
    ·rw [zp hr] at hw;simp at hw
    ·rw [z6 hr] at hw
     have r1:=h.r1
     have hr2:0<s.r:=zO
     by_cases hT:1099511627776<t+(1000*n - holdsB s t+s.r - 1) / s.r
     ·rw [zp hT] at hw;simp at hw
     ·rw [z6 hT] at hw
      obtain rfl:t+(1000*n - holdsB s t+s.r - 1) / s.r=T:=zAu Prod.snd hw
      have e1:=uX h (show s.at_<=t by omega)
      have e2:holdsB s t=s.has+s.r*(t - s.at_):=by
       rw [e1]
       split
       ·rename_i h9
        rw [zp h9] at e1
        omega
       ·rfl
      obtain ⟨q,hq⟩:∃q,q=(1000*n - holdsB s t+s.r - 1) / s.r:=⟨_,rfl⟩
      have h3:=Int.mul_ediv_self_le (x:=1000*n - holdsB s t+s.r - 1) (k:=s.r) zO
      have h4:=Int.lt_mul_ediv_self_add (x:=1000*n - holdsB s t+s.r - 1) hr2
      rw [<-hq] at h3 h4 hT ⊢
      have hq0:0<=q:=by rw [hq];exact Int.ediv_nonneg zO zO
      have m1:s.r*(t+q - s.at_)=s.r*(t - s.at_)+s.r*q:=zBp
      have m2:s.r*(t+q - 1 - s.at_)=s.r*(t - s.at_)+s.r*q - s.r:=by
       have:s.r*(t+q - 1 - s.at_)=s.r*(t - s.at_)+s.r*(q - 1):=zBp
       have h9:s.r*(q - 1)=s.r*q - s.r:=by rw [Int.mul_sub,Int.mul_one]
       rw [this,h9];omega
      refine ⟨hk0,by omega,by omega,?_,λh9=>?_⟩
      ·rw [uX h zO,m1]
       split<;>omega
      ·rw [uX h zO,m2]
       split<;>omega
theorem pktErr_sorted' {l:List Pk} (h:(qj l).1=0):l.Pairwise (λx y=>x.a<=y.a):=by
 have key:∀(l:List Pk) (m:Int) (k:Nat),(yO l m k).1=0->(∀x∈l,m<=x.a)/\l.Pairwise (λx y=>x.a<=y.a):=λl=>by
  induction l with
  |nil=>exact λ_ _ _=>⟨by simp,List.Pairwise.nil⟩
  |cons x r ih=>
   intro m k h
   unfold yO at h
   split at h
   ·split at h
    ·simp at h
    ·rename_i h2
     obtain ⟨i1,i2⟩:=ih _ _ h
     refine ⟨λy hy=>?_,zAd.2 ⟨i1,i2⟩⟩
     rcases zAM.1 hy with rfl|hy
     ·omega
     ·have:=i1 y hy;omega
   ·simp at h
 unfold qj at h
 by_cases h1:300<l.length
 ·rw [zp h1] at h;simp at h
 ·rw [z6 h1] at h;exact (key _ _ _ h).2
structure a3F (line:Ln) (p:List Pk) (k:Nat) (s:Bu) (m:Int):Prop where
 ok:uM s
 b:s.b=line.b
 r:s.r=line.r
 last:s.last=m
 le:∀j,k<=j->(h:j<p.length)->m<=p[j].a
 m0:0<=m
 m1:m<=1099511627776
def vB (l:List Ln) (ai:Int):Int->List Pk->Bool
 |_,[]=>true
 |n,x::r=>if qP l (x.a - ai)<n+x.s then false else vB l ai (n+x.s) r
def vF (l:List Ln):List Pk->Bool
 |[]=>true
 |x::r=>if vB l x.a 0 (x::r) then vF l r else false
def aaO:List Pk->Int
 |[]=>0
 |x::r=>x.s+aaO r
def abJ (l:Ln) (t n:Int):List Pk->Prop
 |[]=>True
 |x::r=>aaO (x::r)+n<=lineAt l (t - x.a)/\abJ l t n r
theorem aa3 (l:Ln) (t:Int):qP [l] t=lineAt l t:=by
 show ww t (lineAt l t) [l]=_
 simp [ww]
theorem apI (ls:List Ln) (ai:Int) (n:Int) (q:List Pk) (x:Pk):vB ls ai n (q++[x])=(vB ls ai n q&&decide (n+aaO q+x.s<=qP ls (x.a - ai))):=by
 induction q generalizing n with
 |nil=>
  show (if qP ls (x.a - ai)<n+x.s then false else true)=_
  unfold vB aaO
  by_cases h:qP ls (x.a - ai)<n+x.s
  ·rw [zp h,zAH zO];rfl
  ·rw [z6 h,zAI zO];rfl
 |cons y r ih=>
  rw [List.cons_append]
  unfold vB
  by_cases h:qP ls (y.a - ai)<n+y.s
  ·rw [zp h,zp h];rfl
  ·rw [z6 h,z6 h,ih]
   have e:n+y.s+aaO r+x.s=n+aaO (y::r)+x.s:=by show _=n+(y.s+aaO r)+x.s;omega
   rw [e]
theorem ae9 (l:Ln) (q:List Pk) (x:Pk):vF [l] (q++[x])=true ↔ vF [l] q=true/\abJ l x.a x.s q/\x.s<=l.b:=by
 induction q with
 |nil=>
  show (if vB [l] x.a 0 [x] then vF [l] [] else false)=true ↔ _
  have e:vB [l] x.a 0 [x]=decide (x.s<=l.b):=by
   show (if qP [l] (x.a - x.a)<0+x.s then false else true)=_
   rw [aa3]
   unfold lineAt
   rw [Int.sub_self,Int.mul_zero,Int.zero_ediv]
   by_cases h:x.s<=l.b
   ·rw [z6 zO,zAI h]
   ·rw [zp zO,zAH h]
  rw [e]
  by_cases h:x.s<=l.b
  ·rw [zAI h];simp [vF,abJ,h]
  ·rw [zAH h];simp [h]
 |cons y r ih=>
  have e:=apI [l] y.a 0 (y::r) x
  rw [List.cons_append] at e ⊢
  show (if vB [l] y.a 0 (y::(r++[x])) then vF [l] (r++[x]) else false)=true ↔ (if vB [l] y.a 0 (y::r) then vF [l] r else false)=true/\(aaO (y::r)+x.s<=lineAt l (x.a - y.a)/\abJ l x.a x.s r)/\x.s<=l.b
  rw [e,aa3]
  by_cases h1:vB [l] y.a 0 (y::r)=true
  ·rw [h1,Bool.true_and]
   by_cases h2:0+aaO (y::r)+x.s<=lineAt l (x.a - y.a)
   ·rw [zAI h2,zp rfl,zp rfl,ih]
    have:aaO (y::r)+x.s<=lineAt l (x.a - y.a):=zO
    simp only [this,true_and]
   ·rw [zAH h2]
    have:¬aaO (y::r)+x.s<=lineAt l (x.a - y.a):=zO
    simp [this]
  ·simp [h1]
theorem arN (l:Ln) (t n:Int) (q:List Pk) (x:Pk):abJ l t n (q++[x]) ↔ abJ l t (x.s+n) q/\x.s+n<=lineAt l (t - x.a):=by
 induction q with
 |nil=>
  show (x.s+0+n<=_/\True) ↔ True/\_
  rw [show x.s+0+n=x.s+n by omega]
  simp
 |cons y r ih=>
  have e:aaO (y::(r++[x]))+n=aaO (y::r)+(x.s+n):=by
   have:∀r:List Pk,aaO (r++[x])=aaO r+x.s:=λr=>by
    induction r with
    |nil=>show x.s+0=0+x.s;omega
    |cons z r ih=>show z.s+aaO (r++[x])=z.s+aaO r+x.s;rw [ih];omega
   show y.s+aaO (r++[x])+n=y.s+aaO r+(x.s+n)
   rw [this];omega
  show (aaO (y::(r++[x]))+n<=lineAt l (t - y.a)/\abJ l t n (r++[x])) ↔ (aaO (y::r)+(x.s+n)<=lineAt l (t - y.a)/\abJ l t (x.s+n) r)/\_
  rw [e,ih,and_assoc]
theorem azL {l:Ln} {m d:Int}:m<=lineAt l d ↔ 1000*m<=1000*l.b+l.r*d:=by
 unfold lineAt
 generalize l.r*d=y
 omega
def aiG (l:Ln) (q:List Pk) (s:Bu):Prop:=s.b=l.b/\s.r=l.r/\((q=[]/\s.has=1000*s.b)\/∀t n:Int,s.at_<=t->(1000*n<=s.has+s.r*(t - s.at_) ↔ abJ l t n q))
theorem ajD {l:Ln} {q:List Pk} {s:Bu} (hs:uM s) (hj:aiG l q s) {t n:Int} (ht:s.at_<=t):1000*n<=holdsB s t ↔ abJ l t n q/\n<=l.b:=by
 obtain ⟨e1,e2,hj⟩:=hj
 rw [uX hs ht]
 rcases hj with ⟨rfl,h1⟩|h1
 ·have m:=zAY hs.r1 (show 0<=t - s.at_ by omega)
  generalize s.r*(t - s.at_)=y at m ⊢
  simp only [abJ,true_and]
  split<;>omega
 ·rw [<-h1 t n ht]
  generalize s.r*(t - s.at_)=y
  split<;>omega
theorem asS {l:Ln} {q:List Pk} {s:Bu} {x:Pk} (hs:uM s) (hj:aiG l q s) (ht:s.at_<=x.a) (hl:yN s x.a x.s=0):
 aiG l (if takeB s x.a x.s then q++[x] else q) (yK s x.a x.s):=by
 have hline:=arX s x.a x.s
 unfold takeB
 by_cases hc:1000*x.s<=holdsB s x.a
 ·rw [zAI ⟨hl,hc⟩,zp rfl]
  have e:yK s x.a x.s=⟨s.b,s.r,x.a,holdsB s x.a - 1000*x.s,x.a⟩:=by unfold yK;rw [z6 zO,z6 zO]
  rw [e]
  refine ⟨hj.1,hj.2.1,.inr λt n htt=>?_⟩
  simp only at htt ⊢
  rw [arN,azL]
  have hmin:=uX hs ht
  obtain ⟨e1,e2,hj⟩:=hj
  rw [<-e1,<-e2]
  have hd:s.r*(t - s.at_)=s.r*(x.a - s.at_)+s.r*(t - x.a):=zBp
  rcases hj with ⟨rfl,h1⟩|h1
  ·have m:=zAY hs.r1 (show 0<=x.a - s.at_ by omega)
   simp only [abJ,true_and]
   rw [hmin,h1]
   generalize s.r*(x.a - s.at_)=y at m ⊢
   generalize s.r*(t - x.a)=z
   split<;>omega
  ·rw [<-h1 t (x.s+n) zO,hd,hmin]
   generalize s.r*(x.a - s.at_)=y
   generalize s.r*(t - x.a)=z
   split<;>omega
 ·rw [zAH (λh=>hc h.2)]
  have e:yK s x.a x.s={s with last:=x.a}:=by unfold yK;rw [z6 zO,zp zO]
  rw [e]
  exact hj
theorem avV (l:Ln):aiG l [] (newB l):=⟨rfl,rfl,.inl ⟨rfl,rfl⟩⟩
theorem aoO {l:Ln} {q:List Pk} {s:Bu} {x:Pk} (hs:uM s) (hj:aiG l q s) (hq:vF [l] q=true) (ht:s.at_<=x.a) (hl:yN s x.a x.s=0):vF [l] (q++[x])=takeB s x.a x.s:=by
 rw [Bool.eq_iff_iff,ae9,<-ajD hs hj ht]
 unfold takeB
 rw [zAe]
 simp [hq,hl]
theorem asQ {l:List Pk} {m:Int} {k:Nat} (h1:∀x∈l,zg x) (h2:l.Pairwise (λx y=>x.a<=y.a)) (h3:∀x∈l,m<=x.a):(yO l m k).1=0:=by
 induction l generalizing m k with
 |nil=>rfl
 |cons x r ih=>
  obtain ⟨p1,p2⟩:=zAd.1 h2
  unfold yO
  have:=h3 x zAD
  rw [zp (h1 x zAD),z6 zO]
  exact ih (λy hy=>h1 y (zAJ _ hy)) p2 p1
theorem ajC {l:List Pk} (h0:l.length<=300) (h1:∀x∈l,zg x) (h2:l.Pairwise (λx y=>x.a<=y.a)):(qj l).1=0:=by
 unfold qj
 rw [z6 zO]
 exact asQ h1 h2 λx hx=>(h1 x hx).2.2.2.2.1
theorem vg {p:List Pk} (h:(qj p).1=0):p.length<=300:=by
 unfold qj at h
 by_cases h4:300<p.length
 ·rw [zp h4] at h;simp at h
 ·omega
theorem acW {p q:List Pk} (h:(qj p).1=0) (hs:q.Sublist p):(qj q).1=0:=
 ajC (zAB hs.length_le (vg h)) (λx hx=>xC h x (hs.subset hx)) ((pktErr_sorted' h).sublist hs)
theorem azX:(Tryz.prog.info? 53).map (λi=>(i.zero,i.size,i.bytes))=some (some (.agg #[.int .i64 0,.int .i64 0,.int .i64 0]),3,24):=zK
theorem own_below {w w':World} {B base:Nat} {e:TypeId} {size n:Nat} {v:Value} {xs:List Value} (hr:w.ownsRow base e size v n xs) (hb:Below B w w') (hB:w.heap.size<=B):w'.ownsRow base e size v n xs:=by
 obtain ⟨h1,h2⟩:=hr
 refine ⟨h1,?_⟩
 rcases h2 with h2|⟨g',cap,cur,hv,hg',hh,r⟩
 ·exact .inl h2
 ·refine .inr ⟨g',cap,cur,hv,hg',(hb.block g' ?_).trans hh,r⟩
  have:=lt_of_block hh
  omega
structure PassR (line:Ln) (p:List Pk) (k:Nat) (s:Bu) (m:Int) (q:List Pk):Prop where
 j:a3F line p k s m
 pj:aiG line q s
 ft:vF [line] q=true
 sub:q.Sublist (p.take k)
theorem anA {w w1:World} (h:Below w.drew.heap.size w.drew w1):Below w.heap.size w w1:=((zAA _ _).drew).trans h
theorem af8 {w w1:World} {o:Obj} (h:Below (w.alloc o).drew.heap.size (w.alloc o).drew w1):Below (w.heap.size+1) (w.alloc o) w1:=by
 have e1:(w.alloc o).drew.heap.size=w.heap.size+1:=by simp [World.drew]
 rw [e1] at h
 exact ((zAA _ _).drew).trans h
theorem am9 {w w1:World} {o o2:Obj} (h:Below ((w.alloc o).alloc o2).drew.heap.size ((w.alloc o).alloc o2).drew w1):Below (w.heap.size+2) ((w.alloc o).alloc o2) w1:=by
 have e1:((w.alloc o).alloc o2).drew.heap.size=w.heap.size+2:=by simp [World.drew]
 rw [e1] at h
 exact ((zAA _ _).drew).trans h
theorem aeE {w w1:World} (h:Below w.drew.heap.size w.drew w1):Below w.heap.size w w1:=anA h
theorem a3E {w w1:World} {o:Obj} (h:Below (w.alloc o).drew.heap.size (w.alloc o).drew w1):Below w.heap.size w w1:=((zAA _ _).alloc (zD _) o).trans ((af8 h).mono (Nat.le_succ _))
theorem bel2 {w w1:World} {o o2:Obj} (h:Below ((w.alloc o).alloc o2).drew.heap.size ((w.alloc o).alloc o2).drew w1):Below w.heap.size w w1:=(((zAA _ _).alloc (zD _) o).alloc (qG (zD _) o) o2).trans ((am9 h).mono zO)
theorem aj8 {w:World} (o:Obj):Below w.heap.size w (w.alloc o):=(zAA _ _).alloc (zD _) o
theorem jQ {w:World} {base:Nat} {e:TypeId} {size:Nat} {v:Value} {n:Nat} {xs:List Value} (h:w.ownsRow base e size v n xs):∀g,v.ownBlock=some g->g<w.heap.size:=by
 intro g hg
 rcases h.2 with ⟨rfl,_⟩|⟨g',cap,cur,rfl,_,hh,_⟩
 ·simp [Value.ownBlock] at hg
 ·have:g'=g:=by simpa [Value.ownBlock] using hg
  subst this
  exact lt_of_block hh
theorem al3 (w:World) (o:Obj):w.heap.size<(w.alloc o).drew.heap.size:=by simp [World.drew]
set_option maxHeartbeats 400000 in
theorem ab5 (A:Option Addr) (c:Nat) (l:List Pk) (w:World) (B:Nat) (hB:B<=w.heap.size) (h:RdP w B A l) (hl:l.length<=4294967296):
 Calls Tryz.prog 96 #[.slice A l.length c] w (vI Pk.cs 3 53 l w):=by
 obtain ⟨i0,hi0,hz0,hz1,hz2⟩:=info_parts azX
 have r1:=@Lib.run_eql_slice_nil Tryz.prog
 cases A with
 |none=>
  obtain rfl:l=[]:=by
   rcases l with _|⟨x,r⟩
   ·rfl
   ·obtain ⟨b,o,h9,_⟩:=h zA1
    cases h9
  go_enter Tryz.func96,Tryz.ntmps96
  go_wp2_with fail
  go_ret
  exact ⟨none,0,rfl,⟨by simp,.inl ⟨rfl,rfl⟩⟩,zAA _ _⟩
 |some ad=>
  have hown:(w.alloc (.cells #[] 53)).ownsRow w.heap.size 53 3 (.slice (some ⟨w.heap.size,0,none⟩) 0 0) 0 []:=World.ownsRow_made w #[] 0 (zD _) (zAK _) rfl
  have kb:Below w.heap.size w (w.alloc (.cells #[] 53)):=(zAA _ _).alloc (zD _) _
  go_enter Tryz.func96,Tryz.ntmps96
  go_wp2_with (at_builtin;refine qd _ Pk.cs rfl (.tmp 5) (.tmp 6) 46 rfl w.heap.size 53 i0 _ 3 24 Tryz.underlying46 hi0 hz0 hz1 hz2 rfl zO Pk.qw Pk.qV (.slice (some ⟨w.heap.size,0,none⟩) 0 0) 0 [] rfl hown B (some ad) c l rfl (h.below (kb.mono hB)) zA2 zO (qG (zD _) _) ?_;intro v1 w1 hown1 hg1 hat1;simp only [Nat.zero_add,zAa] at hown1;obtain ⟨A1,c1,rfl⟩:=yl hown1 zO)
  go_ret
  exact ⟨A1,c1,rfl,hown1,ql kb hown hg1 (zD _) (qG (zD _) _)⟩
def pC (x:Nat × Bu):List Value:=[.pointer (some ⟨x.1,0,none⟩)]
theorem aeZ (x:Nat × Bu):(pC x).length=1:=rfl
theorem avW (x:Nat × Bu):∀u∈pC x,u.oneCell'=true:=by simp [pC,Value.oneCell']
structure xh (base:Nat) (w:World) (A:Option Addr) (c:Nat) (bs:List (Nat × Bu)):Prop where
 row:w.ownsRow base 266 1 (.slice A bs.length c) bs.length (bs.flatMap pC)
 bk:∀x∈bs,Blk w x.1 288 x.2.cells
 nd:(bs.map (·.1)).Nodup
 ge:∀x∈bs,base<=x.1
 far:∀x∈bs,(Value.slice A bs.length c).ownBlock≠some x.1
structure uk (base:Nat) (bs:List (Nat × Bu)) (w w':World):Prop where
 bel:Below base w w'
 blk:∀b,(∀x∈bs,x.1≠b)->w'.heap[b]?=w.heap[b]?
theorem uk.refl (base:Nat) (bs:List (Nat × Bu)) (w:World):uk base bs w w:=⟨zAA _ _,λ_ _=>rfl⟩
def tookP (t n:Int) (x:Nat × Bu):Nat × Bu:=(x.1,yK x.2 t n)
def yo (bs:List (Nat × Bu)) (from_ n t:Int):Option Int:=match bs with
 |[]=>some t
 |x::r=>if (zi x.2 from_ n).1=0 then yo r from_ n (if t<(zi x.2 from_ n).2 then (zi x.2 from_ n).2 else t) else none
theorem abP {s:Bu} (h:uM s) {t n:Int} (hw:(zi s t n).1=0):yN s t n=0/\t<=(zi s t n).2/\(zi s t n).2<=1099511627776:=by
 have:=ap4 h (T:=(zi s t n).2) (Prod.ext hw rfl)
 exact ⟨this.1,this.2.1,this.2.2.1⟩
theorem ae5 {bs:List (Nat × Bu)} {from_ n t T:Int} (hb:∀x∈bs,uM x.2) (h:yo bs from_ n t=some T):
 t<=T/\(∀x∈bs,(zi x.2 from_ n).1=0/\(zi x.2 from_ n).2<=T)/\(t<=1099511627776->T<=1099511627776)/\(T=t\/∃x∈bs,T=(zi x.2 from_ n).2):=by
 induction bs generalizing t with
 |nil=>
  simp only [yo,zAC] at h
  subst h
  exact ⟨zAV _,by simp,λh=>h,.inl rfl⟩
 |cons x r ih=>
  unfold yo at h
  split at h
  ·rename_i hw
   obtain ⟨h1,h2,h3,h4⟩:=ih (λy hy=>hb y (zAJ _ hy)) h
   have hx:=abP (hb x zAD) hw
   have e1:t<=(if t<(zi x.2 from_ n).2 then (zi x.2 from_ n).2 else t):=zCB
   have e2:(zi x.2 from_ n).2<=(if t<(zi x.2 from_ n).2 then (zi x.2 from_ n).2 else t):=zCB
   have e3:t<=1099511627776->(if t<(zi x.2 from_ n).2 then (zi x.2 from_ n).2 else t)<=1099511627776:=zCB
   refine ⟨by omega,λy hy=>?_,λht=>h3 (e3 ht),?_⟩
   ·rcases zAM.1 hy with rfl|hy
    ·exact ⟨hw,by omega⟩
    ·exact h2 y hy
   ·rcases h4 with h4|⟨y,hy,h4⟩
    ·rw [h4]
     split
     ·exact .inr ⟨x,zAD,rfl⟩
     ·exact .inl rfl
    ·exact .inr ⟨y,zAJ _ hy,h4⟩
  ·cases h
theorem aa9 {s:Bu} (h:uM s) {from_ n t:Int} (hl:yN s from_ n=0) (h1:from_<=t) (h2:t<=1099511627776):yN s t n=0:=by
 obtain ⟨q1,q2,q3,q4,q5⟩:=kP hl
 unfold yN
 rw [z6 zO,z6 zO]
section
variable {base:Nat} {w w':World} {A:Option Addr} {c:Nat} {bs:List (Nat × Bu)}
theorem xh.drewN (h:xh base w A c bs) (m:Nat):xh base (w.drewN m) A c bs:=⟨h.row,h.bk,h.nd,h.ge,h.far⟩
theorem xh.rd (h:xh base w A c bs):Rd w w.heap.size 1 pC A bs:=Rd.qA h.row zO aeZ
theorem xh.get (h:xh base w A c bs) {k:Nat} (hk:k<bs.length):∃b o,A=some ⟨b,o,none⟩/\b<w.heap.size/\w.cell? ⟨b,o+k,none⟩=some (.pointer (some ⟨bs[k].1,0,none⟩)):=by
 obtain ⟨b,o,e,hb,hc⟩:=h.rd.at_ hk
 exact zEL
def uh (bs:List (Nat × Bu)) (t n:Int) (k:Nat):List (Nat × Bu):=(bs.take k).map (tookP t n)++bs.drop k
theorem agT (bs:List (Nat × Bu)) (t n:Int) (k:Nat):(uh bs t n k).length=bs.length:=by
 unfold uh
 rw [zAP,List.length_map,zAh,List.length_drop]
 omega
theorem agU (bs:List (Nat × Bu)) (t n:Int):uh bs t n bs.length=bs.map (tookP t n):=by simp [uh]
theorem jT {bs:List (Nat × Bu)} {t n:Int} {k:Nat} (hk:k<bs.length) (h:k<(uh bs t n k).length):(uh bs t n k)[k]=bs[k]:=by
 simp only [uh]
 rw [List.getElem_append_right zA7]
 simp
 congr 1
 omega
theorem afT {bs:List (Nat × Bu)} {t n:Int} {k:Nat} (hk:k<bs.length):uh bs t n (k+1)=(uh bs t n k).set k (tookP t n bs[k]):=by
 unfold uh
 have e:((bs.take k).map (tookP t n)).length=k:=zA7
 rw [List.set_append_right _ _ zO,e,Nat.sub_self,zAN hk,List.map_append,zAE hk,zAi]
 rfl
theorem xh.step (h:xh base w A c bs) {k:Nat} (hk:k<bs.length) {s':Bu} (ho:qU bs[k].1 w w') (hb:Blk w' bs[k].1 288 s'.cells):xh base w' A c (bs.set k (bs[k].1,s')):=zDN
end
set_option maxHeartbeats 1000000 in
theorem ao4 (A:Option Addr) (c:Nat) (bs:List (Nat × Bu)) (from_ n:Int) (S:Nat->Addr) (w:World) (B base:Nat) (hB:B<=base) (hS:Snt w B S [2,4,5]) (hm:xh base w A c bs) (hok:∀x∈bs,uM x.2) (hl:bs.length<=1000) (hn:yo bs from_ n from_=none):
 Calls Tryz.prog 181 #[.slice A bs.length c,.int .i64 from_,.int .i64 n] w λe w'=>(∃T a,e=.returned (.tuple #[.int .i64 0,.iface T (.pointer (some a))]))/\∃m,w'=w.drewN m:=by
 have Hn:=zL hn
 have Hok:=zL hok
 clear hn hok
 go_enter Tryz.func181,Tryz.ntmps181
 go_wp2_with fail
 go_loopw [8,20] (λtv iv wr=>∃(k m:Nat) (t:Int),k<=bs.length/\iv=.int .i64 k/\tv=.int .i64 t/\yo (bs.drop k) from_ n t=none/\wr=w.drewN m) (λ_ iv _=>bs.length - (intOf iv).toNat)
 case atStart=>exact ⟨0,0,from_,zAK _,rfl,rfl,Hn.o,rfl⟩
 case round=>
  obtain ⟨k,m,t,hk,rfl,rfl,hlv,rfl⟩:=hrel
  by_cases hlt:k<bs.length
  ·obtain ⟨b,o,rfl,hb,d0⟩:=hm.get hlt
   rw [zAE hlt] at hlv
   have hx:=Hok.o _ (zd hlt)
   have hbk:=(hm.bk _ (zd hlt)).drewN m
   have hge:=hm.ge _ (zd hlt)
   by_cases hw:(zi bs[k].2 from_ n).1=0
   ·have Hlv:=zM (yo (bs.drop (k+1)) from_ n (if t<(zi bs[k].2 from_ n).2 then (zi bs[k].2 from_ n).2 else t)=none) (by rw [<-hlv];unfold yo;rw [zp hw];cases bs.drop (k+1)<;>rfl)
    exact zDu
   ·have Hw:=zL hw
    have Hx:=zL hx
    have Hbk:=zL hbk
    clear hlv hw hx hbk
    go_wp2_with fail
    refine (agR bs[k].1 bs[k].2 from_ n S (w.drewN m) B (zAB hB hge) hS Hbk.o Hx.o).mono ?_
    rintro e w1 ⟨v,rfl,hv,m1,rfl⟩
    obtain ⟨T,a,rfl⟩:=hv.qW Hw.o
    go_wp2_with fail
    go_ret2
    exact ⟨⟨T,a,rfl⟩,_,by first |rfl|exact World.drewN_drewN _ _ _⟩
  ·rw [zAO zO] at hlv
   cases hlv
theorem uk.step {base:Nat} {bs:List (Nat × Bu)} {w w1 w2:World} (h:uk base bs w w1) {x:Nat × Bu} (hx:x∈bs) (hg:base<=x.1) (ho:qU x.1 w1 w2):uk base bs w w2:=
 ⟨h.bel.trans (ho.bel.mono hg),λb hb=>(ho.blk b (λe=>hb x hx e.symm)).trans (h.blk b hb)⟩
theorem uk.drewN {base:Nat} {bs:List (Nat × Bu)} {w w1:World} (h:uk base bs w w1) (m:Nat):uk base bs w (w1.drewN m):=⟨below_drewN h.bel m,h.blk⟩
set_option maxHeartbeats 2000000 in
theorem ao3 (A:Option Addr) (c:Nat) (bs:List (Nat × Bu)) (from_ n T:Int) (S:Nat->Addr) (w:World) (B base:Nat) (hB:B<=base) (hS:Snt w B S [2,4,5]) (hm:xh base w A c bs) (hok:∀x∈bs,uM x.2) (hl:bs.length<=1000) (hf:from_<=1099511627776) (hn:yo bs from_ n from_=some T):
 Calls Tryz.prog 181 #[.slice A bs.length c,.int .i64 from_,.int .i64 n] w λe w'=>e=.returned (.tuple #[.int .i64 T,.nilIface])/\xh base w' A c (bs.map (tookP T n))/\uk base bs w w':=by
 obtain ⟨l1,l2,l3,_⟩:=ae5 hok hn
 have hT:=l3 hf
 have Hl:=zL l2
 have Hn:=zL hn
 have Hok:=zL hok
 clear hn hok l2 l3
 go_enter Tryz.func181,Tryz.ntmps181
 go_wp2_with fail
 go_loopw [8,20] (λtv iv wr=>∃(k m:Nat) (t:Int),k<=bs.length/\iv=.int .i64 k/\tv=.int .i64 t/\yo (bs.drop k) from_ n t=some T/\wr=w.drewN m) (λ_ iv _=>bs.length - (intOf iv).toNat)
 case atStart=>exact ⟨0,0,from_,zAK _,rfl,rfl,Hn.o,rfl⟩
 case round=>
  obtain ⟨k,m,t,hk,rfl,rfl,hlv,rfl⟩:=hrel
  by_cases hlt:k<bs.length
  ·obtain ⟨b,o,rfl,hb,d0⟩:=hm.get hlt
   rw [zAE hlt] at hlv
   have hx:=Hok.o _ (zd hlt)
   have hbk:=(hm.bk _ (zd hlt)).drewN m
   have hge:=hm.ge _ (zd hlt)
   have hw:=(Hl.o _ (zd hlt)).1
   have Hlv:=zM (yo (bs.drop (k+1)) from_ n (if t<(zi bs[k].2 from_ n).2 then (zi bs[k].2 from_ n).2 else t)=some T) (by rw [<-hlv,yo,zp hw])
   exact zDu
  ·rw [zAO zO] at hlv
   simp only [yo,zAC] at hlv
   subst hlv
   obtain ⟨w1,hw1⟩:∃w1:World,w1=w.drewN m:=⟨_,rfl⟩
   have hm1:xh base w1 A c bs:=by rw [hw1];exact hm.drewN m
   have hS1:Snt w1 B S [2,5]:=by rw [hw1];exact (show Snt (w.drewN m) B S [2,4,5] from hS).sub zA1
   have on0:uk base bs w w1:=by rw [hw1];exact (uk.refl _ _ _).drewN m
   rw [<-hw1]
   clear hw1
   go_wp2_with fail
   go_loopw [40] (λiv wr=>∃k:Nat,k<=bs.length/\iv=.int .i64 k/\xh base wr A c (uh bs t n k)/\uk base bs w wr/\uk base bs w1 wr) (λiv _=>bs.length - (intOf iv).toNat)
   case atStart=>exact ⟨0,zAK _,rfl,hm1,on0,uk.refl _ _ _⟩
   case round=>
    obtain ⟨k2,hk2,rfl,hmk,onk,onk1⟩:=hrel
    have Hmk:=zL hmk
    clear hmk
    by_cases hlt2:k2<bs.length
    ·have hlt3:k2<(uh bs t n k2).length:=by rw [agT];exact hlt2
     obtain ⟨b,o,rfl,hb,d0⟩:=Hmk.o.get hlt3
     rw [jT hlt2 hlt3] at d0
     have hbk:=Hmk.o.bk _ (zd hlt3)
     rw [jT hlt2 hlt3] at hbk
     have hge:=hm1.ge _ (zd hlt2)
     have hx:=Hok.o _ (zd hlt2)
     have hlk:yN bs[k2].2 t n=0:=aa9 hx (abP hx (Hl.o _ (zd hlt2)).1).1 l1 hT
     have Hx:=zL hx
     have Hbk:=zL hbk
     have Hlk:=zL hlk
     have hSk:Snt wr B S [2,5]:=hS1.below (onk1.bel.mono hB)
     have HS:=zL hSk
     have Hat:=zL (jT hlt2 hlt3)
     clear hx hbk hlk hSk
     go_wp2_with fail
     refine (au9 bs[k2].1 bs[k2].2 t n S wr B (zAB hB hge) HS.o Hbk.o Hx.o).mono ?_
     rintro e w5 ⟨v5,rfl,e5,b5,on5⟩
     obtain rfl:=e5.qK Hlk.o
     have hm5:xh base w5 (some ⟨b,o,none⟩) c (uh bs t n (k2+1)):=by
      rw [afT hlt2]
      have h9:=Hmk.o.step hlt3 (s':=yK bs[k2].2 t n) (w':=w5) (by rw [Hat.o];exact on5) (by rw [Hat.o];exact b5)
      rw [Hat.o] at h9
      exact h9
     have Hm5:=zL hm5
     clear hm5
     go_wp2_with fail
     go_roundw
     case rel=>exact ⟨k2+1,hlt2,by go_num,Hm5.o,onk.step (zd hlt2) hge on5,onk1.step (zd hlt2) hge on5⟩
     case measure=>simp [intOf];omega
    ·have Hm5:=zL (show xh base wr A c (bs.map (tookP t n)) by
      have h9:=Hmk.o
      rw [show k2=bs.length by omega,agU] at h9
      exact h9)
     go_wp2_with fail
     go_ret2
     exact ⟨rfl,Hm5.o,onk⟩
def kS (ss:List Bu) (from_ n t:Int):Option Int:=match ss with
 |[]=>some t
 |s::r=>if (zi s from_ n).1=0 then kS r from_ n (if t<(zi s from_ n).2 then (zi s from_ n).2 else t) else none
theorem aaZ (bs:List (Nat × Bu)) (from_ n t:Int):yo bs from_ n t=kS (bs.map (·.2)) from_ n t:=by
 induction bs generalizing t with
 |nil=>rfl
 |cons x r ih=>unfold yo;rw [List.map_cons];unfold kS;rw [ih]
def fr (last a:Int):Int:=if last<a then a else last
theorem aq4 (last a:Int):last<=fr last a/\a<=fr last a/\(fr last a=a\/fr last a=last):=by unfold fr;split<;>omega
def shapeGo:List Pk->List Bu->Int->Nat->List Pk × Int
 |[],_,_,_=>([],-1)
 |x::r,ss,last,i=>match kS ss (fr last x.a) x.s (fr last x.a) with
  |none=>([],(i:Int))
  |some T=>if (shapeGo r (ss.map λs=>yK s T x.s) T (i+1)).2=-1 then (⟨x.f,x.s,T⟩::(shapeGo r (ss.map λs=>yK s T x.s) T (i+1)).1,-1) else ([],(shapeGo r (ss.map λs=>yK s T x.s) T (i+1)).2)
def glue (acc:List Pk) (y:List Pk × Int):List Pk × Int:=if y.2=-1 then (acc++y.1,-1) else ([],y.2)
theorem ajV {acc:List Pk} {x:Pk} {r:List Pk} {ss:List Bu} {last:Int} {i:Nat} (h:kS ss (fr last x.a) x.s (fr last x.a)=none):glue acc (shapeGo (x::r) ss last i)=([],(i:Int)):=by
 unfold shapeGo
 rw [h]
 unfold glue
 rw [z6 (by show ¬(i:Int)=-1;omega)]
theorem ajU {acc:List Pk} {x:Pk} {r:List Pk} {ss:List Bu} {last T:Int} {i:Nat} (h:kS ss (fr last x.a) x.s (fr last x.a)=some T):glue acc (shapeGo (x::r) ss last i)=glue (acc++[⟨x.f,x.s,T⟩]) (shapeGo r (ss.map λs=>yK s T x.s) T (i+1)):=by
 rw [shapeGo,h]
 simp only
 generalize shapeGo r (ss.map λs=>yK s T x.s) T (i+1)=y
 unfold glue
 by_cases hy:y.2=-1
 ·rw [zp hy,zp hy,zp rfl];simp
 ·rw [z6 hy,z6 hy,z6 hy]
def zG (l:List Ln) (p:List Pk):List Pk × Int:=shapeGo p (l.map newB) 0 0
def yU (l:List Ln) (p:List Pk):Nat × Int:=if (qj p).1≠0 then qj p else if (qh l).1≠0 then qh l else if (zG l p).2=-1 then (0,-1) else (4,(zG l p).2)
def jH (l:List Ln) (p:List Pk):List Pk:=if (yU l p).1=0 then (zG l p).1 else []
theorem a05 (acc:List Pk) (x:Pk) (r:List Pk) (T:Int):((acc++x::r).flatMap Pk.cs).set (acc.length*3+2) (.int .i64 T)=((acc++[(⟨x.f,x.s,T⟩:Pk)])++r).flatMap Pk.cs:=by
 have e:(acc.flatMap Pk.cs).length=acc.length*3:=vE Pk.cs 3 Pk.qw acc
 rw [zAi,List.flatMap_append,List.flatMap_append,List.set_append_right _ _ zO,e,show acc.length*3+2 - acc.length*3=2 by omega]
 rfl
def au1 (bs:List (Nat × Bu)) (last:Int):Prop:=∀x∈bs,uM x.2/\x.2.last<=last
theorem ai3 {s:Bu} {t n:Int} (h:yN s t n=0):(yK s t n).last=t:=by
 unfold yK
 rw [z6 zO]
 split<;>rfl
theorem aj5 {bs:List (Nat × Bu)} {last a n T:Int} (h:au1 bs last) (ha:0<=a/\a<=1099511627776) (hl:last<=1099511627776) (ht:yo bs (fr last a) n (fr last a)=some T):
 au1 (bs.map (tookP T n)) T/\a<=T/\last<=T/\T<=1099511627776:=by
 have hf:=aq4 last a
 obtain ⟨h1,h2,h3,_⟩:=ae5 (λx hx=>(h x hx).1) ht
 have hT:=h3 zO
 refine ⟨λy hy=>?_,by omega,by omega,hT⟩
 obtain ⟨x,hx,rfl⟩:=zAT.1 hy
 have hk:=aa9 (h x hx).1 (abP (h x hx).1 (h2 x hx).1).1 h1 hT
 exact ⟨alD (h x hx).1 T n,by show (yK x.2 T n).last<=T;rw [ai3 hk];exact zAV _⟩
theorem al1 (bs:List (Nat × Bu)) (T n:Int):(bs.map (tookP T n)).map (·.2)=(bs.map (·.2)).map λs=>yK s T n:=by
 rw [List.map_map,List.map_map];rfl
theorem atC {l:List Ln} (h0:0<l.length) {n t:Int}:n<=qP l t ↔ ∀y∈l,n<=lineAt y t:=by
 refine ⟨λh y hy=>Int.le_trans h (vG hy t),λh=>?_⟩
 obtain ⟨x,hx,e⟩:=wZ h0 t
 rw [e]
 exact h x hx
theorem amN {l:List Ln} (h0:0<l.length) (ai:Int) (q:List Pk) (n:Int):vB l ai n q=true ↔ ∀y∈l,vB [y] ai n q=true:=by
 induction q generalizing n with
 |nil=>exact ⟨λ_ _ _=>rfl,λ_=>rfl⟩
 |cons x r ih=>
  have e:∀ls:List Ln,vB ls ai n (x::r)=true ↔ n+x.s<=qP ls (x.a - ai)/\vB ls ai (n+x.s) r=true:=λls=>by
   show (if qP ls (x.a - ai)<n+x.s then false else vB ls ai (n+x.s) r)=true ↔ _
   by_cases h:qP ls (x.a - ai)<n+x.s
   ·rw [zp h];simp;omega
   ·rw [z6 h];simp;omega
  rw [e,ih,atC h0]
  constructor
  ·intro ⟨h1,h2⟩ y hy
   rw [e,aa3]
   exact ⟨h1 y hy,h2 y hy⟩
  ·intro h
   refine ⟨λy hy=>?_,λy hy=>?_⟩
   ·have:=h y hy;rw [e,aa3] at this;exact this.1
   ·have:=h y hy;rw [e] at this;exact this.2
theorem ahY {l:List Ln} (h0:0<l.length) (q:List Pk):vF l q=true ↔ ∀y∈l,vF [y] q=true:=by
 induction q with
 |nil=>exact ⟨λ_ _ _=>rfl,λ_=>rfl⟩
 |cons x r ih=>
  have e:∀ls:List Ln,vF ls (x::r)=true ↔ vB ls x.a 0 (x::r)=true/\vF ls r=true:=λls=>by
   show (if vB ls x.a 0 (x::r) then vF ls r else false)=true ↔ _
   by_cases h:vB ls x.a 0 (x::r)=true
   ·rw [zp h];simp [h]
   ·rw [z6 h];simp [h]
  rw [e,ih,amN h0]
  constructor
  ·intro ⟨h1,h2⟩ y hy
   rw [e];exact ⟨h1 y hy,h2 y hy⟩
  ·intro h
   exact ⟨λy hy=>((e _).1 (h y hy)).1,λy hy=>((e _).1 (h y hy)).2⟩
theorem aw3 (y:Ln) (q r:List Pk) (h:vF [y] (q++r)=true):vF [y] q=true:=by
 induction r generalizing q with
 |nil=>rwa [zAo] at h
 |cons z r ih=>
  rw [show q++z::r=(q++[z])++r by simp] at h
  exact ((ae9 y q z).1 (ih (q++[z]) h)).1
theorem atA (ss:List Bu) (from_ n t:Int):kS ss from_ n t=yo (ss.map λs=>(0,s)) from_ n t:=by
 rw [aaZ,List.map_map]
 have e:((λx:Nat × Bu=>x.2) ∘λs=>((0:Nat),s))=id:=rfl
 rw [e,List.map_id]
theorem apA {s:Bu} (h:uM s) {t T:Int} (h1:s.at_<=t) (h2:t<=T):holdsB s t<=holdsB s T:=by
 rw [uX h h1,uX h zO]
 have hd:s.r*(T - s.at_)=s.r*(t - s.at_)+s.r*(T - t):=zBp
 have m:=zAY h.r1 (show 0<=T - t by omega)
 rw [hd]
 generalize s.r*(t - s.at_)=y
 generalize s.r*(T - t)=z at m ⊢
 split<;>split<;>omega
theorem alA {s:Bu} (h:uM s) {T n:Int} (hl:yN s T n=0) (hb:n<=s.b) (hh:1000*n<=holdsB s T):zi s T n=(0,T):=by
 unfold zi
 rw [z6 zO,z6 zO,zp zO]
theorem ajN (ss:List Bu) (T n:Int) (h:∀s∈ss,zi s T n=(0,T)):kS ss T n T=some T:=by
 induction ss with
 |nil=>rfl
 |cons s r ih=>
  unfold kS
  rw [h s zAD,zp rfl,z6 (Int.lt_irrefl _)]
  exact ih λy hy=>h y (zAJ _ hy)
structure ZJ (zs:List (Ln × Bu)) (acc:List Pk) (last:Int):Prop where
 ok:∀z∈zs,uM z.2/\z.2.last<=last/\aiG z.1 acc z.2/\vF [z.1] acc=true
 l0:0<=last
 l1:last<=1099511627776
 le:∀y∈acc,y.a<=last
 pk:∀y∈acc,zg y
 so:acc.Pairwise (λx y=>x.a<=y.a)
def ak8 (T n:Int) (z:Ln × Bu):Ln × Bu:=(z.1,yK z.2 T n)
theorem ayB {zs:List (Ln × Bu)} {acc:List Pk} {last T:Int} {x:Pk} (h:ZJ zs acc last) (hx:zg x) (hT:kS (zs.map (·.2)) (fr last x.a) x.s (fr last x.a)=some T):
 ZJ (zs.map (ak8 T x.s)) (acc++[⟨x.f,x.s,T⟩]) T/\last<=T/\x.a<=T/\T<=1099511627776/\(∀z∈zs,zi z.2 T x.s=(0,T)):=by
 obtain ⟨p1,p2,p3,p4,p5,p6⟩:=hx
 have hf:=aq4 last x.a
 have h0:=h.l0
 have h1:=h.l1
 rw [atA] at hT
 obtain ⟨t1,t2,t3,_⟩:=ae5 (λy hy=>by
  obtain ⟨s,hs,rfl⟩:=zAT.1 hy
  obtain ⟨z,hz,rfl⟩:=zAT.1 hs
  exact (h.ok z hz).1) hT
 have hT1:=t3 zO
 have each:∀z∈zs,yN z.2 T x.s=0/\x.s<=z.2.b/\1000*x.s<=holdsB z.2 T/\z.2.at_<=T:=λz hz=>by
  obtain ⟨k1,k2,k3,k4⟩:=h.ok z hz
  obtain ⟨w1,w2⟩:=t2 (0,z.2) (zAT.2 ⟨z.2,zAT.2 ⟨z,hz,rfl⟩,rfl⟩)
  simp only at w1 w2
  have hk:=abP k1 w1
  have hw:=ap4 k1 (T:=(zi z.2 (fr last x.a) x.s).2) (Prod.ext w1 rfl)
  have ha2:=k1.a2
  have hmo:=apA k1 (t:=(zi z.2 (fr last x.a) x.s).2) (T:=T) zO w2
  have hb:x.s<=z.2.b:=by
   unfold zi at w1
   rw [z6 zO] at w1
   by_cases hb:z.2.b<x.s
   ·rw [zp hb] at w1;simp at w1
   ·omega
  exact ⟨aa9 k1 hk.1 t1 hT1,hb,by omega,by omega⟩
 refine ⟨⟨λz' hz'=>?_,by omega,hT1,λy hy=>?_,λy hy=>?_,?_⟩,by omega,by omega,hT1,λz hz=>?_⟩
 ·obtain ⟨z,hz,rfl⟩:=zAT.1 hz'
  obtain ⟨k1,k2,k3,k4⟩:=h.ok z hz
  obtain ⟨e1,e2,e3,e4⟩:=each z hz
  have htk:takeB z.2 T x.s=true:=zAI ⟨e1,e3⟩
  have hst:=asS (x:=⟨x.f,x.s,T⟩) k1 k3 e4 e1
  rw [htk,zp rfl] at hst
  have hft:=aoO (x:=⟨x.f,x.s,T⟩) k1 k3 k4 e4 e1
  simp only at hft
  exact ⟨alD k1 T x.s,by show (yK z.2 T x.s).last<=T;rw [ai3 e1];exact zAV _,hst,hft.trans htk⟩
 ·rcases zAQ.1 hy with hy|hy
  ·have:=h.le y hy;omega
  ·rw [zAW.1 hy];exact zAV _
 ·rcases zAQ.1 hy with hy|hy
  ·exact h.pk y hy
  ·rw [zAW.1 hy];exact ⟨p1,p2,p3,p4,by show 0<=T;omega,hT1⟩
 ·refine List.pairwise_append.2 ⟨h.so,by simp,λa ha b hb=>?_⟩
  rw [zAW.1 hb]
  have:=h.le a ha
  show a.a<=T
  omega
 ·obtain ⟨e1,e2,e3,_⟩:=each z hz
  exact alA (h.ok z hz).1 e1 e2 e3
theorem ayC {zs:List (Ln × Bu)} {acc r:List Pk} {last:Int} {x:Pk} (h:ZJ zs acc last) (hx:zg x) (hl:last<=x.a) (hf:∀z∈zs,vF [z.1] (acc++x::r)=true):kS (zs.map (·.2)) (fr last x.a) x.s (fr last x.a)=some x.a:=by
 obtain ⟨p1,p2,p3,p4,p5,p6⟩:=hx
 have e:fr last x.a=x.a:=by unfold fr;split<;>omega
 rw [e]
 refine ajN _ _ _ λs hs=>?_
 obtain ⟨z,hz,rfl⟩:=zAT.1 hs
 obtain ⟨k1,k2,k3,k4⟩:=h.ok z hz
 have h1:=hf z hz
 rw [show acc++x::r=(acc++[x])++r by simp] at h1
 have h2:=(ae9 z.1 acc x).1 (aw3 z.1 _ _ h1)
 have ha2:=k1.a2
 have h3:=(ajD k1 k3 (t:=x.a) (n:=x.s) zO).2 h2.2
 have hlk:yN z.2 x.a x.s=0:=by
  unfold yN
  rw [z6 zO,z6 zO]
 exact alA k1 hlk (by rw [k3.1];exact h2.2.2) h3
theorem ayH (r:List Pk):∀(zs:List (Ln × Bu)) (acc:List Pk) (last:Int) (i:Nat) (x:List Pk),ZJ zs acc last->(∀y∈r,zg y)->shapeGo r (zs.map (·.2)) last i=(x,-1)→
 (∀z∈zs,vF [z.1] (acc++x)=true)/\x.length=r.length/\(∀j (h1:j<r.length) (h2:j<x.length),x[j].f=r[j].f/\x[j].s=r[j].s/\r[j].a<=x[j].a)/\(∀y∈acc++x,zg y)/\(acc++x).Pairwise (λa b=>a.a<=b.a)/\
 shapeGo x (zs.map (·.2)) last i=(x,-1)/\(r.Pairwise (λa b=>a.a<=b.a)->(∀y∈r,last<=y.a)->(∀z∈zs,vF [z.1] (acc++r)=true)->x=r):=by
 induction r with
 |nil=>
  intro zs acc last i x h _ hs
  simp only [shapeGo,Prod.mk.injEq,and_true] at hs
  subst hs
  refine ⟨λz hz=>by rw [zAo];exact (h.ok z hz).2.2.2,rfl,λj h1=>by simp at h1,by rw [zAo];exact h.pk,by rw [zAo];exact h.so,rfl,λ_ _ _=>rfl⟩
 |cons y r ih=>
  intro zs acc last i x h hok hs
  have hy:=hok y zAD
  unfold shapeGo at hs
  split at hs
  ·simp only [Prod.mk.injEq] at hs
   omega
  ·rename_i T hT
   obtain ⟨z1,z2,z3,z4,z5⟩:=ayB h hy hT
   split at hs
   ·rename_i h9
    simp only [Prod.mk.injEq,and_true] at hs
    have hms:(zs.map (·.2)).map (λs=>yK s T y.s)=(zs.map (ak8 T y.s)).map (·.2):=by rw [List.map_map,List.map_map];rfl
    rw [hms] at h9 hs
    obtain ⟨x',hx'⟩:∃x',x'=(shapeGo r ((zs.map (ak8 T y.s)).map (·.2)) T (i+1)).1:=⟨_,rfl⟩
    rw [<-hx'] at hs
    subst hs
    obtain ⟨i1,i2,i3,i4,i5,i6,i7⟩:=ih (zs.map (ak8 T y.s)) _ T (i+1) x' z1 (λu hu=>hok u (zAJ _ hu)) (Prod.ext hx'.symm h9)
    have eapp:acc++⟨y.f,y.s,T⟩::x'=(acc++[⟨y.f,y.s,T⟩])++x':=zA1
    refine ⟨λz hz=>?_,by simp [i2],λj h1 h2=>?_,?_,?_,?_,λhso hla hft=>?_⟩
    ·rw [eapp]
     exact i1 (ak8 T y.s z) (zAT.2 ⟨z,hz,rfl⟩)
    ·cases j with
     |zero=>exact ⟨rfl,rfl,z3⟩
     |succ j=>
      simp only [List.getElem_cons_succ]
      exact i3 j (by simpa using h1) (by simpa using h2)
    ·rw [eapp];exact i4
    ·rw [eapp];exact i5
    ·unfold shapeGo
     have e:fr last T=T:=by unfold fr;split<;>omega
     simp only [e]
     rw [ajN _ _ _ (λs hs=>by obtain ⟨z,hz,rfl⟩:=zAT.1 hs;exact z5 z hz)]
     simp only [hms,i6,zp]
    ·have hT2:=ayC h hy (hla y zAD) hft
     rw [hT] at hT2
     injection hT2 with hT2
     subst hT2
     obtain ⟨s1,s2⟩:=zAd.1 hso
     have:x'=r:=i7 s2 s1 (λz hz=>by
      obtain ⟨u,hu,rfl⟩:=zAT.1 hz
      rw [zAi]
      exact hft u hu)
     rw [this]
   ·rename_i h9
    simp only [Prod.mk.injEq] at hs
    exact zAv hs.2 h9
theorem turner {l:List Ln} {p x:List Pk} (hl:∀y∈l,yL y) (h0:0<l.length) (hp:∀y∈p,zg y) (hs:p.Pairwise (λa b=>a.a<=b.a)) (hx:zG l p=(x,-1)):
 vF l x=true/\x.length=p.length/\(∀j (h1:j<p.length) (h2:j<x.length),x[j].f=p[j].f/\x[j].s=p[j].s/\p[j].a<=x[j].a)/\(∀y∈x,zg y)/\x.Pairwise (λa b=>a.a<=b.a)/\zG l x=(x,-1)/\(vF l p=true ↔ x=p):=by
 have e1:(l.map λy=>(y,newB y)).map (·.2)=l.map newB:=by rw [List.map_map];rfl
 have hJ:ZJ (l.map λy=>(y,newB y)) [] 0:=by
  refine ⟨λz hz=>?_,zAV _,by omega,by simp,by simp,List.Pairwise.nil⟩
  obtain ⟨y,hy,rfl⟩:=zAT.1 hz
  exact ⟨akM (hl y hy),zAV _,avV y,rfl⟩
 have hx2:shapeGo p ((l.map λy=>(y,newB y)).map (·.2)) 0 0=(x,-1):=by rw [e1];exact hx
 obtain ⟨i1,i2,i3,i4,i5,i6,i7⟩:=ayH p _ [] 0 0 x hJ hp hx2
 have hfx:vF l x=true:=(ahY h0 x).2 λy hy=>i1 (y,newB y) (zAT.2 ⟨y,hy,rfl⟩)
 refine ⟨hfx,i2,i3,i4,i5,by rw [e1] at i6;exact i6,λhf=>?_,λe=>by rw [<-e];exact hfx⟩
 refine i7 hs (λy hy=>(hp y hy).2.2.2.2.1) λz hz=>?_
 obtain ⟨y,hy,rfl⟩:=zAT.1 hz
 exact (ahY h0 p).1 hf y hy
end Go.Proofs.YtoomffajodheaaaGreatDoor
