/- The proof of ScriptPlays, part FifoM2. Conditions: in each statement. -/
import Derived.Test.YtoomffajodheaaaGreatDoorZPkM
import Derived.Deep.RegionWith
set_option linter.all false
namespace Go.Proofs.YtoomffajodheaaaGreatDoor
open Go.RowKit
set_option maxRecDepth 100000
theorem zK{p:Prop}(h:p:=by kernel_rfl):p:=h
theorem zA8{p:Prop}(h:p:=by simp only [maxLen,zAL,zAg];omega):p:=h
theorem zBF{p:Prop}(h:p:=by simp only [zAL,zAg];omega):p:=h
theorem zBf{p:Prop}(h:p:=by rw [beq_eq_false_iff_ne];omega):p:=h
theorem zCF{p:Prop}(h:p:=by rw [Hf.o]):p:=h
theorem zCv{p:Prop}(h:p:=by rw [hv];rfl):p:=h
theorem zDL{p:Prop}(h:p:=by
 go_wp2_with fail
 refine (hR.some_ j s' hc.mem hc.inv.ok Hpk.o).mono ?_
 rintro e w1 ⟨rfl,own2,hm2,hk2⟩
 have e1:w1.cell? ⟨b,o+j*3+1,none⟩=some (.int .i64 p[j].s):=(hk2.1.cell (p:=⟨b,o+j*3+1,none⟩) hb).trans d1
 have row2:=adP hc.row hk2 (λb hb=>hc.far b hb)
 have far2:=ad5 hc.far hc.row hk2
 have bel2:=hc.bel.trans hk2.1
 have sz2:=bel2.size
 have HF:=zL far2
 clear far2
 go_wp2_with (at_builtin;refine qd _ Sn.cs rfl (.tmp 62) (.tmp 64) 60 rfl w.heap.size 64 i0 (.agg #[.int .i64 0,.int .i64 0,.int .i64 0]) 3 24 Tryz.underlying60 hi0 hz0 hz1 hz2 rfl zO Sn.qw Sn.qV (.slice A' t.out.length c') t.out.length (t.out.flatMap Sn.cs) rfl ((row2.alloc _).alloc _) (w1.heap.size+2) (some ⟨w1.heap.size+1,0,none⟩) 1 [x] rfl (Rd.of_block (qN _ _ _) ((zAu (λy=>[y].flatMap Sn.cs) Hx.o).symm) (Nat.lt_succ_self _) zO Sn.qw) zA8 zBF zA7 ?_;intro v3 w3 row3 g3 at3;obtain ⟨A5,c5,hv5,row3⟩:=qI row3 zO;rw [<-Ho.o] at hv5 row3;have b3:=aaV g3 (xQ row2);have x2:w3.cell? ⟨w1.heap.size,2,none⟩=some (.int .i64 (t.now+per*p[j].s)):=uK b3 2;clear b3;rw [hv5] at at3 ⊢;clear hv5)
 have own_lt2:∀b,own2 b->b<w1.heap.size:=λb hb=>(hR.own_ hm2 b hb).2
 have bel3:Below B w w3:=ql ((bel2.alloc zO _).alloc zA7 _) ((row2.alloc _).alloc _) g3 hB zA7
 have bel3':Below B w1 w3:=ql (((zAA B w1).alloc zO _).alloc zA7 _) ((row2.alloc _).alloc _) g3 hB zA7
 have mem3:=hR.stay hm2 (agW own_lt2 g3 HF.o) bel3'
 have far3:=ajY own_lt2 at3 HF.o
 go_roundw
 case rel=>exact ⟨f - 1,⟨out',t.now+per*p[j].s,k,s'⟩,A5,c5,own2,rfl,rfl,rfl,⟨hout.run.trans Hrun.o,by have:=Hstep.o.2;have:=hout.fuel;omega,Hstep.o.1,row3,bel3,mem3,far3⟩⟩
 case measure=>exact Hstep.o.2):p:=h
theorem zFD{p:Prop}(h:p:=by
 induction r generalizing k s with
 |nil=>rfl
 |cons x r ih=>
  unfold comeL
  split
  ·exact ih (k+1) _
  ·rfl):p:=h
theorem zFZ{p:Prop}(h:p:=by
 by_cases h9:j<t.next
 ·have:=hj.came j h9;omega
 ·have:=hle j zO hj1;omega):p:=h
def zh (B:Nat) (own:Nat->Prop) (w:World) (own':Nat->Prop) (w':World):Prop:=
 Below B w w'/\(∀b,b<w.heap.size->¬own b->w'.heap[b]?=w.heap[b]?)/\∀b,own' b->own b\/w.heap.size<=b
structure afM {σ:Type} (R:Value) (M:Pol σ) (n B:Nat) (Mem:World->(Nat->Prop)->σ->Prop):Prop where
 own_:∀{w own s},Mem w own s->∀b,own b->B<=b/\b<w.heap.size
 stay:∀{w w' own s},Mem w own s->(∀b,own b->w'.heap[b]?=w.heap[b]?)->Below B w w'->Mem w' own s
 come:∀{w own s} (k:Nat),Mem w own s->M.ok k s->k<n->Calls Tryz.prog 278 #[R,.int .i64 k] w λe w'=>e=.returned (.tuple #[])/\∃own',Mem w' own' (M.come s k)/\zh B own w own' w'
 none_:∀{w own s m},Mem w own s->M.ok m s->M.pick s=none->Calls Tryz.prog 279 #[R] w λe w'=>e=.returned (.tuple #[.int .i64 0,.bool false])/\∃own',Mem w' own' s/\zh B own w own' w'
 some_:∀{w own s m} (k:Nat) (s':σ),Mem w own s->M.ok m s->M.pick s=some (k,s')->Calls Tryz.prog 279 #[R] w λe w'=>e=.returned (.tuple #[.int .i64 k,.bool true])/\∃own',Mem w' own' s'/\zh B own w own' w'
 rest:∀{w own s m},Mem w own s->M.ok m s->M.wait s=[]->Calls Tryz.prog 280 #[R] w λe w'=>e=.returned (.tuple #[])/\∃own',Mem w' own' (M.rest s)/\zh B own w own' w'
def lenOf:Value->Nat|.slice _ n _=>n|_=>0
structure a14 {σ:Type} (M:Pol σ) (p:List Pk) (per:Int) (B:Nat) (s0:σ) (w:World) (Mem:World->(Nat->Prop)->σ->Prop) (f:Nat) (t:St σ) (A':Option Addr) (c':Nat) (own:Nat->Prop) (wr:World):Prop where
 run:serveS M p per s0=runS M p per f t
 fuel:mu p t<=f
 inv:Inv M p t
 row:wr.ownsRow w.heap.size 64 3 (.slice A' t.out.length c') t.out.length (t.out.flatMap Sn.cs)
 bel:Below B w wr
 mem:Mem wr own t.s
 far:∀g,(Value.slice A' t.out.length c').ownBlock=some g->¬own g
structure a0N {σ:Type} (M:Pol σ) (p:List Pk) (B:Nat) (w:World) (Mem:World->(Nat->Prop)->σ->Prop) (t:St σ) (A':Option Addr) (c':Nat) (k:Nat) (s:σ) (own:Nat->Prop) (wr:World):Prop where
 run:comeL M t.now (p.drop t.next) t.next t.s=comeL M t.now (p.drop k) k s
 inv:abO M p t.out k s
 row:wr.ownsRow w.heap.size 64 3 (.slice A' t.out.length c') t.out.length (t.out.flatMap Sn.cs)
 bel:Below B w wr
 mem:Mem wr own s
 far:∀g,(Value.slice A' t.out.length c').ownBlock=some g->¬own g
theorem adP {B:Nat} {own own':Nat->Prop} {w w':World} {base:Nat} {e:TypeId} {size:Nat} {v:Value} {n:Nat} {xs:List Value} (h:w.ownsRow base e size v n xs) (hk:zh B own w own' w') (hf:∀g,v.ownBlock=some g->¬own g):w'.ownsRow base e size v n xs:=by
 obtain ⟨h1,h2⟩:=h
 refine ⟨h1,?_⟩
 rcases h2 with h2|⟨g,cap,cur,hv,hg,hh,r⟩
 ·exact .inl h2
 ·refine .inr ⟨g,cap,cur,hv,hg,?_,r⟩
  have hlt:g<w.heap.size:=by
   rcases Nat.lt_or_ge g w.heap.size with h|h
   ·exact h
   ·rw [Array.getElem?_eq_none h] at hh;cases hh
  rw [hk.2.1 g hlt (hf g zCv)]
  exact hh
theorem xQ {w:World} {base:Nat} {e:TypeId} {size:Nat} {v:Value} {n:Nat} {xs:List Value} (h:w.ownsRow base e size v n xs):∀g,v.ownBlock=some g->g<w.heap.size:=by
 intro g hg
 rcases h.2 with ⟨rfl,_⟩|⟨g',cap,cur,rfl,_,hh,_⟩
 ·simp [Value.ownBlock] at hg
 ·have:g'=g:=by simpa [Value.ownBlock] using hg
  subst this
  rcases Nat.lt_or_ge g' w.heap.size with h|h
  ·exact h
  ·rw [Array.getElem?_eq_none h] at hh;cases hh
theorem ad5 {B:Nat} {own own':Nat->Prop} {w w':World} {base:Nat} {e:TypeId} {size:Nat} {v:Value} {n:Nat} {xs:List Value} (hf:∀g,v.ownBlock=some g->¬own g) (h:w.ownsRow base e size v n xs) (hk:zh B own w own' w'):∀g,v.ownBlock=some g->¬own' g:=λg hg ho=>by
 rcases hk.2.2 g ho with h1|h1
 ·exact hf g hg h1
 ·have:=xQ h g hg;omega
theorem akX:(Tryz.prog.info? 64).map (λi=>(i.zero,i.size,i.bytes))=some (some (.agg #[.int .i64 0,.int .i64 0,.int .i64 0]),3,24):=zK
theorem agW {own:Nat->Prop} {w w3:World} {o o2:Obj} {row:Option Nat} (hown:∀b,own b->b<w.heap.size) (g:((w.alloc o).alloc o2).grownBy w3 row) (hf:∀g,row=some g->¬own g):∀b,own b->w3.heap[b]?=w.heap[b]?:=λb hb=>by
 have hlt:=hown b hb
 rw [g.block b zA7 (λe=>hf b e.symm hb),zAr (w.alloc o) o2 _ zA7,zAr w o _ hlt]
theorem ajY {own:Nat->Prop} {w:World} {o o2:Obj} {v v':Value} (hown:∀b,own b->b<w.heap.size) (h:v'.ownBlock=v.ownBlock\/v'.ownBlock=some ((w.alloc o).alloc o2).heap.size) (hf:∀g,v.ownBlock=some g->¬own g):∀g,v'.ownBlock=some g->¬own g:=λg hg ho=>by
 rcases h with h|h
 ·exact hf g (h▸hg) ho
 ·rw [h] at hg
  injection hg with hg
  have:=hown g ho
  simp at hg
  omega
theorem qy {B:Nat} {own own1 own2:Nat->Prop} {w w1 w2:World} (h:zh B own w own1 w1) (k:zh B own1 w1 own2 w2):zh B own w own2 w2:=
 ⟨h.1.trans k.1,λb hb ho=>(k.2.1 b (zAG hb h.1.size) (λh1=>by
  rcases h.2.2 b h1 with h2|h2
  ·exact ho h2
  ·omega)).trans (h.2.1 b hb ho),λb hb=>by
  rcases k.2.2 b hb with h1|h1
  ·exact h.2.2 b h1
  ·exact .inr (zAB h.1.size h1)⟩
theorem qB (B:Nat) (own:Nat->Prop) (w:World):zh B own w own w:=⟨zAA _ _,λ_ _ _=>rfl,λ_ hb=>.inl hb⟩
theorem zJ {B:Nat} {own:Nat->Prop} {w w1:World} (h:zh B own w own w1) {a:Addr} (ha:own a.block) (hB:B<=a.block) (u:Value):zh B own w own (w1.setCell a u):=
 ⟨h.1.setCell hB u,λb hb ho=>(zAF w1 a u b (λe=>ho (e▸ha))).trans (h.2.1 b hb ho),λ_ hb=>.inl hb⟩
theorem qQ {B:Nat} {own:Nat->Prop} {w w1:World} (h:zh B own w own w1) (hB:B<=w1.heap.size) (o:Obj):zh B own w own (w1.alloc o):=
 ⟨h.1.alloc hB o,λb hb ho=>(zAr w1 o b (zAG hb h.1.size)).trans (h.2.1 b hb ho),λ_ hb=>.inl hb⟩
theorem as4 (R:Value) (w:World):(method 451 262 R "floodgate/fifo.come").run Tryz.prog w=.ok (278,R) w:=zK
theorem as3 (R:Value) (w:World):(method 451 262 R "floodgate/fifo.pick").run Tryz.prog w=.ok (279,R) w:=zK
theorem as2 (R:Value) (w:World):(method 451 262 R "floodgate/fifo.rest").run Tryz.prog w=.ok (280,R) w:=zK
set_option maxHeartbeats 2000000 in
theorem adG {σ:Type} {M:Pol σ} {R:Value} {Mem:World->(Nat->Prop)->σ->Prop} (A:Option Addr) (c:Nat) (p:List Pk) (per:Int) (B:Nat) (s0:σ) (own0:Nat->Prop) (w:World) (hB:B<=w.heap.size) (h:RdP w B A p)
 (hp:∀x∈p,zg x) (hl:p.length<=300) (h0:1<=per) (h1:per<=1000) (hM:wL M p.length) (hR:afM R M p.length B Mem) (hm:Mem w own0 s0) (hw0:M.wait s0=[]) (hok:M.ok 0 s0):
 Calls Tryz.prog 176 #[.slice A p.length c,.int .i64 per,.iface 262 R] w λe w'=>∃A' c' own',e=.returned (.slice A' (serveS M p per s0).out.length c')/\
  w'.ownsRow w.heap.size 64 3 (.slice A' (serveS M p per s0).out.length c') (serveS M p per s0).out.length ((serveS M p per s0).out.flatMap Sn.cs)/\Below B w w'/\Mem w' own' (serveS M p per s0).s:=by
 have m1:=λwx=>as4 R wx
 have m2:=λwx=>as3 R wx
 have m3:=λwx=>as2 R wx
 go_enter Tryz.func176,Tryz.ntmps176
 go_wp2
 go_loopw [7,8,9] (λv nw nx wr=>∃(f:Nat) (t:St σ) (A':Option Addr) (c':Nat) (own:Nat->Prop),v=.slice A' t.out.length c'/\nw=.int .i64 t.now/\nx=.int .i64 t.next/\a14 M p per B s0 w Mem f t A' c' own wr)
  (λv nw _ _=>muV p (lenOf v) (intOf nw))
 case atStart=>exact ⟨_,⟨[],0,0,s0⟩,none,0,own0,rfl,rfl,rfl,⟨rfl,uI p s0,wh p hw0 hok,⟨by simp,.inl ⟨rfl,rfl⟩⟩,zAA _ _,hm,by simp [Value.ownBlock]⟩⟩
 case round=>
  obtain ⟨f,t,A',c',own,rfl,rfl,rfl,hout⟩:=hrel
  have n0:=hout.inv.now0
  have n1:=hout.inv.now1
  have hcnt:=hout.inv.toC.cnt
  have hnl:=hout.inv.next_le
  by_cases hlt:t.out.length<p.length
  ·obtain ⟨wo,rfl⟩:∃wo:World,wo=wr:=⟨_,rfl⟩
   go_wp2_with fail
   go_loopw [9] (λnx wr=>∃(k:Nat) (s:σ) (own:Nat->Prop),nx=.int .i64 k/\a0N M p B w Mem t A' c' k s own wr) (λnx _=>p.length - (intOf nx).toNat)
   case atStart=>exact ⟨t.next,t.s,own,rfl,⟨rfl,hout.inv.toC,hout.row,hout.bel,hout.mem,hout.far⟩⟩
   case round=>
    obtain ⟨k,s,own1,rfl,hc⟩:=hrel
    by_cases hk:k<p.length/\aOf p k<=t.now
    ·obtain ⟨hk1,hk2⟩:=hk
     rw [zy hk1] at hk2
     obtain ⟨b,o,rfl,hb,d0,d1,d2⟩:=RdP.get (h.below hc.bel) hk1
     have hd:p.drop k=p[k]::p.drop (k+1):=zAE hk1
     have Hrun:=zM (comeL M t.now (p.drop t.next) t.next t.s=comeL M t.now (p.drop (k+1)) (k+1) (M.come s k)) (by rw [hc.run,hd];exact zp hk2)
     clear hd
     go_wp2_with fail
     refine (hR.come k hc.mem hc.inv.ok hk1).mono ?_
     rintro e w1 ⟨rfl,own2,hm2,hk2⟩
     go_wp2_with fail
     go_roundw
     case rel=>exact ⟨k+1,_,own2,by go_num,⟨Hrun.o,hc.inv.come hM hk1,adP hc.row hk2 (λb hb=>hc.far b hb),hc.bel.trans hk2.1,hm2,ad5 hc.far hc.row hk2⟩⟩
     case measure=>simp [intOf];omega
    ·have hk':k<p.length->t.now<aOf p k:=λh1=>by
      have:=λh2=>hk ⟨h1,h2⟩
      omega
     have hq:=hc.run.trans (afE M p t.now k s hk')
     have hstep:=kF hM hp h0 h1 hout.inv hlt
     have hrun:=jU M p per f t hlt hout.fuel
     cases hpk:M.pick s with
     |none=>
      have hid:=hc.inv.idle hM hpk
      have hkl:k<p.length:=zO
      have hnow:=hk' hkl
      rw [zy hkl] at hnow
      have hw:=hM.w_none _ _ hc.inv.ok hpk
      rw [uQ hq hpk] at hstep hrun
      obtain ⟨b,o,rfl,hb,d0,d1,d2⟩:=RdP.get (h.below hc.bel) hkl
      have Hw:=zL hw
      have Hpk:=zL hpk
      have Hid_:=zL hid
      have Hstep:=zL hstep
      have Hrun:=zL hrun
      clear hw hpk hid hstep hrun hq hk' hk
      go_wp2_with fail
      refine (hR.none_ hc.mem hc.inv.ok Hpk.o).mono ?_
      rintro e w1 ⟨rfl,own2,hm2,hk2⟩
      go_wp2_with fail
      refine (hR.rest hm2 hc.inv.ok Hw.o).mono ?_
      rintro e w2 ⟨rfl,own3,hm3,hk3⟩
      have kk:=qy hk2 hk3
      have d2':w2.cell? ⟨b,o+k*3+2,none⟩=some (.int .i64 p[k].a):=(kk.1.cell (p:=⟨b,o+k*3+2,none⟩) hb).trans d2
      go_wp2_with fail
      have far3:=ad5 hc.far hc.row kk
      have row3:=adP hc.row kk (λb hb=>hc.far b hb)
      go_roundw
      case rel=>exact ⟨f - 1,⟨t.out,aOf p k,k,M.rest s⟩,A',c',own3,rfl,by rw [zy hkl],rfl,⟨hout.run.trans Hrun.o,by have:=Hstep.o.2;have:=hout.fuel;omega,Hstep.o.1,row3,hc.bel.trans kk.1,hm3,far3⟩⟩
      case measure=>
           have h9:=Hstep.o.2
           unfold mu at h9
           simp only [zy hkl] at h9
           exact h9
     |some js=>
      obtain ⟨j,s'⟩:=js
      have hjl:j<p.length:=zAG (hc.inv.aa6 hM hpk) hc.inv.k_le
      rw [vS hq hpk,yA hjl] at hstep hrun
      obtain ⟨b,o,rfl,hb,d0,d1,d2⟩:=RdP.get (h.below hc.bel) hjl
      have hokj:=hp _ (zd hjl)
      have q1:0<=per*p[j].s:=zAY zO (by have:=hokj.2.2.1;omega)
      have q2:per*p[j].s<=1500000:=by
           have:=Int.mul_le_mul h1 hokj.2.2.2.1 (by have:=hokj.2.2.1;omega) (by omega:(0:Int)<=1000)
           omega
      obtain ⟨x,hx⟩:∃x:Sn,x=⟨j,t.now,t.now+per*p[j].s⟩:=⟨_,rfl⟩
      rw [<-hx] at hstep hrun
      obtain ⟨out',hout'⟩:∃out',out'=t.out++[x]:=⟨_,rfl⟩
      rw [<-hout'] at hstep hrun
      have Hx:=zL hx
      have Ho:=zL hout'
      have Hpk:=zL hpk
      have Hstep:=zL hstep
      have Hrun:=zL hrun
      have Hk:=zL hk'
      clear hpk hstep hrun hq hk' hk hokj hx hout'
      have hgo:(k<p.length/\t.now<aOf p k)\/p.length<=k:=by
           rcases Nat.lt_or_ge k p.length with h9|h9
           ·exact .inl ⟨h9,Hk.o h9⟩
           ·exact .inr h9
      obtain ⟨i0,hi0,hz0,hz1,hz2⟩:=info_parts akX
      rcases hgo with ⟨hg1,hg2⟩|hg1
      ·rw [zy hg1] at hg2
       obtain ⟨b',o',he,hb',f0,f1,f2⟩:=RdP.get (h.below hc.bel) hg1
       simp only [zAC,zAS,and_true] at he
       obtain ⟨rfl,rfl⟩:=he
       exact zDL
      ·exact zDL
  ·have e:=zL (hout.run.trans (acB M p per f t hlt))
   go_wp2
   go_ret
   rw [e.o]
   exact ⟨A',c',own,rfl,hout.row,hout.bel,hout.mem⟩
def fifoM:Pol (Nat × Nat) where
 come s _:=(s.1+1,s.2)
 pick s:=if s.2=s.1 then none else some (s.2,(s.1,s.2+1))
 rest s:=s
 wait s:=List.range' s.2 (s.1 - s.2)
 ok k s:=s.1=k/\s.2<=s.1
theorem ah0 (n:Nat):wL fifoM n where
 ok_come:=λs k ⟨h1,h2⟩ _=>⟨by show s.1+1=k+1;omega,by show s.2<=s.1+1;omega⟩
 ok_pick:=λs m k s' ⟨h1,h2⟩ hp=>by
  simp only [fifoM] at hp
  split at hp
  ·cases hp
  ·simp only [zAC,Prod.mk.injEq] at hp
   obtain ⟨_,rfl⟩:=hp
   exact ⟨h1,by show s.2+1<=s.1;omega⟩
 ok_rest:=λs m h _=>h
 w_come:=λs k ⟨h1,h2⟩ _=>by
  show (List.range' s.2 (s.1+1 - s.2)).Perm (k::List.range' s.2 (s.1 - s.2))
  rw [show s.1+1 - s.2=(s.1 - s.2)+1 by omega,List.range'_1_concat,show s.2+(s.1 - s.2)=k by omega]
  exact List.perm_append_comm (l₂:=[k])
 w_none:=λs m ⟨h1,h2⟩ hp=>by
  simp only [fifoM] at hp ⊢
  split at hp
  ·rename_i h;rw [h,Nat.sub_self];rfl
  ·cases hp
 w_some:=λs m k s' ⟨h1,h2⟩ hp=>by
  simp only [fifoM] at hp ⊢
  split at hp
  ·cases hp
  ·simp only [zAC,Prod.mk.injEq] at hp
   obtain ⟨rfl,rfl⟩:=hp
   simp only
   rw [show s.1 - s.2=(s.1 - (s.2+1))+1 by omega,List.range'_succ]
 w_rest:=λs m _ h=>h
def ajX (b1 b2:Nat):Value:=.agg #[.func (.func 190) #[] #[.pointer (some ⟨b1,0,none⟩)],.func (.func 191) #[] #[.pointer (some ⟨b2,0,none⟩),.pointer (some ⟨b1,0,none⟩)],.nilFunc]
structure aeJ (B b1 b2:Nat) (w:World) (own:Nat->Prop) (s:Nat × Nat):Prop where
 c:Blk w b1 3 #[.int .i64 s.1]
 d:Blk w b2 3 #[.int .i64 s.2]
 h1:B<=b1
 h2:B<=b2
 ne:b1≠b2
 le:s.1<=300
 o:∀b,own b ↔ b=b1\/b=b2
theorem avO (b1:Nat) (m k:Int) (w:World) (h:Blk w b1 3 #[.int .i64 m]) (h0:0<=m) (h1:m<=300):
 Calls Tryz.prog 190 #[.int .i64 k,.pointer (some ⟨b1,0,none⟩)] w λe w'=>e=.returned (.tuple #[])/\w'=w.setCell ⟨b1,0,none⟩ (.int .i64 (m+1)):=by
 have c0:w.cell? ⟨b1,0,none⟩=some (.int .i64 m):=h.cell 0
 have c1:=h.frozen 0
 go_enter Tryz.func190,Tryz.ntmps190
 go_wp2
 go_end0
 exact ⟨rfl,rfl⟩
theorem asB (b1 b2:Nat) (m:Int) (w:World) (h:Blk w b1 3 #[.int .i64 m]) (h':Blk w b2 3 #[.int .i64 m]):
 Calls Tryz.prog 191 #[.pointer (some ⟨b2,0,none⟩),.pointer (some ⟨b1,0,none⟩)] w λe w'=>e=.returned (.tuple #[.int .i64 0,.bool false])/\w=w':=by
 have c0:w.cell? ⟨b1,0,none⟩=some (.int .i64 m):=h.cell 0
 have c1:w.cell? ⟨b2,0,none⟩=some (.int .i64 m):=h'.cell 0
 go_enter Tryz.func191,Tryz.ntmps191
 go_wp2_with fail
 go_ret2
 exact ⟨rfl,rfl⟩
theorem asA (b1 b2:Nat) (m n:Int) (w:World) (_hne:b1≠b2) (h:Blk w b1 3 #[.int .i64 m]) (h':Blk w b2 3 #[.int .i64 n]) (h0:0<=n) (h1:n<m) (h2:m<=300):
 Calls Tryz.prog 191 #[.pointer (some ⟨b2,0,none⟩),.pointer (some ⟨b1,0,none⟩)] w λe w'=>e=.returned (.tuple #[.int .i64 n,.bool true])/\w.setCell ⟨b2,0,none⟩ (.int .i64 (n+1))=w':=by
 have c0:w.cell? ⟨b1,0,none⟩=some (.int .i64 m):=h.cell 0
 have c1:w.cell? ⟨b2,0,none⟩=some (.int .i64 n):=h'.cell 0
 have c2:=h'.frozen 0
 have hb:(n==m)=false:=zBf
 go_enter Tryz.func191,Tryz.ntmps191
 go_wp2_with fail
 go_ret2
 exact ⟨by first |rfl|(simp;omega),rfl⟩
theorem ad4 {B b1 b2:Nat} {own:Nat->Prop} {w:World} {s:Nat × Nat} (h:aeJ B b1 b2 w own s) (o:Obj):aeJ B b1 b2 (w.alloc o) own s:=⟨h.c.alloc o,h.d.alloc o,h.h1,h.h2,h.ne,h.le,h.o⟩
theorem ad3 {B b1 b2:Nat} {own:Nat->Prop} {w:World} {s:Nat × Nat} (h:aeJ B b1 b2 w own s):B<=w.heap.size:=zAB h.h1 (Nat.le_of_lt h.c.lt)
theorem aaH (w:World):(binOp .neq 1 .nilFunc .nilFunc).run Tryz.prog w=.ok (.bool false) w:=zK
theorem apJ (B b1 b2 n:Nat) (hn:n<=300):afM (ajX b1 b2) fifoM n B (aeJ B b1 b2) where
 own_:=fun {w own s} h b hb=>by
  rcases (h.o b).1 hb with rfl|rfl
  ·exact ⟨h.h1,h.c.lt⟩
  ·exact ⟨h.h2,h.d.lt⟩
 stay:=fun {w w' own s} h hs _=>⟨h.c.same (hs b1 ((h.o b1).2 (.inl rfl))),h.d.same (hs b2 ((h.o b2).2 (.inr rfl))),h.h1,h.h2,h.ne,h.le,h.o⟩
 come:=fun {w own s} k h ⟨hk1,hk2⟩ hk=>by
  obtain ⟨c,d⟩:=s
  subst hk1
  simp only at hk hk2
  have hB:=ad3 h
  have hc:Blk w b1 3 #[.int .i64 c]:=h.c
  unfold ajX
  go_enter Tryz.func278,Tryz.ntmps278
  go_wp2_with fail
  refine (avO b1 c _ _ (hc.alloc _) zO zO).mono ?_
  rintro e w1 ⟨rfl,rfl⟩
  go_wp2_with fail
  go_end0
  refine ⟨rfl,own,⟨(hc.alloc _).qi 0 _,(h.d.alloc _).far (p:=⟨b1,0,none⟩) h.ne.symm _,h.h1,h.h2,h.ne,by show c+1<=300;omega,h.o⟩,?_⟩
  exact zJ (a:=⟨b1,0,none⟩) (qQ (qB _ _ _) hB _) ((h.o b1).2 (.inl rfl)) h.h1 _
 none_:=fun {w own s m} h ⟨hk1,hk2⟩ hp=>by
  obtain ⟨c,d⟩:=s
  have hcd:d=c:=by
   simp only [fifoM] at hp
   split at hp
   ·assumption
   ·cases hp
  subst hcd
  have hB:=ad3 h
  have hc:Blk w b1 3 #[.int .i64 d]:=h.c
  have hd:Blk w b2 3 #[.int .i64 d]:=h.d
  clear hp hk1 hk2
  unfold ajX
  go_enter Tryz.func279,Tryz.ntmps279
  go_wp2_with fail
  refine (asB b1 b2 d _ (hc.alloc _) (hd.alloc _)).mono ?_
  rintro e w1 ⟨rfl,rfl⟩
  go_wp2_with fail
  go_ret2
  exact ⟨rfl,own,ad4 h _,qQ (qB _ _ _) hB _⟩
 some_:=fun {w own s m} k s' h ⟨hk1,hk2⟩ hp=>by
  obtain ⟨c,d⟩:=s
  have hcd:d≠c/\d=k/\s'=(c,d+1):=by
   simp only [fifoM] at hp
   split at hp
   ·cases hp
   ·simp only [zAC,Prod.mk.injEq] at hp
    exact ⟨by assumption,hp.1,hp.2.symm⟩
  obtain ⟨hne,rfl,rfl⟩:=hcd
  simp only at hk1 hk2
  have hB:=ad3 h
  have hc:Blk w b1 3 #[.int .i64 c]:=h.c
  have hd:Blk w b2 3 #[.int .i64 d]:=h.d
  have hlt:d<c:=zO
  have hcn:c<=300:=h.le
  clear hp hk1 hk2 hne
  unfold ajX
  go_enter Tryz.func279,Tryz.ntmps279
  go_wp2_with fail
  refine (asA b1 b2 c d _ h.ne (hc.alloc _) (hd.alloc _) zO zO zO).mono ?_
  rintro e w1 ⟨rfl,rfl⟩
  go_wp2_with fail
  go_ret2
  refine ⟨rfl,own,⟨(hc.alloc _).far (p:=⟨b2,0,none⟩) h.ne _,(hd.alloc _).qi 0 _,h.h1,h.h2,h.ne,h.le,h.o⟩,?_⟩
  exact zJ (a:=⟨b2,0,none⟩) (qQ (qB _ _ _) hB _) ((h.o b2).2 (.inr rfl)) h.h2 _
 rest:=fun {w own s m} h hok hw=>by
  have hB:=ad3 h
  have f1:=aaH
  unfold ajX
  go_enter Tryz.func280,Tryz.ntmps280
  go_wp2_with fail
  go_end0
  exact ⟨rfl,own,ad4 h _,qQ (qB _ _ _) hB _⟩
def af5 (p:List Pk) (per:Int):List Sn:=(serveS fifoM p per (0,0)).out
def yE {α:Type} (f:α->List Value) (sz e:Nat) (l:List α) (S:Nat->Addr) (k:Nat) (a:Int) (w:World) (en:Ending) (w':World):Prop:=
 ∃A c v,en=.returned (.tuple #[.slice A l.length c,v])/\w'.ownsRow w.heap.size e sz (.slice A l.length c) l.length (l.flatMap f)/\Er w' w'.heap.size S v k a/\Below w.heap.size w w'
theorem zI {p:List Pk} {per:Int} (h:(qm p per).1=0):qm p per=(0,-1)/\p.length<=300/\(∀x∈p,zg x)/\1<=per/\per<=1000:=by
 unfold qm at h ⊢
 by_cases h1:(qj p).1≠0
 ·rw [zp h1] at h;exact zAv h h1
 ·rw [z6 h1] at h ⊢
  by_cases h2:per<1\/1000<per
  ·rw [zp h2] at h;simp at h
  ·rw [z6 h2]
   have h3:(qj p).1=0:=zO
   refine ⟨rfl,?_,xC h3,by omega,by omega⟩
   unfold qj at h3
   by_cases h4:300<p.length
   ·rw [zp h4] at h3;simp at h3
   ·omega
set_option maxHeartbeats 1000000 in
theorem ahZ (A:Option Addr) (c:Nat) (p:List Pk) (per:Int) (S:Nat->Addr) (w:World) (B:Nat) (hB:B<=w.heap.size) (h:RdP w B A p) (hS:Snt w B S [2,5]) (hl:p.length<=9223372036854775807) (hok:(qm p per).1=0):
 Calls Tryz.prog 169 #[.slice A p.length c,.int .i64 per] w (yE Sn.cs 3 64 (af5 p per) S (qm p per).1 (qm p per).2 w):=by
 obtain ⟨hf,h300,hpk,h0,h1⟩:=zI hok
 have Hf:=zL hf
 clear hf hok
 go_enter Tryz.func169,Tryz.ntmps169
 go_wp2_with fail
 refine (xK A c p per S _ B hB h hS hl).mono ?_
 rintro e w1 ⟨v,rfl,hv,hb1⟩
 obtain rfl:=hv.qK zCF
 have z1:=hb1.size
 go_wp2_with fail
 have hbel:Below w1.heap.size w1 ((w1.alloc (.cells #[.int .i64 0] 3)).alloc (.cells #[.int .i64 0] 3)):=((zAA _ _).alloc (zD _) _).alloc zA1 _
 refine (adG (R:=ajX w1.heap.size (w1.heap.size+1)) (M:=fifoM) (Mem:=aeJ w1.heap.size w1.heap.size (w1.heap.size+1)) A c p per w1.heap.size (0,0) (λb=>b=w1.heap.size\/b=w1.heap.size+1) _ hbel.size
  (((h.below (hb1.mono hB)).more (zAB hB z1)).below hbel) hpk h300 h0 h1 (ah0 _) (apJ _ _ _ _ h300) ⟨(Blk.new _ _ _).alloc _,qN _ _ _,zD _,Nat.le_succ _,by simp,by simp,λb=>Iff.rfl⟩ rfl ⟨rfl,zD _⟩).mono ?_
 rintro e w2 ⟨A',c',own',rfl,row,hb2,_⟩
 go_wp2_with fail
 go_ret2
 rw [Hf.o]
 exact ⟨A',c',_,rfl,qO row (zAB z1 hbel.size),.nil,hb1.trans ((hbel.trans hb2).mono z1)⟩
theorem amO (A:Option Addr) (c:Nat) (p:List Pk) (per:Int) (S:Nat->Addr) (w:World) (B:Nat) (hB:B<=w.heap.size) (h:RdP w B A p) (hS:Snt w B S [2,5]) (hl:p.length<=9223372036854775807) (hok:(qm p per).1≠0):
 Calls Tryz.prog 169 #[.slice A p.length c,.int .i64 per] w (yE Sn.cs 3 64 [] S (qm p per).1 (qm p per).2 w):=by
 have H1:=zL hok
 clear hok
 go_enter Tryz.func169,Tryz.ntmps169
 go_wp2_with fail
 refine (xK A c p per S _ B hB h hS hl).mono ?_
 rintro e w1 ⟨v,rfl,hv,hb1⟩
 obtain ⟨T,a,rfl⟩:=hv.qW H1.o
 go_wp2_with fail
 go_ret2
 exact ⟨none,0,_,rfl,⟨by simp,.inl ⟨rfl,rfl⟩⟩,hv,hb1⟩
def kR (per:Int):Int->Nat->List Pk->List Sn
 |_,_,[]=>[]
 |to,k,x::r=>⟨k,if to<x.a then x.a else to,(if to<x.a then x.a else to)+per*x.s⟩::kR per ((if to<x.a then x.a else to)+per*x.s) (k+1) r
theorem apV (now:Int) (r:List Pk) (k:Nat) (s:Nat × Nat):(comeL fifoM now r k s).2.2=s.2:=zFD
theorem ah7 {σ:Type} (M:Pol σ) (now:Int) (r:List Pk) (k:Nat) (s:σ):k<=(comeL M now r k s).1:=by
 induction r generalizing k s with
 |nil=>exact zD _
 |cons x r ih=>
  unfold comeL
  split
  ·exact zAB (Nat.le_succ k) (ih (k+1) _)
  ·exact zD _
theorem amX {σ:Type} (M:Pol σ) (p:List Pk) (now:Int) (r:List Pk) (k:Nat) (s:σ) (hr:p.drop k=r):∀j,k<=j->j<(comeL M now r k s).1->aOf p j<=now:=by
 induction r generalizing k s with
 |nil=>intro j h1 h2;simp only [comeL] at h2;omega
 |cons x r ih=>
  have hk:k<p.length:=zEz
  have hd:=zAE hk
  rw [hr] at hd
  injection hd with hx hr'
  unfold comeL
  by_cases hc:x.a<=now
  ·rw [zp hc]
   intro j h1 h2
   rcases Nat.eq_or_lt_of_le h1 with rfl|h3
   ·rw [zy hk,<-hx];exact hc
   ·exact ih (k+1) (M.come s k) hr'.symm j h3 h2
  ·rw [z6 hc]
   intro j h1 h2
   simp only at h2
   omega
structure ax9 (p:List Pk) (per:Int) (t:St (Nat × Nat)):Prop where
 s2:t.s.2=t.out.length
 came:∀j,j<t.next->aOf p j<=t.now
 eq:kR per 0 0 p=t.out++kR per t.now t.out.length (p.drop t.out.length)
theorem at6 {p:List Pk} {per:Int} (hp:∀x∈p,zg x) (h0:1<=per) (t:St (Nat × Nat)) (h:Inv fifoM p t) (hlt:t.out.length<p.length) (hj:ax9 p per t):ax9 p per (yG fifoM p per t):=by
 obtain ⟨hc,hlt2⟩:=yF (ah0 _) t.now (p.drop t.next) t.next t.s rfl h.toC
 have e2:=apV t.now (p.drop t.next) t.next t.s
 have hge:=ah7 fifoM t.now (p.drop t.next) t.next t.s
 have hle:=amX fifoM p t.now (p.drop t.next) t.next t.s rfl
 unfold yG
 generalize comeL fifoM t.now (p.drop t.next) t.next t.s=q at hc hlt2 e2 hge hle
 have hq1:q.2.1=q.1:=hc.ok.1
 have hd:=zAE hlt
 have eq:=hj.eq
 rw [hd] at eq
 have ea:=zy hlt
 have es:=yA hlt
 have hs2:=hj.s2
 by_cases hpk:q.2.2=q.2.1
 ·have hp2:fifoM.pick q.2=none:=zp hpk
  rw [hp2]
  have hm:q.1=t.out.length:=zO
  have hnow:=hlt2 zO
  refine ⟨by show q.2.2=t.out.length;omega,?_,?_⟩
  ·intro j hjj
   show aOf p j<=aOf p q.1
   have hj1:j<q.1:=hjj
   exact zFZ
  ·show _=t.out++kR per (aOf p q.1) t.out.length (p.drop t.out.length)
   rw [eq,hd,hm,ea]
   rw [hm,ea] at hnow
   simp only [kR]
   rw [zp hnow,z6 (Int.lt_irrefl _)]
 ·have hp2:fifoM.pick q.2=some (q.2.2,(q.2.1,q.2.2+1)):=z6 hpk
  rw [hp2]
  have hok2:=hc.ok.2
  have hm:q.2.2=t.out.length:=zO
  have hcame:aOf p t.out.length<=t.now:=by
   by_cases h9:t.out.length<t.next
   ·exact hj.came _ h9
   ·exact hle _ zO zO
  have hx:=hp _ (zd hlt)
  have m1:0<=per*sOf p t.out.length:=zAY zO (by rw [es];have:=hx.2.2.1;omega)
  refine ⟨by show q.2.2+1=_;simp;omega,?_,?_⟩
  ·intro j hjj
   show aOf p j<=t.now+per*sOf p q.2.2
   have hj1:j<q.1:=hjj
   rw [hm]
   exact zFZ
  ·show _=(t.out++[⟨(q.2.2:Int),t.now,t.now+per*sOf p q.2.2⟩])++kR per (t.now+per*sOf p q.2.2) (t.out++[_]).length (p.drop (t.out++[_]).length)
   rw [eq,hm,zAi]
   congr 1
   simp only [kR,zAP,zAL,zAg]
   rw [ea] at hcame
   rw [z6 zO,es]
   rfl
theorem aw6 {p:List Pk} {per:Int} (hp:∀x∈p,zg x) (h0:1<=per) (h1:per<=1000):af5 p per=kR per 0 0 p:=by
 have hi:Inv fifoM p ⟨[],0,0,(0,0)⟩:=wh p rfl ⟨rfl,zD _⟩
 have hj:=acA (ah0 _) hp h0 h1 (ax9 p per) (λt a b c=>at6 hp h0 t a b c) (2*p.length+1) _ hi ⟨rfl,λj hj=>by simp at hj,rfl⟩
 have hl:=(adI (ah0 _) hp h0 h1 (2*p.length+1) _ hi (uI p (0,0)) (zAK _)).2
 have:=hj.eq
 rw [hl,zAO (zD _)] at this
 show (serveS fifoM p per (0,0)).out=_
 rw [this]
 simp [serveS,kR]
end Go.Proofs.YtoomffajodheaaaGreatDoor
