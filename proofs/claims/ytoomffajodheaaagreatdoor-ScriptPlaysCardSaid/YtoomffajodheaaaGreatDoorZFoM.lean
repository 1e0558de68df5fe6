/- The proof of ScriptPlays, part FoM. Conditions: in each statement. -/
import Derived.Test.YtoomffajodheaaaGreatDoorZFrB
set_option linter.all false
namespace Go.Proofs.YtoomffajodheaaaGreatDoor
open Go.RowKit
set_option maxRecDepth 100000
theorem zBW{p:Prop}(h:p:=by have:=Hm3.o.tg.cell hbl;rwa [show (yQ p ws s k).tg bb=s.tg bb from qx _ _ hne] at this):p:=h
theorem zBb{p:Prop}(h:p:=by rw [zAX,TI.o,TB.o];exact Int.not_lt.1 hkk):p:=h
theorem zB4{p:Prop}(h:p:=by have:=HI.o.b.lt;omega):p:=h
theorem zC5{p:Prop}(h:p:=by have:=m3.cm.cell hil;rwa [zAI (Nat.lt_succ_self k)] at this):p:=h
theorem zDH{p:Prop}(h:p:=by
 have HF:=zL (HI.o.f.skip (.inr (Int.not_lt.1 hf0)))
 have hf1:0<=first:=Int.not_lt.1 hf0
 clear hf0
 by_cases hb0:best<0
 ·have HB:=zL (HBC.o.zU HD.o HA.o (.inl hb0))
  go_wp2_with fail
  go_quiet (fail)
  rename Nat=>nq
  go_wp2_with fail
  go_roundw
  case rel=>exact ⟨k+1,k+1,yQ p ws s k,k,first,hil,by go_num,rfl,rfl,⟨CT.o,SV.o,HB.o,HF.o⟩,Hm3.o.drewN nq⟩
  case measure=>simp [intOf];omega
 ·obtain ⟨bb,rfl⟩:∃bb:Nat,best=bb:=⟨best.toNat,by omega⟩
  have hbi:bb<k:=zB4
  have hbl:bb<p.length:=zO
  have hne:bb≠k:=zO
  have tb:(W2.setCell ⟨gL,fl,none⟩ (.int .i64 tt)).cell? ⟨gT,bb,none⟩=some (.int .i64 (s.tg bb)):=zBW
  have TB:=zM ((yQ p ws s k).tg bb=s.tg bb) (qx _ _ hne)
  clear hne
  have r1:(0:Int)<=(bb:Int):=zO
  have r2:(bb:Int)<(p.length:Int):=zO
  have R0:=zM (decide ((bb:Int)<0)=false) (zAH zO)
  clear hb0 hbi hbl
  by_cases hkk:tt<s.tg bb
  ·have HB:=zL (HBC.o.zU HD.o HA.o (.inr ⟨zAf _,by rw [zAX,TI.o,TB.o];exact hkk⟩))
   go_wp2_with fail
   have r0:=R0.o
   go_quiet (fail)
   rename Nat=>nq
   go_wp2_with fail
   go_roundw
   case rel=>exact ⟨k+1,k+1,yQ p ws s k,k,first,hil,by go_num,rfl,rfl,⟨CT.o,SV.o,HB.o,HF.o⟩,Hm3.o.drewN nq⟩
   case measure=>simp [intOf];omega
  ·have HB:=zL (HBC.o.keep (zAf _) zBb)
   have RK:=zM (decide (tt<s.tg bb)=false) (zAH hkk)
   clear hkk
   go_wp2_with fail
   have r0:=R0.o
   have rk:=RK.o
   go_quiet (fail)
   rename Nat=>nq
   go_wp2_with fail
   go_roundw
   case rel=>exact ⟨k+1,k+1,yQ p ws s k,bb,first,hil,by go_num,rfl,rfl,⟨CT.o,SV.o,HB.o,HF.o⟩,Hm3.o.drewN nq⟩
   case measure=>simp [intOf];omega):p:=h
theorem zDJ{p:Prop}(h:p:=by
 by_cases hb0:best<0
 ·have HB:=zL (HBC.o.zU HD.o HA.o (.inl hb0))
  go_wp2_with fail
  go_quiet (fail)
  rename Nat=>nq
  go_wp2_with fail
  go_roundw
  case rel=>exact ⟨k+1,k+1,yQ p ws s k,k,k,hil,by go_num,rfl,rfl,⟨CT.o,SV.o,HB.o,HF.o⟩,Hm3.o.drewN nq⟩
  case measure=>simp [intOf];omega
 ·obtain ⟨bb,rfl⟩:∃bb:Nat,best=bb:=⟨best.toNat,by omega⟩
  have hbi:bb<k:=zB4
  have hbl:bb<p.length:=zO
  have hne:bb≠k:=zO
  have tb:(W2.setCell ⟨gL,fl,none⟩ (.int .i64 tt)).cell? ⟨gT,bb,none⟩=some (.int .i64 (s.tg bb)):=zBW
  have TB:=zM ((yQ p ws s k).tg bb=s.tg bb) (qx _ _ hne)
  clear hne
  have r1:(0:Int)<=(bb:Int):=zO
  have r2:(bb:Int)<(p.length:Int):=zO
  have R0:=zM (decide ((bb:Int)<0)=false) (zAH zO)
  clear hb0 hbi hbl
  by_cases hkk:tt<s.tg bb
  ·have HB:=zL (HBC.o.zU HD.o HA.o (.inr ⟨zAf _,by rw [zAX,TI.o,TB.o];exact hkk⟩))
   go_wp2_with fail
   have r0:=R0.o
   go_quiet (fail)
   rename Nat=>nq
   go_wp2_with fail
   go_roundw
   case rel=>exact ⟨k+1,k+1,yQ p ws s k,k,k,hil,by go_num,rfl,rfl,⟨CT.o,SV.o,HB.o,HF.o⟩,Hm3.o.drewN nq⟩
   case measure=>simp [intOf];omega
  ·have HB:=zL (HBC.o.keep (zAf _) zBb)
   have RK:=zM (decide (tt<s.tg bb)=false) (zAH hkk)
   clear hkk
   go_wp2_with fail
   have r0:=R0.o
   have rk:=RK.o
   go_quiet (fail)
   rename Nat=>nq
   go_wp2_with fail
   go_roundw
   case rel=>exact ⟨k+1,k+1,yQ p ws s k,bb,k,hil,by go_num,rfl,rfl,⟨CT.o,SV.o,HB.o,HF.o⟩,Hm3.o.drewN nq⟩
   case measure=>simp [intOf];omega):p:=h
theorem zD8{p:Prop}(h:p:=by
 have HTT:=zL htt
 have m3:=HM.o.come hil 1 HFN.o ett
 have M3:=zL m3
 have CT:=zM (CAt (fairM p ws) p t (k+1) (k+1) (yQ p ws s k)) CT0.o
 have SV:=zM ((yQ p ws s k).v=t.s.v) HI.o.sv
 have HBC:=zL (HI.o.b.congr (key':=(yQ p ws s k).tg) λj hj=>qx _ _ zO)
 have TI:=zM ((yQ p ws s k).tg k=tt) (by show upd s.tg k (jR p ws s k) k=tt;rw [upd_same,ett])
 obtain ⟨W2,hW2⟩:∃W2:World,W2=(W1.setCell ⟨gT,k,none⟩ (.int .i64 tt)).drew:=⟨_,rfl⟩
 have eW2:((wr.setCell ⟨qC,k,none⟩ (.bool true)).drewN 1).setCell ⟨gT,k,none⟩ (.int .i64 tt)=W2:=by rw [hW2,HW1.o];rfl
 rw [eW2] at m3
 have t2:W2.cell? ⟨gT,k,none⟩=some (.int .i64 tt):=by
  have h9:=((HM.o.tg.far (p:=⟨qC,k,none⟩) HM.o.n1.1 (.bool true)).drewN 1).qi (d':=λj=>if j=k then .int .i64 tt else .int .i64 (s.tg j)) (k:=k) (.int .i64 tt) λj _=>rfl
  rw [eW2] at h9
  have:=h9.cell hil
  rwa [zp rfl] at this
 have a9:=(((HM.o.ls.far (p:=⟨qC,k,none⟩) HM.o.n2.2.1 (.bool true)).drewN 1).far (p:=⟨gT,k,none⟩) HM.o.n2.1 (.int .i64 tt))
 rw [eW2] at a9
 have l2:W2.cell? ⟨gL,fl,none⟩=some (.int .i64 lf):=by rw [HLF.o];exact a9.cell zO
 have z2:=a9.frozen fl
 have c3:(W2.setCell ⟨gL,fl,none⟩ (.int .i64 tt)).cell? ⟨qC,k,none⟩=some (.bool true):=zC5
 have e3:(W2.setCell ⟨gL,fl,none⟩ (.int .i64 tt)).cell? ⟨qD,k,none⟩=some (.bool false):=by have:=m3.dn.cell hil;rwa [HD.o] at this
 have t3:(W2.setCell ⟨gL,fl,none⟩ (.int .i64 tt)).cell? ⟨gT,k,none⟩=some (.int .i64 tt):=by have:=m3.tg.cell hil;rwa [TI.o] at this
 have Hm3:=zL m3
 have HW2:=zL hW2
 clear htt ett m3 eW2 hW2 a9 e0 M3
 go_wp2_with fail
 rw [<-HW1.o]
 go_region_held (λw'=>w'.cell? ⟨b,o+k*3+1,none⟩=some (.int .i64 z)/\w'.cell? ⟨b2,o2+fl,none⟩=some (.int .i64 q)) (first |exact KS.o|exact HKS2.o _) (fail)
 rw [V1.o,V2.o,V3.o,<-HTT.o,<-HW2.o]
 clear d0' l1 T1 Z1 c0 d2 d0
 by_cases hf0:first<0
 ·have HF:=zL (HI.o.f.zU HD.o hf0)
  exact zDJ
 ·exact zDH):p:=h
theorem zEH{p:Prop}(h:p:=by
 go_quiet (fail)
 rename Nat=>nq
 go_wp2_with fail
 go_roundw
 case rel=>exact ⟨i+1,k,s,i,first,hil,by go_num,rfl,rfl,⟨CT.o,SV.o,HB.o,HF.o⟩,HM.o.drewN nq⟩
 case measure=>simp [intOf];omega):p:=h
theorem zEI{p:Prop}(h:p:=by
 go_quiet (fail)
 rename Nat=>nq
 go_wp2_with fail
 go_roundw
 case rel=>exact ⟨i+1,k,s,i,i,hil,by go_num,rfl,rfl,⟨CT.o,SV.o,HB.o,HF.o⟩,HM.o.drewN nq⟩
 case measure=>simp [intOf];omega):p:=h
def Arr (w:World) (g:Nat) (T:TypeId) (n:Nat) (d:Nat->Value):Prop:=∃tc,Blk w g T tc/\tc.size=n/\∀k,k<n->tc[k]?=some (d k)
section
variable {w w':World} {g n:Nat} {T:TypeId} {d d':Nat->Value}
theorem Arr.lt (h:Arr w g T n d):g<w.heap.size:=by obtain ⟨tc,h,_⟩:=h;exact h.lt
theorem Arr.cell (h:Arr w g T n d) {k:Nat} (hk:k<n):w.cell? ⟨g,k,none⟩=some (d k):=zC7
theorem Arr.frozen (h:Arr w g T n d) (k:Nat):w.frozen? ⟨g,k,none⟩=false:=by obtain ⟨tc,h,_⟩:=h;exact h.frozen k
theorem Arr.same (h:Arr w g T n d) (hs:w'.heap[g]?=w.heap[g]?):Arr w' g T n d:=zC8
theorem Arr.congr (h:Arr w g T n d) (hd:∀k,k<n->d k=d' k):Arr w g T n d':=zCK
theorem Arr.qi (h:Arr w g T n d) {k:Nat} (u:Value) (hd:∀j,j<n->d' j=if j=k then u else d j):Arr (w.setCell ⟨g,k,none⟩ u) g T n d':=zEM
theorem Arr.far (h:Arr w g T n d) {p:Addr} (hp:g≠p.block) (u:Value):Arr (w.setCell p u) g T n d:=h.same (zAF w p u g hp)
theorem Arr.alloc (h:Arr w g T n d) (o:Obj):Arr (w.alloc o) g T n d:=h.same (zAr w o g h.lt)
theorem Arr.grown {row:Option Nat} (h:Arr w g T n d) (hb:w.grownBy w' row) (hg:some g≠row):Arr w' g T n d:=h.same (hb.block g h.lt hg)
theorem Arr.drewN (h:Arr w g T n d) (m:Nat):Arr (w.drewN m) g T n d:=h
theorem Arr.qA {base:Nat} {u:Value} (h:w.ownsRow base T 1 (.slice (some ⟨g,0,none⟩) n n) n (List.replicate n u)) (hd:∀k,k<n->d k=u):Arr w g T n d:=by
 obtain ⟨_,tc,h1,h2,h3⟩:=aqL h
 exact ⟨tc,h1,h2,λk hk=>by rw [hd k hk];exact h3 k hk⟩
theorem Arr.rdI {d:Nat->Int} (h:Arr w g 3 n (λk=>.int .i64 (d k))):RdI w w.heap.size (some ⟨g,0,none⟩) ((List.range n).map d):=by
 obtain ⟨tc,hb,hs,ht⟩:=h
 refine Rd.of_block (cs:=tc) (T:=3) (z:=(0,0)) hb ?_ hb.lt zO yJ
 apply List.ext_getElem?
 intro k
 have e:((List.range n).map d).flatMap (λm=>[Value.int .i64 m])=(List.range n).map λj=>Value.int .i64 (d j):=by
  rw [<-List.map_eq_flatMap,List.map_map];rfl
 rw [e]
 by_cases hk:k<n
 ·have:=ht k hk
  simp [hk]
  simpa using this
 ·rw [List.getElem?_eq_none zA7,List.getElem?_eq_none zA7]
end
theorem bool_new (n:Nat):(madeCells (Value.cells (.bool false)) (n*1)).toList=List.replicate n (.bool false):=by
 rw [show Value.cells (.bool false)=#[.bool false] from rfl,toList_madeCells_one,Nat.mul_one]
structure abI (p:List Pk) (out:List Sn) (B base:Nat) (w1:World) (gT gC gD gL:Nat) (A5:Option Addr) (c5 k:Nat) (s:FS) (wr:World):Prop where
 tg:Arr wr gT 3 p.length λj=>.int .i64 (s.tg j)
 cm:Arr wr gC 4 p.length λj=>.bool (decide (j<k))
 dn:Arr wr gD 4 p.length λj=>.bool (dnB out j)
 ls:Arr wr gL 3 8 λj=>.int .i64 (s.last j)
 row:wr.ownsRow base 64 3 (.slice A5 out.length c5) out.length (out.flatMap Sn.cs)
 bel:Below B w1 wr
 ge:B<=gT/\B<=gC/\B<=gD/\B<=gL
 lo:gT<base/\gC<base/\gD<base
 n1:gT≠gC/\gT≠gD/\gC≠gD
 n2:gL≠gT/\gL≠gC/\gL≠gD
 rne:(Value.slice A5 out.length c5).ownBlock≠some gL
section
variable {p:List Pk} {out:List Sn} {B base:Nat} {w1:World} {gT gC gD gL:Nat} {A5:Option Addr} {c5 k:Nat} {s:FS} {wr:World}
theorem abI.drewN (h:abI p out B base w1 gT gC gD gL A5 c5 k s wr) (m:Nat):abI p out B base w1 gT gC gD gL A5 c5 k s (wr.drewN m):={h with tg:=h.tg,cm:=h.cm,dn:=h.dn,ls:=h.ls,row:=h.row,bel:=below_drewN h.bel m}
theorem abI.zP (h:abI p out B base w1 gT gC gD gL A5 c5 k s wr):B<=wr.heap.size:=zAB h.ge.1 (Nat.le_of_lt h.tg.lt)
theorem abI.aqG (h:abI p out B base w1 gT gC gD gL A5 c5 k s wr):∀b,(Value.slice A5 out.length c5).ownBlock=some b->b≠gT/\b≠gC/\b≠gD/\b≠gL:=λb hb=>by
 have h1:=zH h.row b hb
 have h2:=h.lo
 exact ⟨by omega,by omega,by omega,λe=>h.rne (by rw [hb,e])⟩
theorem abI.come {ws:List Int} (h:abI p out B base w1 gT gC gD gL A5 c5 k s wr) (hk:k<p.length) (m:Nat) {f:Nat} (hf:flN p k=f) {t:Int} (ht:jR p ws s k=t):
 abI p out B base w1 gT gC gD gL A5 c5 (k+1) (yQ p ws s k) ((((wr.setCell ⟨gC,k,none⟩ (.bool true)).drewN m).setCell ⟨gT,k,none⟩ (.int .i64 t)).setCell ⟨gL,f,none⟩ (.int .i64 t)):=by
 obtain ⟨a1,a2,a3⟩:=h.n1
 obtain ⟨b1,b2,b3⟩:=h.n2
 obtain ⟨c1,c2,c3,c4⟩:=h.ge
 have hr:∀b,b≠gC->b≠gT->b≠gL->((((wr.setCell ⟨gC,k,none⟩ (.bool true)).drewN m).setCell ⟨gT,k,none⟩ (.int .i64 t)).setCell ⟨gL,f,none⟩ (.int .i64 t)).heap[b]?=wr.heap[b]?:=λb h1 h2 h3=>
  (zAF (((wr.setCell ⟨gC,k,none⟩ (.bool true)).drewN m).setCell ⟨gT,k,none⟩ (.int .i64 t)) ⟨gL,f,none⟩ _ b h3).trans ((zAF ((wr.setCell ⟨gC,k,none⟩ (.bool true)).drewN m) ⟨gT,k,none⟩ _ b h2).trans (zAF wr ⟨gC,k,none⟩ _ b h1))
 refine {h with tg:=?_,cm:=?_,dn:=h.dn.same (hr gD a3.symm a2.symm b3.symm),ls:=?_,row:=jf h.row λb hb=>?_,bel:=?_}
 ·exact (((h.tg.far (p:=⟨gC,k,none⟩) a1 _).drewN m).qi (d':=λj=>.int .i64 ((yQ p ws s k).tg j)) (k:=k) (.int .i64 t) λj _=>by
   show Value.int .i64 (upd s.tg k (jR p ws s k) j)=_
   rw [ht]
   by_cases hj:j=k
   ·subst hj;rw [upd_same,zp rfl]
   ·rw [qx _ _ hj,z6 hj]).far (p:=⟨gL,f,none⟩) b1.symm _
 ·exact (((h.cm.qi (d':=λj=>.bool (decide (j<k+1))) (k:=k) (.bool true) λj _=>by
   by_cases hj:j=k
   ·subst hj;rw [zp rfl];simp
   ·rw [z6 hj];congr 1;exact decide_eq_decide.2 zO).drewN m).far (p:=⟨gT,k,none⟩) a1.symm _).far (p:=⟨gL,f,none⟩) b2.symm _
 ·exact (((h.ls.far (p:=⟨gC,k,none⟩) b2 _).drewN m).far (p:=⟨gT,k,none⟩) b1 _).qi (d':=λj=>.int .i64 ((yQ p ws s k).last j)) (k:=f) (.int .i64 t) λj _=>by
   show Value.int .i64 (upd s.last (flN p k) (jR p ws s k) j)=_
   rw [ht,hf]
   by_cases hj:j=f
   ·subst hj;rw [upd_same,zp rfl]
   ·rw [qx _ _ hj,z6 hj]
 ·obtain ⟨r1,r2,r3,r4⟩:=h.aqG b hb
  exact hr b r2 r1 r4
 ·exact (((below_drewN (h.bel.setCell (p:=⟨gC,k,none⟩) c2 _) m).setCell (p:=⟨gT,k,none⟩) c1 _)).setCell (p:=⟨gL,f,none⟩) c4 _
theorem abI.reset (h:abI p out B base w1 gT gC gD gL A5 c5 k s wr) {w':World} (hg:wr.grownBy w' none) (hl:w'.ownsRow wr.heap.size 3 1 (.slice (some ⟨wr.heap.size,0,none⟩) 8 8) 8 (List.replicate 8 (.int .i64 0))):
 abI p out B base w1 gT gC gD wr.heap.size A5 c5 k (fRest s) w' where
 tg:=h.tg.grown hg zA1
 cm:=h.cm.grown hg zA1
 dn:=h.dn.grown hg zA1
 ls:=Arr.qA hl λ_ _=>rfl
 row:=jf h.row λb hb=>hg.block b (xQ h.row b hb) zA1
 bel:=h.bel.grown hg h.zP zA1
 ge:=⟨h.ge.1,h.ge.2.1,h.ge.2.2.1,h.zP⟩
 lo:=h.lo
 n1:=h.n1
 n2:=⟨by have:=h.tg.lt;omega,by have:=h.cm.lt;omega,by have:=h.dn.lt;omega⟩
 rne:=λe=>by have:=xQ h.row _ e;omega
theorem abI.took (h:abI p out B base w1 gT gC gD gL A5 c5 k s wr) {w3:World} {o o2:Obj} {A6:Option Addr} {c6:Nat} {x:Sn} {b:Nat} {w':List Nat} {v:Int} (hx:x.p=b) (hbw:B<=w1.heap.size)
 (hr:w3.ownsRow base 64 3 (.slice A6 (out++[x]).length c6) (out++[x]).length ((out++[x]).flatMap Sn.cs)) (hg:((wr.alloc o).alloc o2).grownBy w3 (Value.slice A5 out.length c5).ownBlock)
 (ha:(Value.slice A6 (out++[x]).length c6).ownBlock=(Value.slice A5 out.length c5).ownBlock\/(Value.slice A6 (out++[x]).length c6).ownBlock=some ((wr.alloc o).alloc o2).heap.size):
 abI p (out++[x]) B base w1 gT gC gD gL A6 c6 k {s with w:=w',v:=v} (w3.setCell ⟨gD,b,none⟩ (.bool true)):=by
 obtain ⟨a1,a2,a3⟩:=h.n1
 obtain ⟨b1,b2,b3⟩:=h.n2
 obtain ⟨c1,c2,c3,c4⟩:=h.ge
 have hne:∀g,g=gT\/g=gC\/g=gD\/g=gL->some g≠(Value.slice A5 out.length c5).ownBlock:=λg hgg e=>by
  obtain ⟨r1,r2,r3,r4⟩:=h.aqG g e.symm
  omega
 have hr6:∀g,(Value.slice A6 (out++[x]).length c6).ownBlock=some g->g≠gD/\g≠gL:=λg hgg=>by
  rcases ha with e|e
  ·rw [hgg] at e
   obtain ⟨r1,r2,r3,r4⟩:=h.aqG g e.symm
   exact ⟨r3,r4⟩
  ·rw [hgg] at e
   injection e with e
   simp at e
   have:=h.dn.lt
   have:=h.ls.lt
   exact ⟨by omega,by omega⟩
 refine {tg:=?_,cm:=?_,dn:=?_,ls:=?_,row:=jf hr λg hg=>zAF w3 ⟨gD,b,none⟩ _ g (hr6 g hg).1,bel:=?_,ge:=h.ge,lo:=h.lo,n1:=h.n1,n2:=h.n2,rne:=λe=>(hr6 _ e).2 rfl}
 ·exact (((h.tg.alloc o).alloc o2).grown hg (hne gT (.inl rfl))).far (p:=⟨gD,b,none⟩) a2 _
 ·exact (((h.cm.alloc o).alloc o2).grown hg (hne gC (.inr (.inl rfl)))).far (p:=⟨gD,b,none⟩) a3 _
 ·exact (((h.dn.alloc o).alloc o2).grown hg (hne gD (.inr (.inr (.inl rfl))))).qi (d':=λj=>.bool (dnB (out++[x]) j)) (k:=b) (.bool true) λj _=>by
   rw [aeA,hx]
   by_cases hj:j=b
   ·subst hj;rw [zp rfl];simp
   ·rw [z6 hj]
    have:((b:Int)==(j:Int))=false:=beq_eq_false_iff_ne.2 zO
    rw [this,Bool.or_false]
 ·exact (((h.ls.alloc o).alloc o2).grown hg (hne gL (.inr (.inr (.inr rfl))))).far (p:=⟨gD,b,none⟩) b3 _
 ·have hsz:=h.zP
  refine Below.setCell ((((h.bel.alloc hsz o).alloc (qG hsz o) o2)).grown hg (qG (qG hsz o) o2) λg hgg=>?_) (p:=⟨gD,b,none⟩) c3 _
  have:=zH h.row g hgg
  have:=h.lo
  omega
end
theorem atO:(Tryz.prog.info? 4).map (λi=>(i.zero,i.size,i.bytes))=some (some (.bool false),1,1):=zK
theorem awC {w w':World} {x y z:Value} {T:TypeId} {o2:Obj} {base2:Nat} {e:TypeId} {size n:Nat} {v:Value} {xs:List Value} {base:Nat} (h:w.ownsRow base2 e size v n xs) (hg:((w.alloc (.cells #[x,y,z] T)).alloc o2).grownBy w' v.ownBlock) (hl:base<w.heap.size) (k:Nat):(w'.setCell ⟨base,k,none⟩ (.bool true)).cell? ⟨w.heap.size,2,none⟩=some z:=by
 have b:Blk w' w.heap.size T #[x,y,z]:=aaV hg (xQ h)
 exact (b.far (p:=⟨base,k,none⟩) zBc (.bool true)).cell 2
structure a4C (p:List Pk) (per:Int) (ws:List Int) (B base:Nat) (w1:World) (gT gC gD gL f:Nat) (t:St FS) (A5:Option Addr) (c5:Nat) (wr:World):Prop where
 run:serveS (fairM p ws) p per fs0=runS (fairM p ws) p per f t
 fuel:mu p t<=f
 inv:Inv (fairM p ws) p t
 cm:∀j,j<t.next->aOf p j<=t.now
 mem:abI p t.out B base w1 gT gC gD gL A5 c5 t.next t.s wr
structure FIn (p:List Pk) (ws:List Int) (t:St FS) (i k:Nat) (s:FS) (best first:Int):Prop where
 cat:CAt (fairM p ws) p t i k s
 sv:s.v=t.s.v
 b:xN p s.tg t.now t.out i best
 f:vC t.out i first
def a3L (l:List Sn) (tl:List Int) (w:World) (e:Ending) (w':World):Prop:=
 ∃A1 c1 A2 c2,e=.returned (.tuple #[.slice A1 l.length c1,.slice A2 tl.length c2])/\w'.ownsRow w.heap.size 64 3 (.slice A1 l.length c1) l.length (l.flatMap Sn.cs)/\RdI w' w'.heap.size A2 tl/\Below w.heap.size w w'
set_option maxHeartbeats 16000000 in
theorem apM (A A':Option Addr) (c c':Nat) (p:List Pk) (per:Int) (ws:List Int) (w:World) (B:Nat) (hB:B<=w.heap.size) (h:RdP w B A p) (h':RdI w B A' ws) (hp:∀x∈p,zg x) (hs:p.Pairwise (λx y=>x.a<=y.a)) (hl:p.length<=300) (h0:1<=per) (h1:per<=1000) (h8:ws.length=8) (hwi:∀n∈ws,1<=n/\n<=12/\n ∣ 12):
 Calls Tryz.prog 60 #[.slice A p.length c,.int .i64 per,.slice A' ws.length c'] w (a3L (ah1 p per ws) (anP p per ws) w):=by
 obtain ⟨iI,hI,hI0,hI1,hI2⟩:=info_parts amJ
 obtain ⟨iB,hBo,hB0,hB1,hB2⟩:=info_parts atO
 obtain ⟨iS,hSn,hS0,hS1,hS2⟩:=info_parts akX
 have hw:=anL h8 hwi
 have HW:=zL hw
 have H8:=zL h8
 have HS:=zL hs
 have HP:=zL hp
 clear hw h8 hs hp
 go_enter Tryz.func60,Tryz.ntmps60
 go_wp2_with (first
  |(at_make;refine wpList_make_full _ rfl (.tmp 22) (.tmp 22) 27 rfl w.heap.size 3 iI (.int .i64 0) 1 Tryz.underlying27 hI hI0 hI1 .i64 .i64 p.length p.length p.length rfl rfl rfl rfl (by rw [hI2];omega) zA2 (zD _) ?_;intro wA rowA gA;rw [intRow_new] at rowA)
  |(at_make;refine wpList_make_full _ rfl (.tmp 25) (.tmp 25) 150 rfl wA.heap.size 4 iB (.bool false) 1 Tryz.underlying150 hBo hB0 hB1 .i64 .i64 p.length p.length p.length rfl rfl rfl rfl (by rw [hB2];omega) zA2 (zD _) ?_;intro wB rowB gB;rw [bool_new] at rowB)
  |(at_make;refine wpList_make_full _ rfl (.tmp 28) (.tmp 28) 150 rfl wB.heap.size 4 iB (.bool false) 1 Tryz.underlying150 hBo hB0 hB1 .i64 .i64 p.length p.length p.length rfl rfl rfl rfl (by rw [hB2];omega) zA2 (zD _) ?_;intro wC rowC gC;rw [bool_new] at rowC)
  |(at_make;refine wpList_make_full _ rfl (.const (.int .i64 8)) (.const (.int .i64 8)) 27 rfl wC.heap.size 3 iI (.int .i64 0) 1 Tryz.underlying27 hI hI0 hI1 .i64 .i64 8 8 8 rfl rfl rfl rfl (by rw [hI2];omega) zA2 (zD _) ?_;intro wD rowD gD;rw [intRow_new] at rowD))
 obtain ⟨gT,egT⟩:∃gT,gT=w.heap.size:=⟨_,rfl⟩
 obtain ⟨qC,egC⟩:∃qC,qC=wA.heap.size:=⟨_,rfl⟩
 obtain ⟨qD,egD⟩:∃qD,qD=wB.heap.size:=⟨_,rfl⟩
 obtain ⟨qL,egL⟩:∃qL,qL=wC.heap.size:=⟨_,rfl⟩
 have aT:Arr wA gT 3 p.length λj=>.int .i64 (fs0.tg j):=by rw [egT];exact Arr.qA rowA λ_ _=>rfl
 have aC:Arr wB qC 4 p.length λj=>.bool (decide (j<0)):=by rw [egC];exact Arr.qA rowB λ_ _=>rfl
 have aD:Arr wC qD 4 p.length λj=>.bool (dnB [] j):=by rw [egD];exact Arr.qA rowC λ_ _=>rfl
 have aL:Arr wD qL 3 8 λj=>.int .i64 (fs0.last j):=by rw [egL];exact Arr.qA rowD λ_ _=>rfl
 have lT:=aT.lt
 have lC:=aC.lt
 have lD:=aD.lt
 have lL:=aL.lt
 have kA:Below w.heap.size w wA:=(zAA _ _).grown gA (zD _) zA1
 have sA:=gA.size
 have sB:=gB.size
 have sC:=gC.size
 have sD:=gD.size
 have kB:Below w.heap.size w wB:=kA.grown gB sA zA1
 have kC:Below w.heap.size w wC:=kB.grown gC zO zA1
 have kD:Below w.heap.size w wD:=kC.grown gD zO zA1
 have mem0:abI p [] w.heap.size wD.heap.size wD gT qC qD qL none 0 0 fs0 wD:=
  {tg:=((aT.grown gB zA1).grown gC zA1).grown gD zA1,cm:=(aC.grown gC zA1).grown gD zA1,dn:=aD.grown gD zA1,ls:=aL,row:=⟨by simp,.inl ⟨rfl,rfl⟩⟩,bel:=zAA _ _,ge:=⟨by omega,by omega,by omega,by omega⟩,lo:=⟨by omega,by omega,by omega⟩,n1:=⟨by omega,by omega,by omega⟩,n2:=⟨by omega,by omega,by omega⟩,rne:=by simp [Value.ownBlock]}
 have hbw:w.heap.size<=wD.heap.size:=kD.size
 rw [<-egT,<-egC,<-egD,<-egL]
 have M0:=zL mem0
 have KD:=zL kD
 clear aT aC aD aL lT lC lD lL kA kB kC kD sA sB sC sD egT egC egD egL rowA rowB rowC rowD gA gB gC gD mem0
 go_loopw [8,12,13,14] (λv lv vv nw wr=>∃(f:Nat) (t:St FS) (A5:Option Addr) (c5 gL:Nat),v=.slice A5 t.out.length c5/\lv=.slice (some ⟨gL,0,none⟩) 8 8/\vv=.int .i64 t.s.v/\nw=.int .i64 t.now/\a4C p per ws w.heap.size wD.heap.size wD gT qC qD gL f t A5 c5 wr) (λv _ _ nw _=>muV p (lenOf v) (intOf nw))
 case atStart=>exact ⟨_,⟨[],0,0,fs0⟩,none,0,qL,rfl,rfl,rfl,rfl,⟨rfl,uI p fs0,wh (M:=fairM p ws) (s0:=fs0) p rfl (apE p ws),λj hj=>zAv hj (Nat.not_lt_zero _),M0.o⟩⟩
 case round=>
  obtain ⟨f,t,A5,c5,gL,rfl,rfl,rfl,rfl,hR⟩:=hrel
  have n0:=hR.inv.now0
  have n1:=hR.inv.now1
  have HR:=zL hR
  clear hR M0
  by_cases hlt:t.out.length<p.length
  ·have HLT:=zL hlt
   go_wp2_with fail
   go_loopw [15,16,17] (λbv fv iv wr=>∃(i k:Nat) (s:FS) (best first:Int),i<=p.length/\iv=.int .i64 i/\bv=.int .i64 best/\fv=.int .i64 first/\FIn p ws t i k s best first/\abI p t.out w.heap.size wD.heap.size wD gT qC qD gL A5 c5 k s wr) (λ_ _ iv _=>p.length - (intOf iv).toNat)
   case atStart=>exact ⟨0,t.next,t.s,-1,-1,zAK _,rfl,rfl,rfl,⟨CAt.start HR.o.inv,rfl,a0U,aw4⟩,HR.o.mem⟩
   case round=>
    obtain ⟨i,k,s,best,first,hi,rfl,rfl,rfl,hI9,hm⟩:=hrel
    have HI:=zL hI9
    have HM:=zL hm
    clear hI9 hm
    by_cases hil:i<p.length
    ·have kw:=KD.o.trans HM.o.bel
     have KW:=zL kw
     obtain ⟨b,o,rfl,hbb,d0,d1,d2⟩:=RdP.get (h.below (kw.mono hB)) hil
     have c0:wr.cell? ⟨qC,i,none⟩=some (.bool (decide (i<k))):=HM.o.cm.cell hil
     have e0:wr.cell? ⟨qD,i,none⟩=some (.bool (dnB t.out i)):=HM.o.dn.cell hil
     have t0:wr.cell? ⟨gT,i,none⟩=some (.int .i64 (s.tg i)):=HM.o.tg.cell hil
     have q1:(0:Int)<=(i:Int):=zO
     have q2:(i:Int)<(p.length:Int):=zO
     clear kw hi
     by_cases hik:i<k
     ·obtain ⟨cat2,hai⟩:=HI.o.cat.old HR.o.cm hik
      have CT:=zL cat2
      have HA:=zL hai
      have SV:=zL HI.o.sv
      rw [zAI hik] at c0
      clear cat2 hai hik
      cases hd:dnB t.out i with
      |true=>
       rw [hd] at e0
       have HB:=zL (HI.o.b.skip (.inl hd))
       have HF:=zL (HI.o.f.skip (.inl hd))
       clear hd t0
       go_wp2_with fail
       go_roundw
       case rel=>exact ⟨i+1,k,s,best,first,hil,by go_num,rfl,rfl,⟨CT.o,SV.o,HB.o,HF.o⟩,HM.o⟩
       case measure=>simp [intOf];omega
      |false=>
       rw [hd] at e0
       have HD:=zL hd
       have HBC:=zL HI.o.b
       have TI:=zL (rfl:s.tg i=s.tg i)
       clear hd
       by_cases hf0:first<0
       ·have HF:=zL (HI.o.f.zU HD.o hf0)
        by_cases hb0:best<0
        ·have HB:=zL (HBC.o.zU HD.o HA.o (.inl hb0))
         go_wp2_with fail
         exact zEI
        ·obtain ⟨bb,rfl⟩:∃bb:Nat,best=bb:=⟨best.toNat,by omega⟩
         have hbi:bb<i:=zB4
         have hbl:bb<p.length:=zO
         have tb:wr.cell? ⟨gT,bb,none⟩=some (.int .i64 (s.tg bb)):=HM.o.tg.cell hbl
         have TB:=zL (rfl:s.tg bb=s.tg bb)
         have r1:(0:Int)<=(bb:Int):=zO
         have r2:(bb:Int)<(p.length:Int):=zO
         have R0:=zM (decide ((bb:Int)<0)=false) (zAH zO)
         clear hb0 hbi hbl
         by_cases hkk:s.tg i<s.tg bb
         ·have HB:=zL (HBC.o.zU HD.o HA.o (.inr ⟨zAf _,by rw [zAX,TI.o,TB.o];exact hkk⟩))
          go_wp2_with fail
          have r0:=R0.o
          exact zEI
         ·have HB:=zL (HBC.o.keep (zAf _) zBb)
          have RK:=zM (decide (s.tg i<s.tg bb)=false) (zAH hkk)
          clear hkk
          go_wp2_with fail
          have r0:=R0.o
          have rk:=RK.o
          go_quiet (fail)
          rename Nat=>nq
          go_wp2_with fail
          go_roundw
          case rel=>exact ⟨i+1,k,s,bb,i,hil,by go_num,rfl,rfl,⟨CT.o,SV.o,HB.o,HF.o⟩,HM.o.drewN nq⟩
          case measure=>simp [intOf];omega
       ·have HF:=zL (HI.o.f.skip (.inr (Int.not_lt.1 hf0)))
        have hf1:0<=first:=Int.not_lt.1 hf0
        clear hf0
        by_cases hb0:best<0
        ·have HB:=zL (HBC.o.zU HD.o HA.o (.inl hb0))
         go_wp2_with fail
         exact zEH
        ·obtain ⟨bb,rfl⟩:∃bb:Nat,best=bb:=⟨best.toNat,by omega⟩
         have hbi:bb<i:=zB4
         have hbl:bb<p.length:=zO
         have tb:wr.cell? ⟨gT,bb,none⟩=some (.int .i64 (s.tg bb)):=HM.o.tg.cell hbl
         have TB:=zL (rfl:s.tg bb=s.tg bb)
         have r1:(0:Int)<=(bb:Int):=zO
         have r2:(bb:Int)<(p.length:Int):=zO
         have R0:=zM (decide ((bb:Int)<0)=false) (zAH zO)
         clear hb0 hbi hbl
         by_cases hkk:s.tg i<s.tg bb
         ·have HB:=zL (HBC.o.zU HD.o HA.o (.inr ⟨zAf _,by rw [zAX,TI.o,TB.o];exact hkk⟩))
          go_wp2_with fail
          have r0:=R0.o
          exact zEH
         ·have HB:=zL (HBC.o.keep (zAf _) zBb)
          have RK:=zM (decide (s.tg i<s.tg bb)=false) (zAH hkk)
          clear hkk
          go_wp2_with fail
          have r0:=R0.o
          have rk:=RK.o
          go_quiet (fail)
          rename Nat=>nq
          go_wp2_with fail
          go_roundw
          case rel=>exact ⟨i+1,k,s,bb,first,hil,by go_num,rfl,rfl,⟨CT.o,SV.o,HB.o,HF.o⟩,HM.o.drewN nq⟩
          case measure=>simp [intOf];omega
     ·rw [zAH hik] at c0
      have hki:k<=i:=Nat.not_lt.1 hik
      have hd:dnB t.out i=false:=HI.o.cat.av3 HR.o.inv.pos hki
      rw [hd] at e0
      have HD:=zL hd
      clear hd hik
      by_cases ha:p[i].a<=t.now
      ·have HA:=zM (aOf p i<=t.now) (by rw [zy hil];exact ha)
       have eki:k=i:=HI.o.cat.a2L HS.o hki hil HA.o
       subst eki
       have hok:=HP.o _ (zd hil)
       obtain ⟨fl,hfl⟩:∃fl:Nat,p[k].f=fl:=⟨p[k].f.toNat,by have:=hok.1;omega⟩
       have hf8:fl<8:=by have:=hok.2.1;omega
       have hfN:flN p k=fl:=by unfold flN;rw [vR hil,hfl];simp
       obtain ⟨z,hz⟩:∃z,z=p[k].s:=⟨_,rfl⟩
       have hz1:1<=z:=by rw [hz];exact hok.2.2.1
       have hz2:z<=1500:=by rw [hz];exact hok.2.2.2.1
       have hflw:fl<ws.length:=by rw [H8.o];exact hf8
       obtain ⟨b2,o2,rfl,hb2,qq⟩:=RdI.get (h'.below (KW.o.mono hB)) hflw
       obtain ⟨q,hq⟩:∃q,q=ws[fl]:=⟨_,rfl⟩
       have hqu:qu ws fl=q:=by unfold qu;rw [hq];simp [List.getD,show fl<ws.length by rw [H8.o];exact hf8]
       obtain ⟨w1q,w2q,w3q⟩:=hwi _ (zd (show fl<ws.length by rw [H8.o];exact hf8))
       rw [<-hq] at qq w1q w2q w3q
       rw [hfl] at d0
       rw [<-hz] at d1
       have hbd:=agK HP.o HW.o HI.o.cat.inv.ok.bd hil
       obtain ⟨lf,hlf⟩:∃lf,lf=s.last fl:=⟨_,rfl⟩
       have hbdl:=HI.o.cat.inv.ok.bd.l fl
       have hbdv:=HI.o.cat.inv.ok.bd.v
       rw [HI.o.sv] at hbdv
       have hkl:=HI.o.cat.inv.ok.le
       rw [<-hlf] at hbdl
       have eT:jR p ws s k=max t.s.v lf+z*(12 / q):=by unfold jR ad8;rw [HI.o.sv,hfN,hqu,yA hil,<-hz,<-hlf,ayK w3q]
       have ge:=HM.o.ge
       have u1:(12:Int) / q<=12:=Int.ediv_le_self _ zO
       have u0:0<=(12:Int) / q:=Int.ediv_nonneg zO zO
       have x0:0<=z*(12 / q):=zAY zO u0
       have x1:z*(12 / q)<=18000:=by
        have:=Int.mul_le_mul hz2 u1 u0 (by omega:(0:Int)<=1500)
        omega
       have v1:(12:Int).tdiv q=12 / q:=Int.tdiv_eq_ediv_of_nonneg zO
       have V1:=zM (IntKind.i64.wrap ((12:Int).tdiv q)=12 / q) (by rw [v1,IntKind.wrap_i64];omega)
       have V2:=zM (IntKind.i64.wrap (z*(12 / q))=z*(12 / q)) zBB
       have y4:q≠0:=zO
       obtain ⟨W1,hW1⟩:∃W1:World,W1=wr.setCell ⟨qC,k,none⟩ (.bool true):=⟨_,rfl⟩
       have bw:Below B wr W1:=by rw [hW1];exact (zAA _ _).setCell (p:=⟨qC,k,none⟩) (zAB hB ge.2.1) _
       have zC:=HM.o.cm.frozen k
       have d0':W1.cell? ⟨b,o+k*3,none⟩=some (.int .i64 (fl:Int)):=(bw.cell (p:=⟨b,o+k*3,none⟩) hbb).trans d0
       have l1:W1.cell? ⟨gL,fl,none⟩=some (.int .i64 lf):=by rw [hlf,hW1];exact (HM.o.ls.far (p:=⟨qC,k,none⟩) HM.o.n2.2.1 _).cell hf8
       have T1:W1.drew.cell? ⟨gT,k,none⟩=some (.int .i64 (s.tg k)):=by rw [hW1];exact (HM.o.tg.far (p:=⟨qC,k,none⟩) HM.o.n1.1 _).cell hil
       have Z1:W1.drew.frozen? ⟨gT,k,none⟩=false:=by rw [hW1];exact (HM.o.tg.far (p:=⟨qC,k,none⟩) HM.o.n1.1 _).frozen k
       have s1:W1.drew.cell? ⟨b,o+k*3+1,none⟩=some (.int .i64 z):=(bw.cell (p:=⟨b,o+k*3+1,none⟩) hbb).trans d1
       have g1:W1.drew.cell? ⟨b2,o2+fl,none⟩=some (.int .i64 q):=(bw.cell (p:=⟨b2,o2+fl,none⟩) hb2).trans qq
       have KS:=zL (And.intro s1 g1)
       have KS2:∀u:Value,(W1.drew.setCell ⟨gT,k,none⟩ u).cell? ⟨b,o+k*3+1,none⟩=some (.int .i64 z)/\(W1.drew.setCell ⟨gT,k,none⟩ u).cell? ⟨b2,o2+fl,none⟩=some (.int .i64 q):=λu=>
        ⟨(World.cell?_setCell_far _ ⟨gT,k,none⟩ ⟨b,o+k*3+1,none⟩ u (by show gT≠b;omega)).trans s1,(World.cell?_setCell_far _ ⟨gT,k,none⟩ ⟨b2,o2+fl,none⟩ u (by show gT≠b2;omega)).trans g1⟩
       have HKS2:=zL KS2
       have q3:(0:Int)<=(fl:Int):=zO
       have q4:(fl:Int)<8:=zO
       have q5:(fl:Int)<(ws.length:Int):=by rw [H8.o];omega
       rw [hW1] at d0' l1
       have HW1:=zL hW1
       have HLF:=zL hlf
       have HFN:=zL hfN
       have ET:=zL eT
       have CT0:=zL (HI.o.cat.come (ab3 HP.o HW.o) hil HA.o)
       clear hflw hok hfl hf8 hfN hz hq hqu qq hbd hkl eT ge u1 u0 v1 hW1 bw s1 g1 KS2 hlf hki w1q w2q w3q d1 t0
       by_cases hvl:lf<t.s.v
       ·have V3:=zM (IntKind.i64.wrap (t.s.v+z*(12 / q))=t.s.v+z*(12 / q)) zBB
        obtain ⟨tt,htt⟩:∃tt,tt=t.s.v+z*(12 / q):=⟨_,rfl⟩
        have ett:jR p ws s k=tt:=by rw [ET.o,htt];omega
        exact zD8
       ·have V3:=zM (IntKind.i64.wrap (lf+z*(12 / q))=lf+z*(12 / q)) zBB
        obtain ⟨tt,htt⟩:∃tt,tt=lf+z*(12 / q):=⟨_,rfl⟩
        have ett:jR p ws s k=tt:=by rw [ET.o,htt];omega
        have hvl2:t.s.v<=lf:=Int.not_lt.1 hvl
        clear hvl
        exact zD8
      ·have HAN:=zM (decide (p[i].a<=t.now)=false) (zAH ha)
       have CT:=zL (HI.o.cat.late hki (by rw [zy hil];omega))
       have SV:=zL HI.o.sv
       have HB:=zL (HI.o.b.skip (.inr (by rw [zy hil];omega)))
       have ha2:t.now<p[i].a:=Int.not_le.1 ha
       clear ha hki
       by_cases hf0:first<0
       ·have HF:=zL (HI.o.f.zU HD.o hf0)
        go_wp2_with fail
        go_quiet (fail)
        rename Nat=>nq
        go_wp2_with fail
        go_roundw
        case rel=>exact ⟨i+1,k,s,best,i,hil,by go_num,rfl,rfl,⟨CT.o,SV.o,HB.o,HF.o⟩,HM.o.drewN nq⟩
        case measure=>simp [intOf];omega
       ·have HF:=zL (HI.o.f.skip (.inr (Int.not_lt.1 hf0)))
        have hf1:0<=first:=Int.not_lt.1 hf0
        clear hf0
        go_wp2_with fail
        go_quiet (fail)
        rename Nat=>nq
        go_wp2_with fail
        go_roundw
        case rel=>exact ⟨i+1,k,s,best,first,hil,by go_num,rfl,rfl,⟨CT.o,SV.o,HB.o,HF.o⟩,HM.o.drewN nq⟩
        case measure=>simp [intOf];omega
    ·have hie:i=p.length:=by omega
     subst hie
     have hrun:=jU (fairM p ws) p per f t HLT.o HR.o.fuel
     have hstep:=kF (ab3 HP.o HW.o) HP.o h0 h1 HR.o.inv HLT.o
     have hcm:=ac2 (ab3 HP.o HW.o) HP.o HS.o h0 HR.o.inv HLT.o HR.o.cm
     have kv:=KD.o.trans HM.o.bel
     have zv:=HM.o.bel.size
     by_cases hbn:best<0
     ·obtain ⟨hfe,hf2,e2⟩:=auD HP.o HW.o HS.o HR.o.inv HR.o.cm HLT.o HI.o.cat HI.o.b HI.o.f hbn
      subst hfe
      rw [e2] at hrun hstep hcm
      obtain ⟨b,o,rfl,hbb,d0,d1,d2⟩:=RdP.get (h.below (kv.mono hB)) hf2
      have q1:(0:Int)<=(k:Int):=zO
      have q2:(k:Int)<(p.length:Int):=zO
      have hbl:b<wr.heap.size:=by have:=kv.size;omega
      have Hrun:=zL hrun
      have Hstep:=zL hstep
      have Hcm:=zL hcm
      clear hrun hstep hcm e2 hil d0 d1
      go_wp2_with (at_make;refine wpList_make_full _ rfl (.const (.int .i64 8)) (.const (.int .i64 8)) 27 rfl wr.heap.size 3 iI (.int .i64 0) 1 Tryz.underlying27 hI hI0 hI1 .i64 .i64 8 8 8 rfl rfl rfl rfl (by rw [hI2];omega) zA2 (zD _) ?_;intro wN rowN gN;rw [intRow_new] at rowN;have HRN:=zL rowN;have d2':=(((zAA wr.heap.size wr).grown gN (zD _) zA1).cell (p:=⟨b,o+k*3+2,none⟩) hbl).trans d2;clear rowN)
      go_roundw
      case rel=>exact ⟨f - 1,⟨t.out,aOf p k,k,fRest s⟩,A5,c5,wr.heap.size,rfl,rfl,rfl,by rw [zy hf2],⟨HR.o.run.trans Hrun.o,by have:=Hstep.o.2;have:=HR.o.fuel;omega,Hstep.o.1,Hcm.o,HM.o.reset gN HRN.o⟩⟩
      case measure=>
       have h9:=Hstep.o.2
       unfold mu at h9
       simp only [zy hf2] at h9
       exact h9
     ·obtain ⟨b9,w9,hbe,hkl,hdk,e2⟩:=auC (per:=per) HP.o HW.o HS.o HR.o.inv HR.o.cm HI.o.cat HI.o.b zO
      subst hbe
      rw [e2,yA hkl] at hrun hstep hcm
      obtain ⟨b,o,rfl,hbb,d0,d1,d2⟩:=RdP.get (h.below (kv.mono hB)) hkl
      have hokk:=HP.o _ (zd hkl)
      obtain ⟨z,hz⟩:∃z,z=p[b9].s:=⟨_,rfl⟩
      have hz1:1<=z:=by rw [hz];exact hokk.2.2.1
      have hz2:z<=1500:=by rw [hz];exact hokk.2.2.2.1
      rw [<-hz] at d1 hrun hstep hcm
      have m1:0<=per*z:=zAY zO zO
      have m2:per*z<=1500000:=by
       have:=Int.mul_le_mul h1 hz2 zO (by omega:(0:Int)<=1000)
       omega
      obtain ⟨x,hx⟩:∃x:Sn,x=⟨b9,t.now,t.now+per*z⟩:=⟨_,rfl⟩
      rw [<-hx] at hrun hstep hcm
      obtain ⟨out',ho⟩:∃out',out'=t.out++[x]:=⟨_,rfl⟩
      rw [<-ho] at hrun hstep hcm
      have Hx:=zL hx
      have Ho:=zL ho
      have Hrun:=zL hrun
      have Hstep:=zL hstep
      have Hcm:=zL hcm
      have hlt:=HLT.o
      have hq3:t.out.length+[x].length<=maxLen:=zA8
      have hq4:(t.out.length+[x].length)*24<=140737488355328:=zBF
      have hq5:wD.heap.size<=((wr.alloc (.cells #[.int .i64 b9,.int .i64 t.now,.int .i64 (t.now+per*z)] 64)).alloc (.cells #[.int .i64 b9,.int .i64 t.now,.int .i64 (t.now+per*z)] 64)).heap.size:=zA7
      have q1:(0:Int)<=(b9:Int):=zO
      have q2:(b9:Int)<(p.length:Int):=zO
      clear hrun hstep hcm e2 hil hbn hx ho hdk hokk d0 d2 hz hlt
      go_wp2_with (at_builtin;refine qd _ Sn.cs rfl (.tmp 142) (.tmp 144) 60 rfl wD.heap.size 64 iS (.agg #[.int .i64 0,.int .i64 0,.int .i64 0]) 3 24 Tryz.underlying60 hSn hS0 hS1 hS2 rfl zO Sn.qw Sn.qV (.slice A5 t.out.length c5) t.out.length (t.out.flatMap Sn.cs) rfl ((HM.o.row.alloc _).alloc _) (wr.heap.size+2) (some ⟨wr.heap.size+1,0,none⟩) 1 [x] rfl (Rd.of_block (qN _ _ _) ((zAu (λy=>[y].flatMap Sn.cs) Hx.o).symm) (Nat.lt_succ_self _) zO Sn.qw) hq3 hq4 hq5 ?_;intro v3 w3 row3 g3 at3;obtain ⟨A6,c6,hv6,row3⟩:=qI row3 zO;rw [hv6] at at3;have m4:=HM.o.took (b:=b9) (w':=w9) (v:=s.tg b9) (by rw [Hx.o]) hbw row3 g3 at3;rw [<-Ho.o] at hv6 m4;have M4:=zL m4;have a3:=((HM.o.dn.alloc (.cells #[.int .i64 b9,.int .i64 t.now,.int .i64 (t.now+per*z)] 64)).alloc (.cells #[.int .i64 b9,.int .i64 t.now,.int .i64 (t.now+per*z)] 64)).grown g3 (λe=>(HM.o.aqG _ e.symm).2.2.1 rfl);have c3:=a3.cell hkl;have f3:=a3.frozen b9;have t4:(w3.setCell ⟨qD,b9,none⟩ (.bool true)).cell? ⟨gT,b9,none⟩=some (.int .i64 (s.tg b9)):=m4.tg.cell hkl;have x3:=awC HM.o.row g3 HM.o.dn.lt b9;rw [hv6];clear hv6 m4 a3 row3 g3 at3)
      go_roundw
      case rel=>exact ⟨f - 1,⟨out',t.now+per*z,k,{s with w:=w9,v:=s.tg b9}⟩,A6,c6,gL,rfl,rfl,rfl,rfl,⟨HR.o.run.trans Hrun.o,by have:=Hstep.o.2;have:=HR.o.fuel;omega,Hstep.o.1,Hcm.o,M4.o⟩⟩
      case measure=>exact Hstep.o.2
  ·have e:=HR.o.run.trans (acB (fairM p ws) p per f t hlt)
   have eL:=zM (ah1 p per ws=t.out) (by unfold ah1;rw [e])
   have eT:=zM (anP p per ws=(List.range p.length).map t.s.tg) (by unfold anP a0T;rw [e])
   clear e
   go_wp2_with fail
   go_ret2
   rw [eL.o,eT.o]
   exact ⟨A5,c5,some ⟨gT,0,none⟩,p.length,by simp,qO HR.o.mem.row hbw,HR.o.mem.tg.rdI,KD.o.trans HR.o.mem.bel⟩
end Go.Proofs.YtoomffajodheaaaGreatDoor
