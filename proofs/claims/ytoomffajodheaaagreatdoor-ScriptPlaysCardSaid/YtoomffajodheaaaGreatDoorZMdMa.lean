/- The proof of ScriptPlays, part MdMa. Conditions: in each statement. -/
import Derived.Test.YtoomffajodheaaaGreatDoorZScMd
import Derived.Test.YtoomffajodheaaaGreatDoorZLrM
import Derived.Test.YtoomffajodheaaaGreatDoorZSfM
set_option linter.all false
namespace Go.Proofs.YtoomffajodheaaaGreatDoor
open Go.RowKit
set_option maxRecDepth 100000
theorem zBm{p:Prop}(h:p:=by rcases h with rfl|rfl|rfl|rfl<;>decide):p:=h
theorem zC9{p:Prop}(h:p:=by obtain ⟨_,_,_,_,-,-,⟨_,h9,-⟩,-⟩:=hm;exact h9.lt):p:=h
theorem zDj{p:Prop}(h:p:=by
 rw [zp hw] at be
 have HR:=zM (outT (uu s).1=abN 4) (by unfold uu;rw [be];rfl)
 have HWW:=zL hw
 clear be bv hw
 go_wp2_with fail
 refine HD.o.mono ?_
 rintro e w7 ⟨v7,rfl,hv7,k7⟩
 obtain ⟨T7,a7,rfl⟩:=hv7.qW HWW.o
 have K7:=zL (K6.o.trans (k7.mono K6.o.size))
 have HE:=zL (wG 4 4 w7 rfl zO zO)
 clear hv7 k7 c0 c1 c2 c3 HD
 go_wp2_with fail
 refine HE.o.mono ?_
 rintro e w8 ⟨rfl,k8⟩
 have K8:=zL (K7.o.trans (k8.mono K7.o.size))
 go_wp2_with fail
 go_ret
 exact ⟨by rw [HR.o];rfl,HM.o.below K8.o,Bu2.of_below K8.o⟩):p:=h
theorem zDo{p:Prop}(h:p:=by
 rintro e w8 ⟨rfl,k8⟩
 have K8:=zL (K7.o.trans (k8.mono K7.o.size))
 go_wp2_with fail
 go_ret
 exact ⟨by rw [HR.o];rfl,HM.o.below K8.o,Bu2.of_below K8.o⟩):p:=h
theorem zEB{p:Prop}(h:p:=by
 have HWW:=zL hw
 clear be bv hw hv hv2
 go_wp2_with fail
 refine HD.o.mono ?_
 rintro e w7 ⟨v7,rfl,hv7,k7⟩
 obtain rfl:=hv7.qK HWW.o
 have K7:=zL (K6.o.trans (k7.mono K6.o.size))
 clear hv7 k7 c0 c1 c2 c3 HD
 go_wp2_with fail
 refine (HDC.o w7).mono ?_
 exact zDo):p:=h
theorem zEf{p:Prop}(h:p:=by
 go_wp2_with fail
 refine HC.o.mono ?_
 rintro e w2 ⟨rfl,m2,u2⟩
 go_wp2_with fail
 go_ret
 rw [HR4.o]
 exact ⟨rfl,m2,(Bu2.of_below HB.o).trans u2⟩):p:=h
structure Bu2 (g q:Nat) (w w':World):Prop where
 os:w'.os=w.os
 tape:w'.tape=w.tape
 output:w'.output=w.output
 size:w.heap.size<=w'.heap.size
 blk:∀i,i<w.heap.size->i≠g->i≠q->w'.heap[i]?=w.heap[i]?
section
variable {g q:Nat} {w w' w2:World}
theorem Bu2.refl (g q:Nat) (w:World):Bu2 g q w w:=⟨rfl,rfl,rfl,zD _,λ_ _ _ _=>rfl⟩
theorem Bu2.trans (h:Bu2 g q w w') (k:Bu2 g q w' w2):Bu2 g q w w2:=⟨k.os.trans h.os,k.tape.trans h.tape,k.output.trans h.output,zAB h.size k.size,λi hi hg hq=>(k.blk i (zAG hi h.size) hg hq).trans (h.blk i hi hg hq)⟩
theorem Bu2.of_below (h:Below w.heap.size w w'):Bu2 g q w w':=⟨h.os,h.tape,h.output,h.size,λk hk _ _=>h.block k hk⟩
theorem Bu2.a09 (h:But g w w'):Bu2 g q w w':=⟨h.os,h.tape,h.output,h.size,λk hk hg _=>h.blk k hk hg⟩
theorem Bu2.below {B:Nat} (h:Bu2 g q w w') (hg:B<=g) (hq:B<=q) (hB:B<=w.heap.size):Below B w w':=⟨h.os,h.tape,h.output,h.size,λk hk=>h.blk k zO zO zO⟩
theorem Bu2.set1 (h:Bu2 g q w w') (i:Nat) (u:Value):Bu2 g q w (w'.setCell ⟨g,i,none⟩ u):=⟨h.os,h.tape,h.output,by rw [zf];exact h.size,λk hk hg hq=>(zAF w' ⟨g,i,none⟩ u k hg).trans (h.blk k hk hg hq)⟩
theorem Bu2.set2 (h:Bu2 g q w w') (i:Nat) (u:Value):Bu2 g q w (w'.setCell ⟨q,i,none⟩ u):=⟨h.os,h.tape,h.output,by rw [zf];exact h.size,λk hk hg hq=>(zAF w' ⟨q,i,none⟩ u k hq).trans (h.blk k hk hg hq)⟩
end
def aaD (F:Nat->Prop) (mb gb:Nat) (A:Option Addr):Prop:=∀b o,A=some ⟨b,o,none⟩->b≠mb/\b≠gb/\¬F b
theorem aaD.none_ (F:Nat->Prop) (mb gb:Nat):aaD F mb gb none:=λb o h=>by cases h
theorem Rd.bu2 {F:Nat->Prop} {α:Type} {w w':World} {mb gb size:Nat} {f:α->List Value} {A:Option Addr} {l:List α} (h:Rd w w.heap.size size f A l) (hb:Bu2 mb gb w w') (hn:0<l.length->aaD F mb gb A):Rd w' w'.heap.size size f A l:=λh0=>by
 obtain ⟨b,o,e,hlt,hc⟩:=h h0
 refine ⟨b,o,e,zAG hlt hb.size,λi x hx j v hv=>?_⟩
 rw [<-hc i x hx j v hv]
 unfold World.cell?
 simp only [hb.blk b hlt (hn h0 b o e).1 (hn h0 b o e).2.1]
def CvM (F:Nat->Prop) (w:World) (mb gb:Nat) (cs:List (List Ln)):Prop:=∃cur,Blk w gb 57 cur/\cur.size=8/\∀i (h:i<cs.length),∃a c,cur[i]?=some (.slice a cs[i].length c)/\RdL w w.heap.size a cs[i]/\(0<cs[i].length->aaD F mb gb a)
def MM (F:Nat->Prop) (w:World) (mb gb:Nat) (s:Sc):Prop:=∃An cn Ap cp,Blk w mb 48 #[.slice (some ⟨gb,0,none⟩) 8 8,.string s.K,.int .i64 s.per,.slice An s.ns.length cn,.slice Ap s.p.length cp]/\mb≠gb/\CvM F w mb gb s.cs/\RdI w w.heap.size An s.ns/\(0<s.ns.length->aaD F mb gb An)/\RdP w w.heap.size Ap s.p/\(0<s.p.length->aaD F mb gb Ap)
theorem CvM.below {F:Nat->Prop} {w w':World} {mb gb:Nat} {cs:List (List Ln)} (h:CvM F w mb gb cs) (hb:Below w.heap.size w w'):CvM F w' mb gb cs:=by
 obtain ⟨cur,h1,h2,h3⟩:=h
 refine ⟨cur,h1.below hb h1.lt,h2,λi hi=>?_⟩
 obtain ⟨a,c,e1,e2,e3⟩:=h3 i hi
 exact ⟨a,c,e1,Rd.bu2 e2 (Bu2.of_below hb) e3,e3⟩
theorem CvM.but {F:Nat->Prop} {w w':World} {mb gb:Nat} {cs:List (List Ln)} (h:CvM F w mb gb cs) (hb:But mb w w') (hg:gb≠mb):CvM F w' mb gb cs:=by
 obtain ⟨cur,h1,h2,h3⟩:=h
 refine ⟨cur,(hb.blk gb h1.lt hg).trans h1,h2,λi hi=>?_⟩
 obtain ⟨a,c,e1,e2,e3⟩:=h3 i hi
 exact ⟨a,c,e1,Rd.bu2 e2 (Bu2.a09 hb) e3,e3⟩
theorem CvM.ll {F:Nat->Prop} {w:World} {mb gb:Nat} {cs:List (List Ln)} (h:CvM F w mb gb cs):abF w w.heap.size (some ⟨gb,0,none⟩) cs:=λi hi=>by
 obtain ⟨cur,h1,h2,h3⟩:=h
 obtain ⟨a,c,e1,e2,e3⟩:=h3 i hi
 refine ⟨gb,0,a,c,rfl,h1.lt,?_,e2⟩
 rw [Nat.zero_add,h1.cell i]
 exact e1
theorem MM.below {F:Nat->Prop} {w w':World} {mb gb:Nat} {s:Sc} (h:MM F w mb gb s) (hb:Below w.heap.size w w'):MM F w' mb gb s:=by
 obtain ⟨An,cn,Ap,cp,h1,h2,h3,h4,h5,h6,h7⟩:=h
 exact ⟨An,cn,Ap,cp,h1.below hb h1.lt,h2,h3.below hb,Rd.bu2 h4 (Bu2.of_below hb) h5,h5,Rd.bu2 h6 (Bu2.of_below hb) h7,h7⟩
def afO (F:Nat->Prop) (mb gb:Nat) (r:Rs) (w:World) (e:Ending) (w':World):Prop:=e=.returned (.string (outT r.1))/\MM F w' mb gb r.2/\Bu2 mb gb w w'
theorem ag8 {F:Nat->Prop} {w:World} {base mb gb:Nat} {e:TypeId} {sz n:Nat} {A:Option Addr} {c:Nat} {xs:List Value} (h:w.ownsRow base e sz (.slice A n c) n xs) (h1:mb<base) (h2:gb<base) (hF:∀b,F b->b<base):aaD F mb gb A:=λb o e2=>by
 subst e2
 have h9:=hF b
 have:=zH h b zBO
 exact ⟨by omega,by omega,λh8=>by have:=h9 h8;omega⟩
theorem azG (F:Nat->Prop) (w:World) (hF:∀b,F b->b<w.heap.size):Calls Tryz.prog 7 #[] w λe w'=>∃mb gb,e=.returned (.pointer (some ⟨mb,0,none⟩))/\w.heap.size<=mb/\w.heap.size<=gb/\MM F w' mb gb xm/\Below w.heap.size w w':=by
 obtain ⟨i0,hi0,hz0,hz1,hz2⟩:=info_parts ao9
 go_enter Tryz.func7,Tryz.ntmps7
 go_wp2_with (at_make;refine wpList_make_full _ rfl (.const (.int .i64 8)) (.const (.int .i64 8)) 43 rfl w.heap.size 57 i0 (.slice none 0 0) 1 Tryz.underlying43 hi0 hz0 hz1 .i64 .i64 8 8 8 rfl rfl rfl rfl (by rw [hz2];omega) zA2 (zD _) ?_;intro w2 row2 g2;have K2:=zL ((zAA w.heap.size w).grown g2 (zD _) zA1);have ROW2:=zL row2;clear row2 g2)
 go_ret
 obtain ⟨-,⟨q1,-⟩|⟨g6,cap,cur,hv,hg6,hh,hnc,hcc,hsz,htk⟩⟩:=ROW2.o
 ·cases q1
 ·obtain ⟨rfl,rfl⟩:w.heap.size=g6/\8=cap:=by injection hv with h1 h2 h3;simp only [zAC,zAS,and_true] at h1;exact ⟨h1,h3⟩
  have hgw:w.heap.size<w2.heap.size:=(Array.getElem?_eq_some_iff.1 hh).1
  have hx:Blk w2 w.heap.size 57 cur:=hh
  refine ⟨w2.heap.size,w.heap.size,rfl,Nat.le_of_lt hgw,zD _,⟨none,0,none,0,Blk.new _ _ _,by omega,⟨cur,hx.alloc _,by omega,λi hi=>?_⟩,Rd.ui,λ_=>aaD.none_ F _ _,Rd.ui,λ_=>aaD.none_ F _ _⟩,K2.o.alloc K2.o.size _⟩
  have hi8:i<8:=hi
  have e1:(xm.cs[i]'hi)=[]:=zEt
  have hr:=ajE ROW2.o (j:=i) (show (madeCells (Value.slice none 0 0).cells (8*1)).toList[i]?=some (.slice none 0 0) by rw [ai4,List.getElem?_replicate,zp hi8])
  rw [hx.cell i] at hr
  rw [e1]
  exact ⟨none,0,hr,Rd.ui,λ_=>aaD.none_ F _ _⟩
theorem CvM.b2 {F:Nat->Prop} {w w':World} {mb gb:Nat} {cs:List (List Ln)} (h:CvM F w mb gb cs) (hb:Bu2 mb gb w w') (hg:w'.heap[gb]?=w.heap[gb]?):CvM F w' mb gb cs:=by
 obtain ⟨cur,h1,h2,h3⟩:=h
 refine ⟨cur,hg.trans h1,h2,λi hi=>?_⟩
 obtain ⟨a,c,e1,e2,e3⟩:=h3 i hi
 exact ⟨a,c,e1,Rd.bu2 e2 hb e3,e3⟩
section
variable (F:Nat->Prop) (mb gb:Nat) (s:Sc) (w:World) (hm:MM F w mb gb s) (hok:s.ok)
include hm hok
set_option maxHeartbeats 8000000 in
theorem af0 (An:Option Addr) (cn:Nat) (K:ByteArray) (per:Int) (ns:List Int) (hr:RdI w w.heap.size An ns) (hn:0<ns.length->aaD F mb gb An) (hl':ns.length<=9223372036854775807):
 Calls Tryz.prog 17 #[.pointer (some ⟨mb,0,none⟩),.agg #[.slice (some ⟨gb,0,none⟩) 8 8,.string K,.int .i64 per,.slice An ns.length cn]] w (afO F mb gb (yC s ⟨s.cs,K,per,ns,s.p⟩) w):=by
 obtain ⟨h8,hll⟩:=hok.ll
 have HM:=zL hm
 have m3:=hm
 obtain ⟨A0,c0,Ap,cp,x1,x2,x3,-,-,x6,x7⟩:=m3
 have hmb:=x1.lt
 have k1:Below w.heap.size w (w.alloc (.cells #[.slice (some ⟨gb,0,none⟩) 8 8,.string K,.int .i64 per,.slice An ns.length cn] 45)):=(zAA _ _).alloc (zD _) _
 have y1:Blk (w.alloc (.cells #[.slice (some ⟨gb,0,none⟩) 8 8,.string K,.int .i64 per,.slice An ns.length cn] 45)) w.heap.size 45 #[.slice (some ⟨gb,0,none⟩) 8 8,.string K,.int .i64 per,.slice An ns.length cn]:=Blk.new _ _ _
 have e0:=y1.cell 0
 have e1:=y1.cell 1
 have e2:=y1.cell 2
 have e3:=y1.cell 3
 simp only [zc,zE,zj] at e0 e1 e2 e3
 have HG:=zL (abB (some ⟨gb,0,none⟩) An 8 cn s.cs K per ns (w.alloc (.cells #[.slice (some ⟨gb,0,none⟩) 8 8,.string K,.int .i64 per,.slice An ns.length cn] 45)) w.heap.size k1.size (x3.ll.below k1) (hr.below k1) (λl h=>by have:=hll l h;omega) hl')
 rw [h8] at HG
 obtain ⟨ge,hge⟩:∃ge,ge=qF s.cs (qg K) per ns:=⟨_,rfl⟩
 rw [<-hge] at HG
 have K1:=zL k1
 have Y1:=zL y1
 have HGE:=zL hge
 clear k1 y1 hge hll
 go_enter Tryz.func17,Tryz.ntmps17
 go_wp2_with fail
 refine HG.o.mono ?_
 rintro e w2 ⟨rfl,k2⟩
 have k2':Below w.heap.size w w2:=K1.o.trans (k2.mono K1.o.size)
 obtain ⟨w3,hw3⟩:∃w3,w3=w2.alloc (.cells #[.int .i64 ge.1,.int .i64 ge.2] 55):=⟨_,rfl⟩
 have k3:Below w.heap.size w w3:=by rw [hw3];exact k2'.alloc k2'.size _
 have y3:Blk w3 w.heap.size 45 #[.slice (some ⟨gb,0,none⟩) 8 8,.string K,.int .i64 per,.slice An ns.length cn]:=by rw [hw3];exact (Y1.o.below k2 Y1.o.lt).alloc _
 have f3:Blk w3 w2.heap.size 55 #[.int .i64 ge.1,.int .i64 ge.2]:=by rw [hw3];exact Blk.new _ _ _
 have m3:Blk w3 mb 48 #[.slice (some ⟨gb,0,none⟩) 8 8,.string s.K,.int .i64 s.per,.slice A0 s.ns.length c0,.slice Ap s.p.length cp]:=x1.below k3 hmb
 have hfb:w2.heap.size≠mb:=by have:=k2'.size;omega
 have hyb:w.heap.size≠mb:=zO
 have K3:=zL k3
 have K2:=zL k2'
 have Y3:=zL y3
 have F3:=zL f3
 have M3:=zL m3
 have g0:=y3.cell 0
 have g1:=y3.cell 1
 have g2:=y3.cell 2
 have g3:=y3.cell 3
 have t0:=f3.cell 0
 have q0:=m3.cell 0
 have q1:=m3.cell 1
 have q2:=m3.cell 2
 have q3:=m3.cell 3
 have z0:=m3.frozen 0
 have z1:=m3.frozen 1
 have z2:=m3.frozen 2
 have z3:=m3.frozen 3
 simp only [zc,zE,zj] at g0 g1 g2 g3 t0 q0 q1 q2 q3
 clear e0 e1 e2 e3 y3 f3 m3 k3 k2' k2
 unfold fv
 go_upto_region 2 with fail
 rw [<-hw3]
 by_cases hz:ge.1=0
 ·have HR:=zM (yC s ⟨s.cs,K,per,ns,s.p⟩=((0,okT),⟨s.cs,K,per,ns,s.p⟩)) (by unfold yC;rw [zp (by rw [<-HGE.o];exact hz)])
  rw [hz] at t0
  obtain ⟨w4,hw4⟩:∃w4,w4=(((w3.setCell ⟨mb,0,none⟩ (.slice (some ⟨gb,0,none⟩) 8 8)).setCell ⟨mb,1,none⟩ (.string K)).setCell ⟨mb,2,none⟩ (.int .i64 per)).setCell ⟨mb,3,none⟩ (.slice An ns.length cn):=⟨_,rfl⟩
  have HW4:=zL hw4
  have b4:Blk w4 mb 48 #[.slice (some ⟨gb,0,none⟩) 8 8,.string K,.int .i64 per,.slice An ns.length cn,.slice Ap s.p.length cp]:=by rw [hw4];exact (((M3.o.qi 0 _).qi 1 _).qi 2 _).qi 3 _
  have u4:Bu2 mb gb w w4:=by rw [hw4];exact (((((Bu2.of_below K3.o).set1 0 _).set1 1 _).set1 2 _).set1 3 _)
  have g4:w4.heap[gb]?=w.heap[gb]?:=by
   obtain ⟨cur,hc,-,-⟩:=x3
   rw [hw4]
   exact (zAF _ ⟨mb,3,none⟩ _ gb (Ne.symm x2)).trans ((zAF _ ⟨mb,2,none⟩ _ gb (Ne.symm x2)).trans ((zAF _ ⟨mb,1,none⟩ _ gb (Ne.symm x2)).trans ((zAF _ ⟨mb,0,none⟩ _ gb (Ne.symm x2)).trans (K3.o.block gb hc.lt))))
  have M4:=zM (MM F w4 mb gb ⟨s.cs,K,per,ns,s.p⟩) (⟨An,cn,Ap,cp,b4,x2,x3.b2 u4 g4,Rd.bu2 hr u4 hn,hn,Rd.bu2 x6 u4 x7,x7⟩)
  have U4:=zL u4
  have f4:w4.cell? ⟨w2.heap.size,0,none⟩=some (.int .i64 (0:Nat)):=by
   rw [hw4]
   have:=((((F3.o.far (p:=⟨mb,0,none⟩) hfb (.slice (some ⟨gb,0,none⟩) 8 8)).far (p:=⟨mb,1,none⟩) hfb (.string K)).far (p:=⟨mb,2,none⟩) hfb (.int .i64 per)).far (p:=⟨mb,3,none⟩) hfb (.slice An ns.length cn)).cell 0
   rw [this,hz]
   rfl
  have HO:=zL (adR 0 ((0:Nat):Int) w4 rfl zO)
  clear b4 u4 g4
  clear hw4 hw3
  go_upto_region 4 with fail
  rw [<-HW4.o]
  go_wp2_with fail
  refine HO.o.mono ?_
  rintro e w5 ⟨rfl,k5⟩
  go_wp2_with fail
  go_ret
  rw [HR.o]
  exact ⟨rfl,M4.o.below k5,U4.o.trans (Bu2.of_below k5)⟩
 ·have HR:=zM (yC s ⟨s.cs,K,per,ns,s.p⟩=((ge.1,okT),s)) (by unfold yC;rw [<-HGE.o,z6 hz])
  have hz1:((ge.1:Int)==0)=false:=zBf
  have HO:=zL (adR ge.1 (ge.1:Int) w3 rfl (by have:=akZ s.cs (qg K) per ns;rw [<-HGE.o] at this;unfold okC at this;omega))
  clear hw3
  go_wp2_with fail
  refine HO.o.mono ?_
  rintro e w5 ⟨rfl,k5⟩
  go_wp2_with fail
  go_ret
  rw [HR.o]
  have k6:=K3.o.trans (k5.mono K3.o.size)
  exact ⟨rfl,HM.o.below k6,Bu2.of_below k6⟩
end
theorem ahI {F:Nat->Prop} {w wr:World} {mb gb ky cP:Nat} {s:Sc} {AP:Option Addr} {P:List Ln} (hm:MM F w mb gb s) (k:Below w.heap.size w wr) (h8:s.cs.length=8) (hP:RdL wr wr.heap.size AP P) (hPn:0<P.length->aaD F mb gb AP) (hk:ky<8):
 MM F (wr.setCell ⟨gb,ky,none⟩ (.slice AP P.length cP)).drew mb gb {s with cs:=s.cs.set ky P}/\Bu2 mb gb w (wr.setCell ⟨gb,ky,none⟩ (.slice AP P.length cP)).drew:=by
 have hm2:=hm.below k
 obtain ⟨An,cn,Ap,cp,h1,h2,⟨cur,g1,g2,g3⟩,h4,h5,h6,h7⟩:=hm2
 obtain ⟨W8,hW8⟩:∃W8,W8=(wr.setCell ⟨gb,ky,none⟩ (.slice AP P.length cP)).drew:=⟨_,rfl⟩
 have b1:Bu2 mb gb wr W8:=by rw [hW8];exact (((Bu2.refl mb gb wr).set2 ky (.slice AP P.length cP)).trans (Bu2.of_below ((zAA _ _).drew)))
 have xp:Blk W8 mb 48 #[.slice (some ⟨gb,0,none⟩) 8 8,.string s.K,.int .i64 s.per,.slice An s.ns.length cn,.slice Ap s.p.length cp]:=by rw [hW8];exact h1.far (p:=⟨gb,ky,none⟩) h2 _
 have xg:Blk W8 gb 57 (cur.setIfInBounds ky (.slice AP P.length cP)):=by rw [hW8];exact g1.qi ky _
 rw [<-hW8]
 refine ⟨⟨An,cn,Ap,cp,xp,h2,⟨_,xg,by simp [g2],λi hi=>?_⟩,Rd.bu2 h4 b1 h5,h5,Rd.bu2 h6 b1 h7,h7⟩,(Bu2.of_below k).trans b1⟩
 have hi8:i<8:=by simp only [List.length_set] at hi;omega
 by_cases he:i=ky
 ·subst he
  refine ⟨AP,cP,?_,?_,λh9=>hPn (by simpa only [List.getElem_set_self] using h9)⟩
  ·simp [show i<cur.size by omega]
  ·simp only [List.getElem_set_self]
   exact Rd.bu2 hP b1 hPn
 ·obtain ⟨a,c,f1,f2,f3⟩:=g3 i zO
  refine ⟨a,c,?_,?_,λh9=>f3 (by simpa only [List.getElem_set_ne (Ne.symm he)] using h9)⟩
  ·rw [Array.getElem?_setIfInBounds_ne (Ne.symm he)]
   simp only [List.getElem_set_ne (Ne.symm he)]
   exact f1
  ·simp only [List.getElem_set_ne (Ne.symm he)]
   exact Rd.bu2 f2 b1 f3
section
variable (F:Nat->Prop) (mb gb:Nat) (s:Sc) (w:World) (hm:MM F w mb gb s) (hF:∀b,F b->b<w.heap.size) (hok:s.ok)
include hm hF hok
set_option maxHeartbeats 8000000 in
theorem aoW (A':Option Addr) (c':Nat) (n:List Int) (hn8:n.length<=1000000) (hodd:n.length % 2=1) (hn0:0<=n.getD 0 0) (hr:RdI w w.heap.size A' n) (hnb:∀b o,A'=some ⟨b,o,none⟩->b≠mb/\b≠gb):
 Calls Tryz.prog 16 #[.pointer (some ⟨mb,0,none⟩),.slice A' n.length c'] w (afO F mb gb (curveS s n) w):=by
 have hn1:0<n.length:=zO
 obtain ⟨h8,hll⟩:=hok.ll
 have HM:=zL hm
 have HF:=zL hF
 clear hF
 obtain ⟨b,o,rfl,hb,e0⟩:=RdI.get hr (i:=0) zO
 simp only [Nat.add_zero] at e0
 obtain ⟨y,hy⟩:∃y,y=n.getD 0 0:=⟨_,rfl⟩
 have g0:n[0]=y:=by rw [hy];simp [List.getD,hn1]
 rw [g0] at e0
 have y0:0<=y:=by rw [hy];exact hn0
 obtain ⟨L,hL⟩:∃L,L=n.length:=⟨_,rfl⟩
 obtain ⟨P,hP⟩:∃P,P=pairsL (n.drop 1):=⟨_,rfl⟩
 have HPS:=zM (curveS s n=if L % 2=0\/8<=y then ((1,okT),s) else if P≠[]/\(qh P).1≠0 then (((qh P).1,okT),s) else ((0,okT),{s with cs:=s.cs.set y.toNat P})) (by unfold curveS;rw [<-hy,<-hL,<-hP])
 by_cases hbad:L % 2=0\/8<=y
 ·have HR:=zM (curveS s n=((1,okT),s)) (by rw [HPS.o,zp hbad])
  rw [<-hL]
  have L0:(0:Int)<(L:Int):=zO
  have hy8:8<=y:=zO
  have HE:=zL (wG 1 1 w rfl zO zO)
  clear hy hP hL g0 HPS hr hm hok hll h8 hbad
  go_enter Tryz.func16,Tryz.ntmps16
  go_wp2_with fail
  refine HE.o.mono ?_
  rintro e w1 ⟨rfl,k1⟩
  go_wp2_with fail
  go_ret
  rw [HR.o]
  exact ⟨rfl,HM.o.below k1,Bu2.of_below k1⟩
 ·obtain ⟨ky,rfl⟩:=Int.eq_ofNat_of_zero_le y0
  have hLo:L % 2=1:=by rw [hL];exact hodd
  have hk8:ky<8:=zO
  have HR:=zM (curveS s n=if P≠[]/\(qh P).1≠0 then (((qh P).1,okT),s) else ((0,okT),{s with cs:=s.cs.set ky P})) (by rw [HPS.o,z6 hbad,zAX])
  have hy8:¬8<=(ky:Int):=zO
  have L0:(0:Int)<(L:Int):=zO
  have hPl:P.length=(L - 1) / 2:=by rw [hP,acX,List.length_drop,hL]
  have hPg:∀k (h:k<P.length),∃(h1:2*k+1<n.length) (h2:2*k+2<n.length),P[k]=⟨n[2*k+1],n[2*k+2]⟩:=λk h=>by
   exact zEO
  have HPG:=zL hPg
  have HPL:=zL hPl
  have HLO:=zL hLo
  have HLL:=zL hL
  have HRN:=zL hr
  rw [<-hL]
  clear hbad hy hP hL g0 HPS hr hm hok hPg hPl hLo
  go_enter Tryz.func16,Tryz.ntmps16
  go_wp2_with fail
  go_loopw [5,6] (λov iv wr=>∃(k:Nat) (A1:Option Addr) (c1:Nat),k<=P.length/\(k=0->A1=none)/\ov=.slice A1 (P.take k).length c1/\iv=.int .i64 ((2*k+1:Nat):Int)/\wr.ownsRow w.heap.size 75 2 (.slice A1 (P.take k).length c1) (P.take k).length ((P.take k).flatMap Ln.cs)/\Below w.heap.size w wr) (λ_ iv _=>L - (intOf iv).toNat)
  case atStart=>exact ⟨0,none,0,zAK _,λ_=>rfl,rfl,rfl,⟨by simp,.inl ⟨rfl,rfl⟩⟩,zAA _ _⟩
  case round=>
   obtain ⟨k,A1,c1,hk,hk0,rfl,rfl,row,hbw⟩:=hrel
   have ROW:=zL row
   have zw:=hbw.size
   have hpl9:=HPL.o
   have hlo9:=HLO.o
   clear row
   by_cases hlt:k<P.length
   ·obtain ⟨h1,h2,hpk⟩:=HPG.o k hlt
    obtain ⟨b9,o9,hA1,-,e1⟩:=RdI.get HRN.o h1
    simp only [zAC,zAS,and_true] at hA1
    obtain ⟨rfl,rfl⟩:=hA1
    obtain ⟨b9,o9,hA1,-,e2⟩:=RdI.get HRN.o h2
    simp only [zAC,zAS,and_true] at hA1
    obtain ⟨rfl,rfl⟩:=hA1
    obtain ⟨x,hx⟩:∃x,x=P[k]:=⟨_,rfl⟩
    rw [hpk] at hx
    rw [show n[2*k+1]=x.b by rw [hx]] at e1
    rw [show n[2*k+2]=x.r by rw [hx]] at e2
    obtain ⟨j,hj⟩:∃j,j=2*k+1:=⟨_,rfl⟩
    rw [show 2*k+2=j+1 by omega] at e2
    rw [<-hj] at e1 ⊢
    have HX:=zL (hx.trans hpk.symm)
    have hjn:j+1<n.length:=zO
    have hjL:j+1<L:=by rw [HLL.o];exact hjn
    have HJ:=zL hj
    have q1:(0:Int)<=(j:Int):=zO
    have q2:(j:Int)<(L:Int):=zO
    have q3:(0:Int)<=((j+1:Nat):Int):=zO
    have q4:((j+1:Nat):Int)<(L:Int):=zO
    have q6:IntKind.i64.wrap ((j:Int)+2)=(j:Int)+2:=zBB
    have q5:IntKind.i64.wrap ((j:Int)+1)=((j+1:Nat):Int):=zBB
    obtain ⟨r,hr⟩:∃r,r=P.take k:=⟨_,rfl⟩
    rw [<-hr] at ROW ⊢
    have HRR:=zL hr
    have hrl:r.length<=1000000:=by rw [hr,zAh];omega
    clear hr hx hpk hj h1 h2 hk0 hpl9 hlo9
    obtain ⟨il,hil,hl0,hl1,hl2⟩:=info_parts aaP
    have HB2:=zL hbw
    have rowd:=own_below (ROW.o.alloc (.cells #[.int .i64 x.b,.int .i64 x.r] 75)) ((zAA _ _).drew) (zD _)
    have RD:=zL rowd
    have hbd:=hbw.drew
    have hba:Below w.heap.size w (World.drew (wr.alloc (.cells #[.int .i64 x.b,.int .i64 x.r] 75))):=(hbw.alloc zw _).drew
    have Hkeep:=zM (∀W:World,Below w.heap.size w W->W.cell? ⟨b,o+j,none⟩=some (.int .i64 x.b)/\W.cell? ⟨b,o+(j+1),none⟩=some (.int .i64 x.r)) (λW hW=>⟨(hW.cell (p:=⟨b,o+j,none⟩) hb).trans e1,(hW.cell (p:=⟨b,o+(j+1),none⟩) hb).trans e2⟩)
    obtain ⟨d1,d2⟩:=Hkeep.o wr hbw
    have two_pos:0<2:=zO
    have u5:r.length+1<=maxLen:=zA2
    have u6:(r.length+1)*16<=140737488355328:=zO
    clear rowd e1 e2
    have q7:IntKind.i64.wrap ((j:Int)+1)=(j:Int)+1:=zBB
    have q8:(0:Int)<=(j:Int)+1:=zO
    have q9:(j:Int)+1<(L:Int):=zO
    go_upto_region 7 with fail
    go_region_held3 (λw'=>w'.cell? ⟨b,o+j,none⟩=some (.int .i64 x.b)/\w'.cell? ⟨b,o+(j+1),none⟩=some (.int .i64 x.r))
     (first
          |go_keep
          |exact Hkeep.o _ hbd
          |exact Hkeep.o _ (hbd.alloc hbd.size _)
          |exact Hkeep.o _ KD)
     (first
      |((with_reducible show (if _ then Oper.wp _ _ _ (World.drew (wr.alloc (.cells #[.int .i64 x.b,.int .i64 x.r] 75))) _ _ else _));refine yx (World.drew (wr.alloc (.cells #[.int .i64 x.b,.int .i64 x.r] 75))) Ln.cs zB8 (.tmp 20) (.tmp 31) 57 zB8 _ 75 il (.agg #[.int .i64 0,.int .i64 0]) 2 16 Tryz.underlying57 hil hl0 hl1 hl2 zB8 two_pos Ln.qw Ln.qV (.slice A1 r.length c1) r.length (r.flatMap Ln.cs) zB8 RD.o _ (some ⟨wr.heap.size,0,none⟩) 1 [x] zB8 ((Rd.zU rfl two_pos Ln.qw).below ((zAA _ _).drew)) u5 u6 hba.size ?_;intro v10 w10 o10 g10 h10;have KD:Below w.heap.size w w10:=ql hba RD.o g10 (zD _) hba.size;obtain ⟨A10,c10,hv10,o10⟩:=qI o10 two_pos;rw [hv10];clear hv10)
      |fail "no arm")
    exact zDn
   ·obtain rfl:k=P.length:=by omega
    rw [List.take_length] at ROW ⊢
    have j0:((2*P.length+1:Nat):Int)=(L:Int):=zO
    rw [j0]
    have hLs:L<=1000000:=by rw [HLL.o];exact hn8
    have v5:IntKind.i64.wrap ((L:Int)+1)=(L:Int)+1:=zBB
    have v6:¬((L:Int)+1<(L:Int)):=zO
    have HWB:=zL hbw
    by_cases hP0:P=[]
    ·obtain rfl:=hk0 (by rw [hP0];rfl)
     have HR2:=zM (curveS s n=((0,okT),{s with cs:=s.cs.set ky P})) (by rw [HR.o,z6 (λh9=>h9.1 hP0)])
     rw [show P.length=0 by rw [hP0];rfl]
     have HP0:=zL hP0
     have H8:=zL h8
     clear hk0 hP0 hpl9 hlo9 hbw j0
     have KW:=HWB.o
     obtain ⟨An,cn,Ap,cp,m1,m2,⟨cur,g1,g2,g3⟩,m4,m5,m6,m7⟩:=HM.o.below KW
     have p0:=m1.cell 0
     have zk:=g1.frozen ky
     have hky:ky<cur.size:=zO
     have gk:wr.cell? ⟨gb,ky,none⟩=some cur[ky]:=by rw [g1.cell ky];simp [hky]
     simp only [zc,zE] at p0
     have n0:wr.cell? ⟨b,o,none⟩=some (.int .i64 (ky:Int)):=(KW.cell (p:=⟨b,o,none⟩) hb).trans e0
     have hbg:b≠gb:=(hnb b o rfl).2
     have HSP:∀u,(wr.setCell ⟨gb,ky,none⟩ u).drew.cell? ⟨mb,0,none⟩=some (.slice (some ⟨gb,0,none⟩) 8 8):=λu=>(zAb (a:=⟨mb,0,none⟩) (show (wr.setCell ⟨gb,ky,none⟩ u).drew.heap[mb]?=wr.heap[mb]? from zAF wr ⟨gb,ky,none⟩ u mb m2)).trans p0
     have HSK:∀u,(wr.setCell ⟨gb,ky,none⟩ u).drew.cell? ⟨b,o,none⟩=some (.int .i64 (ky:Int)):=λu=>(zAb (a:=⟨b,o,none⟩) (show (wr.setCell ⟨gb,ky,none⟩ u).drew.heap[b]?=wr.heap[b]? from zAF wr ⟨gb,ky,none⟩ u b hbg)).trans n0
     have kl:(ky:Int)<8:=zO
     have kz:(0:Int)<=(ky:Int):=zO
     have kLz:(0:Int)<(L:Int):=by have:=HLL.o;omega
     have kLn:0<L:=zO
     clear m1 m4 m5 m6 m7 g1 g2 g3
     go_upto_region 12 with fail
     go_region_held3 (λw'=>w'.cell? ⟨mb,0,none⟩=some (.slice (some ⟨gb,0,none⟩) 8 8)/\w'.cell? ⟨b,o,none⟩=some (.int .i64 (ky:Int)))
          (first
           |go_keep
           |exact ⟨HSP _,HSK _⟩
           |fail "keep")
          (fail)
     go_wp2_with fail
     go_ret
     rw [HR2.o]
     have hcm:=ahI (cP:=c1) HM.o KW H8.o (show RdL wr wr.heap.size none P by rw [HP0.o];exact Rd.ui) (λ_=>aaD.none_ F mb gb) hk8
     rw [show P.length=0 by rw [HP0.o];rfl] at hcm
     exact ⟨rfl,hcm.1,hcm.2⟩
    ·obtain ⟨gs,cap,hv,hgb,hgs⟩:=ROW.o.form (List.length_pos_iff.2 hP0)
     obtain rfl:A1=some ⟨gs,0,none⟩:=by injection hv
     have hrp:RdL wr wr.heap.size (some ⟨gs,0,none⟩) P:=RdL.qA ROW.o
     have hnp:aaD F mb gb (some ⟨gs,0,none⟩):=ag8 ROW.o (by obtain ⟨_,_,_,_,h9,-⟩:=HM.o;exact h9.lt) (by obtain ⟨_,_,_,_,-,-,⟨_,h9,-⟩,-⟩:=HM.o;exact h9.lt) HF.o
     have HCK:=zL (kZ (some ⟨gs,0,none⟩) c1 P wr wr.heap.size (zD _) hrp (by have:=HPL.o;have:=HLL.o;omega))
     have HRP0:=zL hrp
     have HNP:=zL hnp
     have hPp:0<(P.length:Int):=by have:=List.length_pos_iff.2 hP0;omega
     have HP0:=zL hP0
     have H8:=zL h8
     clear hv hrp hnp hP0 hk0 hpl9 hlo9 hbw j0
     go_wp2_with fail
     refine HCK.o.mono ?_
     rintro e wk ⟨rfl,k9⟩
     obtain ⟨wx,hwx⟩:∃wx,wx=wk.alloc (.cells #[.int .i64 (qh P).1,.int .i64 (qh P).2] 55):=⟨_,rfl⟩
     have kx:Below w.heap.size w wx:=by rw [hwx];exact (HWB.o.trans (k9.mono HWB.o.size)).alloc (HWB.o.trans (k9.mono HWB.o.size)).size _
     have kx2:Below wr.heap.size wr wx:=by rw [hwx];exact k9.alloc k9.size _
     have f3:Blk wx wk.heap.size 55 #[.int .i64 (qh P).1,.int .i64 (qh P).2]:=by rw [hwx];exact Blk.new _ _ _
     have t0:=f3.cell 0
     simp only [zc,zE] at t0
     have HWC:=zL kx
     have HRP:=zL ((HRP0.o.below kx2).more kx2.size)
     clear f3 kx kx2
     unfold fv
     go_upto_region 10 with fail
     rw [<-hwx]
     clear hwx
     by_cases hce:(qh P).1=0
     ·have HR2:=zM (curveS s n=((0,okT),{s with cs:=s.cs.set ky P})) (by rw [HR.o,z6 (λh9=>h9.2 hce)])
      rw [hce] at t0
      clear hce HCK
      have KW:=HWC.o
      obtain ⟨An,cn,Ap,cp,m1,m2,⟨cur,g1,g2,g3⟩,m4,m5,m6,m7⟩:=HM.o.below KW
      have p0:=m1.cell 0
      have zk:=g1.frozen ky
      have hky:ky<cur.size:=zO
      have gk:wx.cell? ⟨gb,ky,none⟩=some cur[ky]:=by rw [g1.cell ky];simp [hky]
      simp only [zc,zE] at p0
      have n0:wx.cell? ⟨b,o,none⟩=some (.int .i64 (ky:Int)):=(KW.cell (p:=⟨b,o,none⟩) hb).trans e0
      have hbg:b≠gb:=(hnb b o rfl).2
      have HSP:∀u,(wx.setCell ⟨gb,ky,none⟩ u).drew.cell? ⟨mb,0,none⟩=some (.slice (some ⟨gb,0,none⟩) 8 8):=λu=>(zAb (a:=⟨mb,0,none⟩) (show (wx.setCell ⟨gb,ky,none⟩ u).drew.heap[mb]?=wx.heap[mb]? from zAF wx ⟨gb,ky,none⟩ u mb m2)).trans p0
      have HSK:∀u,(wx.setCell ⟨gb,ky,none⟩ u).drew.cell? ⟨b,o,none⟩=some (.int .i64 (ky:Int)):=λu=>(zAb (a:=⟨b,o,none⟩) (show (wx.setCell ⟨gb,ky,none⟩ u).drew.heap[b]?=wx.heap[b]? from zAF wx ⟨gb,ky,none⟩ u b hbg)).trans n0
      have kl:(ky:Int)<8:=zO
      have kz:(0:Int)<=(ky:Int):=zO
      have kLz:(0:Int)<(L:Int):=by have:=HLL.o;omega
      have kLn:0<L:=zO
      clear m1 m4 m5 m6 m7 g1 g2 g3
      go_upto_region 12 with fail
      go_region_held3 (λw'=>w'.cell? ⟨mb,0,none⟩=some (.slice (some ⟨gb,0,none⟩) 8 8)/\w'.cell? ⟨b,o,none⟩=some (.int .i64 (ky:Int)))
       (first
        |go_keep
        |exact ⟨HSP _,HSK _⟩
        |fail "keep")
       (fail)
      go_wp2_with fail
      go_ret
      rw [HR2.o]
      have hcm:=ahI (cP:=c1) HM.o KW H8.o HRP.o (λ_=>HNP.o) hk8
      exact ⟨rfl,hcm.1,hcm.2⟩
     ·have HR2:=zM (curveS s n=(((qh P).1,okT),s)) (by rw [HR.o,zp ⟨HP0.o,hce⟩])
      have hc0:(0:Int)<((qh P).1:Int):=zO
      have HE:=zL (wG (qh P).1 _ wx rfl zO (by have:=aq9 P;unfold okC at this;omega))
      have HOT:=zM (outT ((qh P).1,okT)=abN (qh P).1) (z6 hce)
      clear hce HCK
      go_wp2_with fail
      refine HE.o.mono ?_
      rintro e w5 ⟨rfl,k5⟩
      go_wp2_with fail
      go_ret
      rw [HR2.o]
      have k6:=HWC.o.trans (k5.mono HWC.o.size)
      exact ⟨by rw [HOT.o];rfl,HM.o.below k6,Bu2.of_below k6⟩
end
theorem as6 {cs:List (List Ln)} {n:Nat} {per:Int} {ns:List Int} (hg:(qF cs n per ns).1=0) (h:cvO (bndAll cs)=none):uj cs n per ns=(4,-1)/\ac7 cs n per ns=0:=by
 have e1:xA n per (bndAll cs)=(4,-1)/\acK n per (bndAll cs)=0:=by
  cases ha:bndAll cs with
  |none=>exact ⟨rfl,rfl⟩
  |some all=>
   rw [ha] at h
   have h':(if all.length=0 then none else some all)=(none:Option (List Ln)):=h
   by_cases h0:all.length=0
   ·have e:xA n per (some all)=(4,-1):=by rw [xD,zp h0]
    exact ⟨e,by rw [xI,e,z6 zA1]⟩
   ·rw [z6 h0] at h';cases h'
 exact ⟨(z6 zO).trans e1.1,(z6 zO).trans e1.2⟩
theorem as5 {cs:List (List Ln)} {n:Nat} {per:Int} {ns:List Int} {all:List Ln} (hg:(qF cs n per ns).1=0) (h:cvO (bndAll cs)=some all):uj cs n per ns=(if (vO n all per).1≠0 then (4,-1) else (0,-1))/\ac7 cs n per ns=(if (vO n all per).1=0 then adY n all per else 0)/\(qh all).1=0:=by
 obtain ⟨h8,hcs,-,-⟩:=xL hg
 cases ha:bndAll cs with
 |none=>rw [ha] at h;cases h
 |some al=>
  rw [ha] at h
  have h':(if al.length=0 then none else some al)=some all:=h
  by_cases h0:al.length=0
  ·rw [zp h0] at h';cases h'
  ·rw [z6 h0] at h'
   injection h' with h'
   subst h'
   have e:xA n per (some al)=(if (vO n al per).1≠0 then (4,-1) else (0,-1)):=by rw [xD,z6 h0]
   refine ⟨(z6 zO).trans (by rw [ha];exact e),(z6 zO).trans ?_,(a0I hcs h8 ha zO).1⟩
   rw [ha,xI,e]
   by_cases h3:(vO n al per).1=0
   ·have e9:¬(vO n al per).1≠0:=λh9=>h9 h3
    rw [z6 e9,zp rfl,zp h3]
   ·rw [zp h3,z6 zA1,z6 h3]
section
variable (F:Nat->Prop) (mb gb:Nat) (s:Sc) (S:Nat->Addr) (w:World) (hm:MM F w mb gb s) (hok:s.ok) (hS:Snt w w.heap.size S [2,3,4])
include hm hok hS
set_option maxHeartbeats 8000000 in
theorem aoX:Calls Tryz.prog 21 #[.pointer (some ⟨mb,0,none⟩)] w (afO F mb gb (uu s) w):=by
 obtain ⟨h8,hll⟩:=hok.ll
 obtain ⟨-,hcs,-,-⟩:=xL hok.1
 have HM:=zL hm
 have HG:=zL hok.1
 obtain ⟨An,cn,Ap,cp,x1,x2,x3,x4,x5,x6,x7⟩:=hm
 have c0:=x1.cell 0
 have c1:=x1.cell 1
 have c2:=x1.cell 2
 have c3:=x1.cell 3
 simp only [zc,zE,zj] at c0 c1 c2 c3
 have HCV:=zL (amU (some ⟨gb,0,none⟩) An 8 cn s.cs s.K s.per s.ns w w.heap.size (zD _) x3.ll hll h8 hcs)
 rw [h8] at HCV
 have X1:=zL x1
 clear x1 x2 x3 x4 x5 x6 x7 hll h8 hcs hok
 go_enter Tryz.func21,Tryz.ntmps21
 go_wp2_with fail
 refine HCV.o.mono ?_
 rintro e w6 ⟨A6,c6,rfl,hr6,k6⟩
 have K6:=zL k6
 have X6:=zL (X1.o.below k6 X1.o.lt)
 have HR6:=zL hr6
 clear hr6 k6 c0 c1 c2 c3 HCV
 cases hcv:cvO (bndAll s.cs) with
 |none=>
  obtain ⟨be,bv⟩:=as6 HG.o hcv
  have HR:=zM (outT (uu s).1=abN 4) (by unfold uu;rw [be];rfl)
  have HE:=zL (wG 4 4 w6 rfl zO zO)
  have hb0:cvB (none:Option (List Ln))=false:=rfl
  rw [hb0]
  clear be bv hb0 hcv
  go_wp2_with fail
  refine HE.o.mono ?_
  rintro e w7 ⟨rfl,k7⟩
  have K7:=zL (K6.o.trans (k7.mono K6.o.size))
  go_wp2_with fail
  go_ret
  exact ⟨by rw [HR.o];rfl,HM.o.below K7.o,Bu2.of_below K7.o⟩
 |some all=>
  obtain ⟨be,bv,hall⟩:=as5 HG.o hcv
  have hal:all.length<=9223372036854775807:=by have:=(crvErr_ok hall).2.1;omega
  rw [hcv] at HR6
  replace HR6:=zM (RdL w6 w6.heap.size A6 all) HR6.o
  have hb0:cvB (some all:Option (List Ln))=true:=rfl
  have hb1:cvL (some all:Option (List Ln))=all:=rfl
  rw [hb0,hb1]
  have c0:=X6.o.cell 0
  have c1:=X6.o.cell 1
  have c2:=X6.o.cell 2
  have c3:=X6.o.cell 3
  simp only [zc,zE,zj] at c0 c1 c2 c3
  clear hb0 hb1 hcv hall
  rcases bfifo_cases s.K with ⟨s0,hn⟩|⟨s0,hn⟩
  ·have hhe:vO (qg s.K) all s.per=yf all s.per:=zp hn
   have hhv:adY (qg s.K) all s.per=wS all s.per:=zp hn
   rw [hhe] at be
   rw [hhe,hhv] at bv
   have HD:=zL (afB A6 c6 all s.per S w6 w6.heap.size (zD _) HR6.o (((hS.below K6.o).more K6.o.size).sub zA1) hal)
   clear hhe hhv hn
   by_cases hw:(yf all s.per).1=0
   ·rw [z6 zO] at be
    rw [zp hw] at bv
    have HR:=zM (outT (uu s).1=itT (wS all s.per)) (by unfold uu;rw [be,bv];rfl)
    have hv:=aeC s.cs (qg s.K) s.per s.ns
    have hv2:=aiB s.cs (qg s.K) s.per s.ns
    rw [bv] at hv hv2
    have HDC:=zL (λW=>wH (wS all s.per) W zO zO)
    exact zEB
   ·exact zDj
  ·have hhe:vO (qg s.K) all s.per=yT all s.per:=z6 hn
   have hhv:adY (qg s.K) all s.per=uD all s.per:=z6 hn
   rw [hhe] at be
   rw [hhe,hhv] at bv
   have HD:=zL (afH A6 c6 all s.per S w6 w6.heap.size (zD _) HR6.o (((hS.below K6.o).more K6.o.size).sub zA1) hal)
   clear hhe hhv hn
   by_cases hw:(yT all s.per).1=0
   ·rw [z6 zO] at be
    rw [zp hw] at bv
    have HR:=zM (outT (uu s).1=itT (uD all s.per)) (by unfold uu;rw [be,bv];rfl)
    have hv:=aeC s.cs (qg s.K) s.per s.ns
    have hv2:=aiB s.cs (qg s.K) s.per s.ns
    rw [bv] at hv hv2
    have HDC:=zL (λW=>wH (uD all s.per) W zO zO)
    exact zEB
   ·exact zDj
end
theorem auM {s:Sc} {w k:ByteArray} {n:List Int} (h:w=qH) (h1:0<n.length) (h2:n.getD 0 0<10):xx s ⟨w,k,n⟩=curveS s n:=by
 subst h
 unfold xx zA
 dsimp only
 rw [z6 (show ¬qH=qY by decide),zp ⟨rfl,h1,h2⟩]
theorem amY {s:Sc} {w k:ByteArray} {n:List Int} (h:w=qJ) (h1:n.length=8):xx s ⟨w,k,n⟩=yC s ⟨s.cs,s.K,s.per,n,s.p⟩:=by
 subst h
 unfold xx zA
 dsimp only
 rw [z6 (show ¬qJ=qY by decide),z6 (λh=>zAv h.1 zA4),zp ⟨rfl,h1⟩]
theorem apW {s:Sc} {w k:ByteArray} {n:List Int} (h:w=qz) (h1:n.length=3) (h2:n.getD 0 0<10):xx s ⟨w,k,n⟩=vJ s n:=by
 subst h
 unfold xx zA
 dsimp only
 rw [z6 (show ¬qz=qY by decide),z6 (λh=>zAv h.1 zA4),z6 (λh=>zAv h.1 zA4),zp ⟨rfl,h1,h2⟩]
theorem a1Q {s:Sc} {w k:ByteArray} {n:List Int} (h:w=wAt) (h1:n.length=2) (h2:n.getD 0 0<10):xx s ⟨w,k,n⟩=afJ s n:=by
 subst h
 unfold xx zA
 dsimp only
 rw [z6 (show ¬wAt=qY by decide),z6 (λh=>zAv h.1 zA4),z6 (λh=>zAv h.1 zA4),z6 (λh=>zAv h.1 zA4),zp ⟨rfl,h1,h2⟩]
theorem axQ {s:Sc} {w k:ByteArray} {n:List Int} (h:w=qY):xx s ⟨w,k,n⟩=aaX s k (n.getD 0 0):=by
 subst h
 unfold xx
 dsimp only
 rw [zp rfl]
theorem aa0 {s:Sc} {w k:ByteArray} {n:List Int} (h1:n.length=0) (h:w=zm\/w=xG\/w=qZ\/w=ze):xx s ⟨w,k,n⟩=uE s w:=by
 have hl:¬w=qY:=zBm
 have hc:¬w=qH:=zBm
 have hn:¬w=qJ:=zBm
 have hp:¬w=qz:=zBm
 have ha:¬w=wAt:=zBm
 unfold xx zA
 dsimp only
 rw [z6 hl,z6 (λh=>hc h.1),z6 (λh=>hn h.1),z6 (λh=>hp h.1),z6 (λh=>ha h.1),z6 zO]
section
variable (F:Nat->Prop) (mb gb:Nat) (s:Sc) (w:World) (hm:MM F w mb gb s) (hF:∀b,F b->b<w.heap.size) (hok:s.ok) (word kind:ByteArray) (A':Option Addr) (c':Nat) (n:List Int) (hr:RdI w w.heap.size A' n) (hnb:0<n.length->aaD F mb gb A') (hn20:n.length<=20)
include hm hF hok hr hnb hn20
set_option maxHeartbeats 16000000 in
theorem auW (hw:word=qH) (hodd:n.length % 2=1) (h0:0<=n.getD 0 0) (h9:n.getD 0 0<10):
 Calls Tryz.prog 9 #[.pointer (some ⟨mb,0,none⟩),.agg #[.string word,.string kind,.slice A' n.length c']] w (afO F mb gb (xx s ⟨word,kind,n⟩) w):=by
 have HR:=zL (auM (s:=s) (k:=kind) hw (show 0<n.length by omega) h9)
 have t0:(word.toList==([99,117,114,118,101]:List UInt8))=true:=by rw [hw];exact yP qH
 obtain ⟨X,hX⟩:∃X:World,X=w.alloc (.cells #[.string word,.string kind,.slice A' n.length c'] 29):=⟨_,rfl⟩
 obtain ⟨lb,hlb⟩:∃lb,lb=w.heap.size:=⟨_,rfl⟩
 have k1:Below w.heap.size w X:=zBA
 have y1:Blk X lb 29 #[.string word,.string kind,.slice A' n.length c']:=zBZ
 have hlw:w.heap.size<=lb:=zO
 have e0:=y1.cell 0
 have e1:=y1.cell 1
 have e2:=y1.cell 2
 simp only [zc,zE,zj] at e0 e1 e2
 have HMX:=zL (hm.below k1)
 have HRX:=zL ((hr.below k1).more k1.size)
 have HFX:=zL (λb (h9:F b)=>zAG (hF b h9) k1.size)
 have K1:=zL k1
 have Y1:=zL y1
 have HC:=zL (aoW F mb gb s X HMX.o HFX.o hok A' c' n zO hodd h0 HRX.o (λb o e=>⟨(hnb zO b o e).1,(hnb zO b o e).2.1⟩))
 clear hw hodd h0 h9 k1 y1
 go_enter Tryz.func9,Tryz.ntmps9
 go_upto_region 1 with fail
 rw [<-hX,<-hlb]
 clear hX hlb
 go_wp2_with fail
 refine HC.o.mono ?_
 rintro e w2 ⟨rfl,m2,u2⟩
 go_wp2_with fail
 go_ret
 rw [HR.o]
 exact ⟨rfl,m2,(Bu2.of_below K1.o).trans u2⟩
set_option maxHeartbeats 16000000 in
theorem anG (hw:word=qJ) (h1:n.length=8):
 Calls Tryz.prog 9 #[.pointer (some ⟨mb,0,none⟩),.agg #[.string word,.string kind,.slice A' n.length c']] w (afO F mb gb (xx s ⟨word,kind,n⟩) w):=by
 have HR:=zL (amY (s:=s) (k:=kind) hw h1)
 have t0:(word.toList==([99,117,114,118,101]:List UInt8))=false:=by rw [hw];exact tl_ne (a:=qJ) (b:=qH) zA4
 have t1:(word.toList==([108,105,110,107]:List UInt8))=false:=by rw [hw];exact tl_ne (a:=qJ) (b:=qY) zA4
 have t2:(word.toList==([110,117,109,98,101,114,115]:List UInt8))=true:=by rw [hw];exact yP qJ
 obtain ⟨X,hX⟩:∃X:World,X=w.alloc (.cells #[.string word,.string kind,.slice A' n.length c'] 29):=⟨_,rfl⟩
 obtain ⟨lb,hlb⟩:∃lb,lb=w.heap.size:=⟨_,rfl⟩
 have k1:Below w.heap.size w X:=zBA
 have y1:Blk X lb 29 #[.string word,.string kind,.slice A' n.length c']:=zBZ
 have hlw:w.heap.size<=lb:=zO
 have e0:=y1.cell 0
 have e1:=y1.cell 1
 have e2:=y1.cell 2
 simp only [zc,zE,zj] at e0 e1 e2
 have HMX:=zL (hm.below k1)
 have HRX:=zL ((hr.below k1).more k1.size)
 have HFX:=zL (λb (h9:F b)=>zAG (hF b h9) k1.size)
 have K1:=zL k1
 have Y1:=zL y1
 obtain ⟨An,cn,Ap,cp,x1,x2,-,-,-,-,-⟩:=HMX.o
 have c0:=x1.cell 0
 have c1:=x1.cell 1
 have c2:=x1.cell 2
 have c3:=x1.cell 3
 simp only [zc,zE,zj] at c0 c1 c2 c3
 obtain ⟨X2,hX2⟩:∃X2:World,X2=X.alloc (.cells #[.slice (some ⟨gb,0,none⟩) 8 8,.string s.K,.int .i64 s.per,.slice An s.ns.length cn] 45):=⟨_,rfl⟩
 obtain ⟨qb,hqb⟩:∃qb,qb=X.heap.size:=⟨_,rfl⟩
 have k2:Below w.heap.size w X2:=by rw [hX2];exact k1.alloc k1.size _
 have g2:Blk X2 qb 45 #[.slice (some ⟨gb,0,none⟩) 8 8,.string s.K,.int .i64 s.per,.slice An s.ns.length cn]:=by rw [hX2,hqb];exact Blk.new _ _ _
 have y2:Blk X2 lb 29 #[.string word,.string kind,.slice A' n.length c']:=by rw [hX2];exact y1.alloc _
 have hqw:w.heap.size<=qb:=by have:=k1.size;omega
 have hql:lb≠qb:=by have:=y1.lt;omega
 obtain ⟨X3,hX3⟩:∃X3:World,X3=X2.setCell ⟨qb,3,none⟩ (.slice A' n.length c'):=⟨_,rfl⟩
 have k3:Below w.heap.size w X3:=by rw [hX3];exact k2.setCell (p:=⟨qb,3,none⟩) hqw _
 have G3:=zM (Blk X3 qb 45 #[.slice (some ⟨gb,0,none⟩) 8 8,.string s.K,.int .i64 s.per,.slice A' n.length c']) (by rw [hX3];exact g2.qi 3 _)
 have HBC:=zL (af0 F mb gb s X3 (hm.below k3) hok A' c' s.K s.per n ((hr.below k3).more k3.size) hnb zO)
 have d2:=y2.cell 2
 have d3:=g2.cell 3
 have z3:=g2.frozen 3
 simp only [zc,zE,zj] at d2 d3
 have K3:=zL k3
 clear hw h1 k1 y1 x1 k2 g2 y2 k3
 go_enter Tryz.func9,Tryz.ntmps9
 go_upto_region 1 with fail
 rw [<-hX,<-hlb]
 clear hX hlb
 go_upto_region 16 with fail
 rw [<-hX2,<-hqb]
 clear hX2 hqb c0 c1 c2 c3 e0 e1 e2
 go_upto_region 17 with fail
 rw [<-hX3]
 clear hX3 d2 d3 z3
 have c0:=G3.o.cell 0
 have c1:=G3.o.cell 1
 have c2:=G3.o.cell 2
 have c3:=G3.o.cell 3
 simp only [zc,zE,zj] at c0 c1 c2 c3
 go_wp2_with fail
 refine HBC.o.mono ?_
 rintro e w2 ⟨rfl,m2,u2⟩
 go_wp2_with fail
 go_ret
 rw [HR.o]
 exact ⟨rfl,m2,(Bu2.of_below K3.o).trans u2⟩
set_option maxHeartbeats 16000000 in
theorem auX (hw:word=zm) (h1:n.length=0):
 Calls Tryz.prog 9 #[.pointer (some ⟨mb,0,none⟩),.agg #[.string word,.string kind,.slice A' n.length c']] w (afO F mb gb (xx s ⟨word,kind,n⟩) w):=by
 have HR:=zM (xx s ⟨word,kind,n⟩=((0,okT),{s with p:=[]})) (by rw [aa0 h1 (.inl hw)];unfold uE;rw [zp hw])
 have t0:(word.toList==([99,117,114,118,101]:List UInt8))=false:=by rw [hw];exact tl_ne (a:=zm) (b:=qH) zA4
 have t1:(word.toList==([108,105,110,107]:List UInt8))=false:=by rw [hw];exact tl_ne (a:=zm) (b:=qY) zA4
 have t2:(word.toList==([110,117,109,98,101,114,115]:List UInt8))=false:=by rw [hw];exact tl_ne (a:=zm) (b:=qJ) zA4
 have t3:(word.toList==([112,97,99,107,101,116]:List UInt8))=false:=by rw [hw];exact tl_ne (a:=zm) (b:=qz) zA4
 have t4:(word.toList==([97,116]:List UInt8))=false:=by rw [hw];exact tl_ne (a:=zm) (b:=wAt) zA4
 have t5:(word.toList==([99,108,101,97,114]:List UInt8))=true:=by rw [hw];exact yP zm
 obtain ⟨X,hX⟩:∃X:World,X=w.alloc (.cells #[.string word,.string kind,.slice A' n.length c'] 29):=⟨_,rfl⟩
 obtain ⟨lb,hlb⟩:∃lb,lb=w.heap.size:=⟨_,rfl⟩
 have k1:Below w.heap.size w X:=zBA
 have y1:Blk X lb 29 #[.string word,.string kind,.slice A' n.length c']:=zBZ
 have hlw:w.heap.size<=lb:=zO
 have e0:=y1.cell 0
 have e1:=y1.cell 1
 have e2:=y1.cell 2
 simp only [zc,zE,zj] at e0 e1 e2
 have HMX:=zL (hm.below k1)
 have HRX:=zL ((hr.below k1).more k1.size)
 have HFX:=zL (λb (h9:F b)=>zAG (hF b h9) k1.size)
 have K1:=zL k1
 have Y1:=zL y1
 have hmx:=HMX.o
 obtain ⟨An,cn,Ap,cp,x1,x2,x3,x4,x5,-,-⟩:=hmx
 have c4:=x1.cell 4
 have z4:=x1.frozen 4
 simp only [zc,zE,zj] at c4
 obtain ⟨X2,hX2⟩:∃X2:World,X2=X.setCell ⟨mb,4,none⟩ (.slice none 0 0):=⟨_,rfl⟩
 have u2:Bu2 mb gb X X2:=by rw [hX2];exact (Bu2.refl _ _ _).set1 4 _
 have g2:X2.heap[gb]?=X.heap[gb]?:=by rw [hX2];exact zAF _ ⟨mb,4,none⟩ _ gb (Ne.symm x2)
 have M2:=zM (MM F X2 mb gb {s with p:=[]}) (⟨An,cn,none,0,by rw [hX2];exact x1.qi 4 _,x2,x3.b2 u2 g2,Rd.bu2 x4 u2 x5,x5,Rd.ui,λ_=>aaD.none_ F mb gb⟩)
 have U2:=zL ((Bu2.of_below k1).trans u2)
 clear hw h1 k1 y1 x1 x3 x4 x5 u2 g2
 go_enter Tryz.func9,Tryz.ntmps9
 go_upto_region 1 with fail
 rw [<-hX,<-hlb]
 clear hX hlb
 go_upto_region 35 with fail
 rw [<-hX2]
 clear hX2 c4 z4 e0 e1 e2
 go_wp2_with fail
 go_ret
 rw [HR.o]
 exact ⟨rfl,M2.o,U2.o⟩
set_option maxHeartbeats 16000000 in
theorem auY (S:Nat->Addr) (hS:Snt w w.heap.size S [2,3,4]) (hw:word=ze) (h1:n.length=0):
 Calls Tryz.prog 9 #[.pointer (some ⟨mb,0,none⟩),.agg #[.string word,.string kind,.slice A' n.length c']] w (afO F mb gb (xx s ⟨word,kind,n⟩) w):=by
 have HR:=zM (xx s ⟨word,kind,n⟩=uu s) (by rw [aa0 h1 (.inr (.inr (.inr hw)))];unfold uE;rw [hw,z6 zA4,z6 zA4,z6 zA4,zp rfl])
 have t0:(word.toList==([99,117,114,118,101]:List UInt8))=false:=by rw [hw];exact tl_ne (a:=ze) (b:=qH) zA4
 have t1:(word.toList==([108,105,110,107]:List UInt8))=false:=by rw [hw];exact tl_ne (a:=ze) (b:=qY) zA4
 have t2:(word.toList==([110,117,109,98,101,114,115]:List UInt8))=false:=by rw [hw];exact tl_ne (a:=ze) (b:=qJ) zA4
 have t3:(word.toList==([112,97,99,107,101,116]:List UInt8))=false:=by rw [hw];exact tl_ne (a:=ze) (b:=qz) zA4
 have t4:(word.toList==([97,116]:List UInt8))=false:=by rw [hw];exact tl_ne (a:=ze) (b:=wAt) zA4
 have t5:(word.toList==([99,108,101,97,114]:List UInt8))=false:=by rw [hw];exact tl_ne (a:=ze) (b:=zm) zA4
 have t6:(word.toList==([98,111,117,110,100]:List UInt8))=true:=by rw [hw];exact yP ze
 obtain ⟨X,hX⟩:∃X:World,X=w.alloc (.cells #[.string word,.string kind,.slice A' n.length c'] 29):=⟨_,rfl⟩
 obtain ⟨lb,hlb⟩:∃lb,lb=w.heap.size:=⟨_,rfl⟩
 have k1:Below w.heap.size w X:=zBA
 have y1:Blk X lb 29 #[.string word,.string kind,.slice A' n.length c']:=zBZ
 have hlw:w.heap.size<=lb:=zO
 have e0:=y1.cell 0
 have e1:=y1.cell 1
 have e2:=y1.cell 2
 simp only [zc,zE,zj] at e0 e1 e2
 have HMX:=zL (hm.below k1)
 have HRX:=zL ((hr.below k1).more k1.size)
 have HFX:=zL (λb (h9:F b)=>zAG (hF b h9) k1.size)
 have K1:=zL k1
 have Y1:=zL y1
 have HC:=zL (aoX F mb gb s S X HMX.o hok ((hS.below k1).more k1.size))
 clear hw h1 k1 y1
 go_enter Tryz.func9,Tryz.ntmps9
 go_upto_region 1 with fail
 rw [<-hX,<-hlb]
 clear hX hlb
 go_wp2_with fail
 refine HC.o.mono ?_
 rintro e w2 ⟨rfl,m2,u2⟩
 go_wp2_with fail
 go_ret
 rw [HR.o]
 exact ⟨rfl,m2,(Bu2.of_below K1.o).trans u2⟩
set_option maxHeartbeats 16000000 in
theorem a13 (hw:word=wAt) (h1:n.length=2) (h0:0<=n.getD 0 0) (h9:n.getD 0 0<10) (ht0:0<=n.getD 1 0) (ht:n.getD 1 0<=9999999):
 Calls Tryz.prog 9 #[.pointer (some ⟨mb,0,none⟩),.agg #[.string word,.string kind,.slice A' n.length c']] w (afO F mb gb (xx s ⟨word,kind,n⟩) w):=by
 have HR0:=a1Q (s:=s) (k:=kind) hw h1 h9
 have t0:(word.toList==([99,117,114,118,101]:List UInt8))=false:=by rw [hw];exact tl_ne (a:=wAt) (b:=qH) zA4
 have t1:(word.toList==([108,105,110,107]:List UInt8))=false:=by rw [hw];exact tl_ne (a:=wAt) (b:=qY) zA4
 have t2:(word.toList==([110,117,109,98,101,114,115]:List UInt8))=false:=by rw [hw];exact tl_ne (a:=wAt) (b:=qJ) zA4
 have t3:(word.toList==([112,97,99,107,101,116]:List UInt8))=false:=by rw [hw];exact tl_ne (a:=wAt) (b:=qz) zA4
 have t4:(word.toList==([97,116]:List UInt8))=true:=by rw [hw];exact yP wAt
 obtain ⟨X,hX⟩:∃X:World,X=w.alloc (.cells #[.string word,.string kind,.slice A' n.length c'] 29):=⟨_,rfl⟩
 obtain ⟨lb,hlb⟩:∃lb,lb=w.heap.size:=⟨_,rfl⟩
 have k1:Below w.heap.size w X:=zBA
 have y1:Blk X lb 29 #[.string word,.string kind,.slice A' n.length c']:=zBZ
 have hlw:w.heap.size<=lb:=zO
 have e0:=y1.cell 0
 have e1:=y1.cell 1
 have e2:=y1.cell 2
 simp only [zc,zE,zj] at e0 e1 e2
 have HMX:=zL (hm.below k1)
 have HRX:=zL ((hr.below k1).more k1.size)
 have HFX:=zL (λb (h9:F b)=>zAG (hF b h9) k1.size)
 have K1:=zL k1
 have Y1:=zL y1
 obtain ⟨y,hy⟩:∃y,y=n.getD 0 0:=⟨_,rfl⟩
 obtain ⟨t,hty⟩:∃t,t=n.getD 1 0:=⟨_,rfl⟩
 obtain ⟨b,o,rfl,hb,d0⟩:=RdI.get hr (i:=0) zO
 obtain ⟨b9,o9,hA1,-,d1⟩:=RdI.get hr (i:=1) zO
 simp only [zAC,zAS,and_true] at hA1
 obtain ⟨rfl,rfl⟩:=hA1
 rw [show n[0]=y by rw [hy];simp [List.getD,show 0<n.length by omega]] at d0
 rw [show n[1]=t by rw [hty];simp [List.getD,show 1<n.length by omega]] at d1
 rw [<-hy] at h0 h9
 rw [<-hty] at ht0 ht
 simp only [Nat.add_zero] at d0
 have HN0:=zM (∀W:World,Below w.heap.size w W->W.cell? ⟨b,o,none⟩=some (.int .i64 y)/\W.cell? ⟨b,o+1,none⟩=some (.int .i64 t)) (λW hW=>⟨(hW.cell (p:=⟨b,o,none⟩) hb).trans d0,(hW.cell (p:=⟨b,o+1,none⟩) hb).trans d1⟩)
 obtain ⟨n0,n1⟩:=HN0.o X k1
 have hcs:=(xL hok.1).2.1
 obtain ⟨h8,hll⟩:=hok.ll
 have HKX:=zL k1
 have q20:(0:Int)<(n.length:Int):=zO
 have q21:(1:Int)<(n.length:Int):=zO
 have q22:0<n.length:=zO
 have q23:1<n.length:=zO
 by_cases hg:8<=y
 ·have HR:=zM (outT (xx s ⟨word,kind,n⟩).1=abN 1/\(xx s ⟨word,kind,n⟩).2=s) (by rw [HR0];unfold afJ;rw [<-hy,zp hg];exact ⟨rfl,rfl⟩)
  have HE:=zL (λW=>wG 1 1 W rfl zO zO)
  clear hw h1 k1 y1 hcs hll hy hty
  go_enter Tryz.func9,Tryz.ntmps9
  go_upto_region 1 with fail
  rw [<-hX,<-hlb]
  clear hX hlb
  go_wp2_with fail
  refine (HE.o _).mono ?_
  rintro e w2 ⟨rfl,k2⟩
  go_wp2_with fail
  go_ret
  exact ⟨by rw [HR.o.1];rfl,by rw [HR.o.2];exact HMX.o.below k2,Bu2.of_below (HKX.o.trans (k2.mono HKX.o.size))⟩
 ·obtain ⟨ky,rfl⟩:=Int.eq_ofNat_of_zero_le h0
  have hk8:ky<s.cs.length:=zO
  obtain ⟨An,cn,Ap,cp,x1,x2,⟨cur,g1,g2,g3⟩,-,-,-,-⟩:=HMX.o
  have c0:=x1.cell 0
  simp only [zc,zE] at c0
  obtain ⟨a,c,f1,f2,f3⟩:=g3 ky hk8
  have gk:X.cell? ⟨gb,ky,none⟩=some (.slice a s.cs[ky].length c):=by rw [g1.cell ky];exact f1
  obtain ⟨l,hl⟩:∃l,l=s.cs[ky]:=⟨_,rfl⟩
  have hgd:s.cs.getD ky []=l:=by rw [hl];simp [List.getD,hk8]
  rw [<-hl] at gk f2
  have hRW:afJ s n=(((jC l t).1,itT (jM l t)),s):=by unfold afJ;rw [<-hy,<-hty,z6 hg,zAX,hgd]
  have kl:(ky:Int)<8:=zO
  have kz:(0:Int)<=(ky:Int):=zO
  have hlen:=hll l (by rw [hl];exact zd hk8)
  have hin:l=[]\/(qh l).1=0:=hcs l (by rw [hl];exact zd hk8)
  by_cases hl0:l.length=0
  ·obtain rfl:l=[]:=zAm hl0
   have HR:=zM (outT (xx s ⟨word,kind,n⟩).1=abN 3/\(xx s ⟨word,kind,n⟩).2=s) (by rw [HR0,hRW];exact ⟨rfl,rfl⟩)
   rw [hl0] at gk
   have HE:=zL (λW=>wG 3 3 W rfl zO zO)
   clear hw h1 k1 y1 hcs hll hy hty x1 g1 g2 g3 f1 f2 f3 hl hgd hRW hlen hin hl0
   go_enter Tryz.func9,Tryz.ntmps9
   go_upto_region 1 with fail
   rw [<-hX,<-hlb]
   clear hX hlb
   go_upto_region 29 with fail
   go_region
   all_goals
    go_wp2_with fail
    refine (HE.o _).mono ?_
    rintro e w2 ⟨rfl,k2⟩
    go_wp2_with fail
    go_ret
    exact ⟨by rw [HR.o.1];rfl,by rw [HR.o.2];exact HMX.o.below (((zAA _ _).drew).trans k2),Bu2.of_below (HKX.o.drew.trans (k2.mono HKX.o.drew.size))⟩
  ·have hce:(qh l).1=0:=hin.resolve_left (λh=>hl0 (by rw [h];rfl))
   have hae:(jC l t).1=0:=by unfold jC;rw [z6 zO,z6 zO]
   have HR:=zM (outT (xx s ⟨word,kind,n⟩).1=itT (qP l t)/\(xx s ⟨word,kind,n⟩).2=s) (by rw [HR0,hRW];unfold jM;rw [zp hae];unfold outT;rw [zp hae];exact ⟨rfl,rfl⟩)
   have hok9:=(crvErr_ok hce).2.2.1
   have hl3:((l.length:Int)==0)=false:=zBf
   have HAT:=zL (λW (hW:Below X.heap.size X W)=>ax5 a c l t W X.heap.size hW.size (f2.below hW) hlen zO hok9 ht0 zO)
   have hvb:0<=qP l t/\qP l t<=9000000000000000000:=by have:=acS (show 0<l.length by omega) hok9 ht0;have:=agS (show 0<l.length by omega) hok9 ht0 zO;omega
   have HD:=zL (λW=>wH (qP l t) W zO zO)
   clear hw h1 k1 y1 hcs hll hy hty x1 g1 g2 g3 f1 f2 f3 hl hgd hRW hlen hin hl0 hce hae hok9 hvb
   go_enter Tryz.func9,Tryz.ntmps9
   go_upto_region 1 with fail
   rw [<-hX,<-hlb]
   clear hX hlb
   go_upto_region 29 with fail
   go_region
   all_goals
    go_wp2_with fail
    refine (HAT.o _ ((zAA _ _).drew)).mono ?_
    rintro e w2 ⟨rfl,k2⟩
    go_wp2_with fail
    refine (HD.o _).mono ?_
    rintro e w3 ⟨rfl,k3⟩
    go_wp2_with fail
    go_ret
    have k23:=k2.trans (k3.mono k2.size)
    exact ⟨by rw [HR.o.1];rfl,by rw [HR.o.2];exact HMX.o.below (((zAA _ _).drew).trans k23),Bu2.of_below (HKX.o.drew.trans (k23.mono HKX.o.drew.size))⟩
end
set_option maxHeartbeats 2000000 in
theorem vUm (A:Option Addr) (c:Nat) (l:List Pk) (w:World) (B:Nat) (hB:B<=w.heap.size) (h:RdP w B A l) (hl:l.length<=9223372036854775807):
 Calls Tryz.prog 18 #[.slice A l.length c] w λe w'=>e=.returned (fv (qj l).1 (qj l).2)/\Below w.heap.size w w':=by
 have ba:Below w.heap.size w (w.alloc (.cells #[.int .i64 0,.int .i64 0] 55)):=(zAA _ _).alloc (zD _) _
 by_cases h1:300<l.length
 ·have Hf:=zM (qj l=(2,-1)) (zp h1)
  exact zDh
 ·have Hf:=zM (qj l=yO l 0 0) (z6 h1)
  have h2:l.length<=300:=zO
  clear h1
  go_enter Tryz.func18,Tryz.ntmps18
  go_wp2_with fail
  go_loopw [3] (λi wr=>∃(k:Nat) (m:Int),k<=l.length/\i=.int .i64 k/\qj l=yO (l.drop k) m k/\((k=0/\m=0)\/∃j,k=j+1/\∃hj:j<l.length,m=l[j].a)/\Below (w.heap.size+1) (w.alloc (.cells #[.int .i64 0,.int .i64 0] 55)) wr) (λi _=>l.length - (intOf i).toNat)
  case atStart=>exact ⟨0,0,zAK _,rfl,Hf.o,.inl ⟨rfl,rfl⟩,zAA _ _⟩
  case round=>
   obtain ⟨k,m,hk,rfl,hbad,hm,hbw⟩:=hrel
   have hz:=hbw.size
   simp at hz
   have kb:Below w.heap.size w wr:=ba.trans (hbw.mono (Nat.le_succ _))
   have b0:Blk wr w.heap.size 55 #[.int .i64 0,.int .i64 0]:=(Blk.new _ _ _).below hbw (Nat.lt_succ_self _)
   have y0:=b0.cell 0
   have y1:=b0.cell 1
   have z0:=b0.frozen 0
   have z1:=b0.frozen 1
   simp only [zc,zE,zj] at y0 y1
   have Hb0:=zL b0
   clear b0 Hf
   by_cases hlt:k<l.length
   ·obtain ⟨b,o,rfl,hb,d0,d1,d2⟩:=RdP.get (h.below (kb.mono hB)) hlt
    rw [zAE hlt] at hbad
    have q1:(k:Int)<(l.length:Int):=zO
    have q2:(0:Int)<=(k:Int):=zO
    have on:Blk (wr.alloc (.cells #[.int .i64 l[k].f,.int .i64 l[k].s,.int .i64 l[k].a] 53)) w.heap.size 55 #[.int .i64 0,.int .i64 0]:=Hb0.o.alloc _
    have x0:=on.cell 0
    have x1:=on.cell 1
    have f0:=on.frozen 0
    have f1:=on.frozen 1
    simp only [zc,zE,zj] at x0 x1
    have On:=zL on
    clear on
    have kc:Below w.heap.size w (wr.alloc (.cells #[.int .i64 l[k].f,.int .i64 l[k].s,.int .i64 l[k].a] 53)):=kb.alloc zO _
    by_cases hx:zg l[k]
    ·have Hx:=zL hx
     obtain ⟨p1,p2,p3,p4,p5,p6⟩:=hx
     rcases hm with ⟨rfl,rfl⟩|⟨j,rfl,hj,rfl⟩
     ·have Hb:=zM (qj l=yO (l.drop 1) l[0].a 1) (by rw [hbad];exact (zp Hx.o).trans (z6 zO))
      exact zD7
     ·obtain ⟨b',o',he,hb',e0,e1,e2⟩:=RdP.get (h.below (kb.mono hB)) hj
      simp only [zAC,zAS,and_true] at he
      obtain ⟨rfl,rfl⟩:=he
      have e2':(wr.alloc (.cells #[.int .i64 l[j+1].f,.int .i64 l[j+1].s,.int .i64 l[j+1].a] 53)).cell? ⟨b,o+j*3+2,none⟩=some (.int .i64 l[j].a):=(((zAA wr.heap.size wr).alloc (zD _) _).cell (p:=⟨b,o+j*3+2,none⟩) zBc).trans e2
      exact zDU
    ·exact zDa
   ·exact zDe
section
variable (F:Nat->Prop) (mb gb:Nat) (s:Sc) (w:World) (hm:MM F w mb gb s) (hF:∀b,F b->b<w.heap.size) (hok:s.ok) (word kind:ByteArray) (A':Option Addr) (c':Nat) (n:List Int) (hr:RdI w w.heap.size A' n)
include hm hF hok hr
set_option maxHeartbeats 16000000 in
theorem ap2 (hw:word=qz) (h1:n.length=3) (h9:n.getD 0 0<10):
 Calls Tryz.prog 9 #[.pointer (some ⟨mb,0,none⟩),.agg #[.string word,.string kind,.slice A' n.length c']] w (afO F mb gb (xx s ⟨word,kind,n⟩) w):=by
 have HR0:=apW (s:=s) (k:=kind) hw h1 h9
 have t0:(word.toList==([99,117,114,118,101]:List UInt8))=false:=by rw [hw];exact tl_ne (a:=qz) (b:=qH) zA4
 have t1:(word.toList==([108,105,110,107]:List UInt8))=false:=by rw [hw];exact tl_ne (a:=qz) (b:=qY) zA4
 have t2:(word.toList==([110,117,109,98,101,114,115]:List UInt8))=false:=by rw [hw];exact tl_ne (a:=qz) (b:=qJ) zA4
 have t3:(word.toList==([112,97,99,107,101,116]:List UInt8))=true:=by rw [hw];exact yP qz
 obtain ⟨X,hX⟩:∃X:World,X=w.alloc (.cells #[.string word,.string kind,.slice A' n.length c'] 29):=⟨_,rfl⟩
 obtain ⟨lb,hlb⟩:∃lb,lb=w.heap.size:=⟨_,rfl⟩
 have k1:Below w.heap.size w X:=zBA
 have y1:Blk X lb 29 #[.string word,.string kind,.slice A' n.length c']:=zBZ
 have hlw:w.heap.size<=lb:=zO
 have e0:=y1.cell 0
 have e1:=y1.cell 1
 have e2:=y1.cell 2
 simp only [zc,zE,zj] at e0 e1 e2
 have HMX:=zL (hm.below k1)
 have HRX:=zL ((hr.below k1).more k1.size)
 have HFX:=zL (λb (h9:F b)=>zAG (hF b h9) k1.size)
 have K1:=zL k1
 have Y1:=zL y1
 have hpl:=vg hok.2
 obtain ⟨b,o,rfl,hb,d0⟩:=RdI.get hr (i:=0) zO
 obtain ⟨b9,o9,hA1,-,d1⟩:=RdI.get hr (i:=1) zO
 simp only [zAC,zAS,and_true] at hA1
 obtain ⟨rfl,rfl⟩:=hA1
 obtain ⟨b9,o9,hA1,-,d2⟩:=RdI.get hr (i:=2) zO
 simp only [zAC,zAS,and_true] at hA1
 obtain ⟨rfl,rfl⟩:=hA1
 obtain ⟨x,hx⟩:∃x:Pk,x=⟨n.getD 0 0,n.getD 1 0,n.getD 2 0⟩:=⟨_,rfl⟩
 rw [show n[0]=x.f by rw [hx];simp [List.getD,show 0<n.length by omega]] at d0
 rw [show n[1]=x.s by rw [hx];simp [List.getD,show 1<n.length by omega]] at d1
 rw [show n[2]=x.a by rw [hx];simp [List.getD,show 2<n.length by omega]] at d2
 simp only [Nat.add_zero] at d0
 obtain ⟨q,hq⟩:∃q,q=s.p++[x]:=⟨_,rfl⟩
 have HPS:=zM (xx s ⟨word,kind,n⟩=if (qj q).1=0 then ((0,okT),{s with p:=q}) else (((qj q).1,okT),s)) (by rw [HR0];unfold vJ;rw [<-hx,<-hq])
 have hql:q.length<=301:=by rw [hq,zAP];simp;omega
 obtain ⟨An,cn,Ap,cp,x1,x2,x3,x4,x5,x6,x7⟩:=HMX.o
 have c4:=x1.cell 4
 simp only [zc,zE,zj] at c4
 have HX1:=zL x1
 have HX2:=zL x2
 have HX6:=zL x6
 obtain ⟨i0,hi0,hz0,hz1,hz2⟩:=info_parts ahO
 have hllt:=y1.lt
 have Hkeep:=zM (∀W:World,Below X.heap.size X W->W.cell? ⟨lb,2,none⟩=some (.slice (some ⟨b,o,none⟩) 3 c')/\W.cell? ⟨b,o,none⟩=some (.int .i64 x.f)/\W.cell? ⟨b,o+1,none⟩=some (.int .i64 x.s)/\W.cell? ⟨b,o+2,none⟩=some (.int .i64 x.a)) (λW hW=>⟨(hW.cell (p:=⟨lb,2,none⟩) hllt).trans (by rw [<-h1];exact e2),((k1.trans (hW.mono k1.size)).cell (p:=⟨b,o,none⟩) hb).trans d0,((k1.trans (hW.mono k1.size)).cell (p:=⟨b,o+1,none⟩) hb).trans d1,((k1.trans (hW.mono k1.size)).cell (p:=⟨b,o+2,none⟩) hb).trans d2⟩)
 have Hq:=zL hq
 have HF:=zL hF
 have q4:s.p.length<=maxLen:=zA2
 have q7:s.p.length*24<=140737488355328:=zO
 have q5:s.p.length+1<=maxLen:=zA2
 have q6:(s.p.length+1)*24<=140737488355328:=zO
 have three_pos:0<3:=zO
 have hq0:0+s.p.length<=maxLen:=zO
 have hq1:(0+s.p.length)*24<=140737488355328:=zO
 rw [h1]
 rw [h1] at hX e2 y1 Y1
 clear hw h9 k1 y1 x1 x2 x3 x4 x5 x6 x7 hx hq hr HR0 hF HRX h1
 go_enter Tryz.func9,Tryz.ntmps9
 go_upto_region 1 with fail
 rw [<-hX,<-hlb]
 clear hX hlb
 go_upto_region 21 with (at_builtin;refine qd _ Pk.cs rfl (.tmp 71) (.tmp 75) 46 rfl X.heap.size 53 i0 (.agg #[.int .i64 0,.int .i64 0,.int .i64 0]) 3 24 Tryz.underlying46 hi0 hz0 hz1 hz2 rfl three_pos Pk.qw Pk.qV (.slice none 0 0) 0 [] rfl ⟨by simp,.inl ⟨rfl,rfl⟩⟩ X.heap.size Ap cp s.p rfl HX6.o hq0 hq1 (zD _) ?_;intro v1 w1 row1 g1 at1;simp only [Nat.zero_add,zAa] at row1;obtain ⟨A1,c1,rfl⟩:=yl row1 three_pos;have B1:=zL (Below.grown (zAA X.heap.size X) g1 (zD _) zBO);have ROW1:=zL row1;clear row1 g1 at1)
 have RD:=zL (own_below (ROW1.o.alloc (.cells #[.int .i64 x.f,.int .i64 x.s,.int .i64 x.a] 53)) ((zAA _ _).drew) (zD _))
 have hbd:Below X.heap.size X w1.drew:=B1.o.drew
 have z1:=B1.o.size
 have hba:Below X.heap.size X (World.drew (w1.alloc (.cells #[.int .i64 x.f,.int .i64 x.s,.int .i64 x.a] 53))):=(B1.o.alloc z1 _).drew
 obtain ⟨l2,n0,n1,n2⟩:=Hkeep.o w1 B1.o
 clear e0 e1 e2 c4 d0 d1 d2
 go_region_held3 (λw'=>w'.cell? ⟨lb,2,none⟩=some (.slice (some ⟨b,o,none⟩) 3 c')/\w'.cell? ⟨b,o,none⟩=some (.int .i64 x.f)/\w'.cell? ⟨b,o+1,none⟩=some (.int .i64 x.s)/\w'.cell? ⟨b,o+2,none⟩=some (.int .i64 x.a))
  (first
   |go_keep
   |exact Hkeep.o _ hbd
   |exact Hkeep.o _ (hbd.alloc hbd.size _)
   |exact Hkeep.o _ KD)
  (first
   |((with_reducible show (if _ then Oper.wp _ _ _ (World.drew (w1.alloc (.cells #[.int .i64 x.f,.int .i64 x.s,.int .i64 x.a] 53))) _ _ else _));refine yx (World.drew (w1.alloc (.cells #[.int .i64 x.f,.int .i64 x.s,.int .i64 x.a] 53))) Pk.cs zB8 (.tmp 77) (.tmp 91) 46 zB8 _ 53 i0 (.agg #[.int .i64 0,.int .i64 0,.int .i64 0]) 3 24 Tryz.underlying46 hi0 hz0 hz1 hz2 zB8 three_pos Pk.qw Pk.qV (.slice A1 s.p.length c1) s.p.length (s.p.flatMap Pk.cs) zB8 RD.o _ (some ⟨w1.heap.size,0,none⟩) 1 [x] zB8 ((RdP.zU x).below ((zAA _ _).drew)) q5 q6 hba.size ?_;intro v10 w10 o10 g10 h10;have KD:Below X.heap.size X w10:=ql hba RD.o g10 (zD _) hba.size;obtain ⟨A10,c10,hv10,o10⟩:=qI o10 three_pos;rw [<-Hq.o] at hv10 o10;rw [hv10];clear hv10)
   |fail "no arm")
 all_goals
  have RQ:=RdP.qA o10
  have KK:=zL (K1.o.trans (KD.mono K1.o.size))
  have NB:aaD F mb gb A10:=ag8 (qO o10 K1.o.size) (by obtain ⟨_,_,_,_,h9,-⟩:=hm;exact h9.lt) zC9 HF.o
  have HCK:=zL (vUm A10 c10 q w10 w10.heap.size (zD _) RQ zO)
  have HRQ:=zL RQ
  have HNB:=zL NB
  clear o10 RQ NB g10 h10 KD l2 n0 n1 n2
  go_wp2_with fail
  refine (HCK.o).mono ?_
  rintro e w2 ⟨rfl,k2⟩
  obtain ⟨wx,hwx⟩:∃wx,wx=w2.alloc (.cells #[.int .i64 (qj q).1,.int .i64 (qj q).2] 55):=⟨_,rfl⟩
  have kx2:Below w10.heap.size w10 wx:=by rw [hwx];exact k2.alloc k2.size _
  have kx:Below w.heap.size w wx:=KK.o.trans (kx2.mono KK.o.size)
  have f3:Blk wx w2.heap.size 55 #[.int .i64 (qj q).1,.int .i64 (qj q).2]:=by rw [hwx];exact Blk.new _ _ _
  have t0:=f3.cell 0
  simp only [zc,zE] at t0
  have hwm:mb<w2.heap.size:=by obtain ⟨_,_,_,_,h9,-⟩:=hm.below (KK.o.trans (k2.mono KK.o.size));exact h9.lt
  have hfb:w2.heap.size≠mb:=zO
  have HKX:=zL kx
  have HF3:=zL f3
  have HRX:=zL ((HRQ.o.below kx2).more kx2.size)
  unfold fv
  go_upto_region 23 with fail
  rw [<-hwx]
  clear hwx f3 kx kx2 k2 hwm HCK
  by_cases hg:(qj q).1=0
  ·have HR:=zM (xx s ⟨word,kind,n⟩=((0,okT),{s with p:=q})) (by rw [HPS.o,zp hg])
   rw [hg] at t0
   obtain ⟨An1,cn1,Ap1,cp1,y1,y2,y3,y4,y5,y6,y7⟩:=hm.below HKX.o
   have c4:=y1.cell 4
   have z4:=y1.frozen 4
   simp only [zc,zE,zj] at c4
   obtain ⟨X2,hX2⟩:∃X2:World,X2=wx.setCell ⟨mb,4,none⟩ (.slice A10 q.length c10):=⟨_,rfl⟩
   have u2:Bu2 mb gb wx X2:=by rw [hX2];exact (Bu2.refl _ _ _).set1 4 _
   have g2:X2.heap[gb]?=wx.heap[gb]?:=by rw [hX2];exact zAF _ ⟨mb,4,none⟩ _ gb (Ne.symm y2)
   have M2:=zM (MM F X2 mb gb {s with p:=q}) (⟨An1,cn1,A10,c10,by rw [hX2];exact y1.qi 4 _,y2,y3.b2 u2 g2,Rd.bu2 y4 u2 y5,y5,Rd.bu2 HRX.o u2 (λ_=>HNB.o),λ_=>HNB.o⟩)
   have U2:=zL ((Bu2.of_below HKX.o).trans u2)
   have t2:X2.cell? ⟨w2.heap.size,0,none⟩=some (.int .i64 (0:Nat)):=by
    rw [hX2,(HF3.o.far (p:=⟨mb,4,none⟩) hfb (.slice A10 q.length c10)).cell 0,hg];rfl
   have HO:=zL (adR 0 ((0:Nat):Int) X2 rfl zO)
   clear y1 y3 y4 y5 y6 y7 u2 g2 hg
   go_upto_region 25 with fail
   rw [<-hX2]
   clear hX2 c4 z4 t0
   go_wp2_with fail
   refine HO.o.mono ?_
   rintro e w5 ⟨rfl,k5⟩
   go_wp2_with fail
   go_ret
   rw [HR.o]
   exact ⟨rfl,M2.o.below k5,U2.o.trans (Bu2.of_below k5)⟩
  ·have HR:=zM (xx s ⟨word,kind,n⟩=(((qj q).1,okT),s)) (by rw [HPS.o,z6 hg])
   have hz1:(((qj q).1:Int)==0)=false:=zBf
   have HO:=zL (adR (qj q).1 _ wx rfl (by have:=ay6 q;unfold okC at this;omega))
   clear hg
   go_wp2_with fail
   refine HO.o.mono ?_
   rintro e w5 ⟨rfl,k5⟩
   go_wp2_with fail
   go_ret
   rw [HR.o]
   have k6:=HKX.o.trans (k5.mono HKX.o.size)
   exact ⟨rfl,hm.below k6,Bu2.of_below k6⟩
end
theorem azA {w:World} {base sz n q i:Nat} {e:TypeId} {v u:Value} {xs:List Value} (h:w.ownsRow base e sz v n xs) (hq:q<base):(w.setCell ⟨q,i,none⟩ u).ownsRow base e sz v n xs:=by
 obtain ⟨h1,h|⟨g,cap,cur,hv,hg,hh,r⟩⟩:=h
 ·exact ⟨h1,.inl h⟩
 ·exact ⟨h1,.inr ⟨g,cap,cur,hv,hg,(zAF w ⟨q,i,none⟩ u g (by show g≠q;omega)).trans hh,r⟩⟩
section
variable (F:Nat->Prop) (mb gb:Nat) (s:Sc) (w:World) (hm:MM F w mb gb s) (hF:∀b,F b->b<w.heap.size) (hok:s.ok) (word kind:ByteArray) (A':Option Addr) (c':Nat) (n:List Int) (hr:RdI w w.heap.size A' n)
include hm hF hok hr
set_option maxHeartbeats 16000000 in
theorem ax7 (hw:word=qY) (h1:n.length=1):
 Calls Tryz.prog 9 #[.pointer (some ⟨mb,0,none⟩),.agg #[.string word,.string kind,.slice A' n.length c']] w (afO F mb gb (xx s ⟨word,kind,n⟩) w):=by
 have HR:=zM (xx s ⟨word,kind,n⟩=yC s ⟨s.cs,kind,n.getD 0 0,if qg kind=0 then [] else List.replicate 8 1,s.p⟩) (axQ hw)
 have t0:(word.toList==([99,117,114,118,101]:List UInt8))=false:=by rw [hw];exact tl_ne (a:=qY) (b:=qH) zA4
 have t1:(word.toList==([108,105,110,107]:List UInt8))=true:=by rw [hw];exact yP qY
 obtain ⟨X,hX⟩:∃X:World,X=w.alloc (.cells #[.string word,.string kind,.slice A' n.length c'] 29):=⟨_,rfl⟩
 obtain ⟨lb,hlb⟩:∃lb,lb=w.heap.size:=⟨_,rfl⟩
 have k1:Below w.heap.size w X:=zBA
 have y1:Blk X lb 29 #[.string word,.string kind,.slice A' n.length c']:=zBZ
 have hlw:w.heap.size<=lb:=zO
 have e0:=y1.cell 0
 have e1:=y1.cell 1
 have e2:=y1.cell 2
 simp only [zc,zE,zj] at e0 e1 e2
 have HMX:=zL (hm.below k1)
 have HRX:=zL ((hr.below k1).more k1.size)
 have HFX:=zL (λb (h9:F b)=>zAG (hF b h9) k1.size)
 have K1:=zL k1
 have Y1:=zL y1
 obtain ⟨An,cn,Ap,cp,x1,x2,-,-,-,-,-⟩:=HMX.o
 have c0:=x1.cell 0
 have c1:=x1.cell 1
 have c2:=x1.cell 2
 have c3:=x1.cell 3
 simp only [zc,zE,zj] at c0 c1 c2 c3
 obtain ⟨X2,hX2⟩:∃X2:World,X2=X.alloc (.cells #[.slice (some ⟨gb,0,none⟩) 8 8,.string s.K,.int .i64 s.per,.slice An s.ns.length cn] 45):=⟨_,rfl⟩
 obtain ⟨qb,hqb⟩:∃qb,qb=X.heap.size:=⟨_,rfl⟩
 have k2:Below w.heap.size w X2:=by rw [hX2];exact k1.alloc k1.size _
 have g2:Blk X2 qb 45 #[.slice (some ⟨gb,0,none⟩) 8 8,.string s.K,.int .i64 s.per,.slice An s.ns.length cn]:=by rw [hX2,hqb];exact Blk.new _ _ _
 have y2:Blk X2 lb 29 #[.string word,.string kind,.slice A' n.length c']:=by rw [hX2];exact y1.alloc _
 have hqw:w.heap.size<=qb:=by have:=k1.size;omega
 have hql:lb≠qb:=by have:=y1.lt;omega
 obtain ⟨x,hx⟩:∃x,x=n.getD 0 0:=⟨_,rfl⟩
 rw [<-hx] at HR
 obtain ⟨b,o,rfl,hb,d0⟩:=RdI.get hr (i:=0) zO
 rw [show n[0]=x by rw [hx];simp [List.getD,show 0<n.length by omega]] at d0
 simp only [Nat.add_zero] at d0
 obtain ⟨X3,hX3⟩:∃X3:World,X3=X2.setCell ⟨qb,1,none⟩ (.string kind):=⟨_,rfl⟩
 have k3:Below w.heap.size w X3:=by rw [hX3];exact k2.setCell (p:=⟨qb,1,none⟩) hqw _
 have g3:Blk X3 qb 45 #[.slice (some ⟨gb,0,none⟩) 8 8,.string kind,.int .i64 s.per,.slice An s.ns.length cn]:=by rw [hX3];exact g2.qi 1 _
 have y3:Blk X3 lb 29 #[.string word,.string kind,.slice (some ⟨b,o,none⟩) n.length c']:=by rw [hX3];exact y2.far (p:=⟨qb,1,none⟩) hql _
 obtain ⟨X4,hX4⟩:∃X4:World,X4=X3.setCell ⟨qb,2,none⟩ (.int .i64 x):=⟨_,rfl⟩
 have k4:Below w.heap.size w X4:=by rw [hX4];exact k3.setCell (p:=⟨qb,2,none⟩) hqw _
 have g4:Blk X4 qb 45 #[.slice (some ⟨gb,0,none⟩) 8 8,.string kind,.int .i64 x,.slice An s.ns.length cn]:=by rw [hX4];exact g3.qi 2 _
 have y4:Blk X4 lb 29 #[.string word,.string kind,.slice (some ⟨b,o,none⟩) n.length c']:=by rw [hX4];exact y3.far (p:=⟨qb,2,none⟩) hql _
 obtain ⟨X5,hX5⟩:∃X5:World,X5=X4.setCell ⟨qb,3,none⟩ (.slice none 0 0):=⟨_,rfl⟩
 have k5:Below w.heap.size w X5:=by rw [hX5];exact k4.setCell (p:=⟨qb,3,none⟩) hqw _
 have g5:Blk X5 qb 45 #[.slice (some ⟨gb,0,none⟩) 8 8,.string kind,.int .i64 x,.slice none 0 0]:=by rw [hX5];exact g4.qi 3 _
 have y5:Blk X5 lb 29 #[.string word,.string kind,.slice (some ⟨b,o,none⟩) n.length c']:=by rw [hX5];exact y4.far (p:=⟨qb,3,none⟩) hql _
 have r1:=y2.cell 1
 have s1:=g2.cell 1
 have v1:=g2.frozen 1
 have r2:=y3.cell 2
 have r3:X3.cell? ⟨b,o,none⟩=some (.int .i64 x):=(k3.cell (p:=⟨b,o,none⟩) hb).trans d0
 have s2:=g3.cell 2
 have v2:=g3.frozen 2
 have s3:=g4.cell 3
 have v3:=g4.frozen 3
 simp only [zc,zE,zj] at r1 s1 r2 s2 s3
 have n1:(0:Int)<(n.length:Int):=zO
 have n2:0<n.length:=zO
 have hqx:=g5.lt
 have hlx:=y5.lt
 have hxw:=k5.size
 have G5:=zL g5
 have Y5:=zL y5
 have K5:=zL k5
 obtain ⟨i0,hi0,hz0,hz1,hz2⟩:=info_parts wO
 have HF:=zL hF
 have HR3:=zL (show ∀W:World,Below w.heap.size w W->∀(A:Option Addr) (c k:Nat),Blk W qb 45 #[.slice (some ⟨gb,0,none⟩) 8 8,.string kind,.int .i64 x,.slice A k c]->W.ownsRow X5.heap.size 3 1 (.slice A k c) k ((List.replicate k (1:Int)).flatMap iCs)->k<=8->Calls Tryz.prog 17 #[.pointer (some ⟨mb,0,none⟩),.agg #[.slice (some ⟨gb,0,none⟩) 8 8,.string kind,.int .i64 x,.slice A k c]] W (afO F mb gb (yC s ⟨s.cs,kind,x,List.replicate k 1,s.p⟩) W) from λW hW A c k _ ho hk=>by
  have hnm:aaD F mb gb A:=ag8 (qO ho K5.o.size) (by obtain ⟨_,_,_,_,h9,-⟩:=hm;exact h9.lt) zC9 HF.o
  have hrd:RdI W W.heap.size A (List.replicate k 1):=Rd.qA (f:=λn=>[.int .i64 n]) (by rw [List.length_replicate];exact ho) Nat.one_pos (λ_=>rfl)
  have:=af0 F mb gb s W (hm.below hW) hok A c kind x (List.replicate k 1) hrd (λ_=>hnm) (by rw [List.length_replicate];omega)
  rw [List.length_replicate] at this
  exact this)
 clear hw h1 k1 y1 x1 k2 g2 y2 k3 g3 y3 k4 g4 y4 k5 g5 y5 hx hr d0 HRX hF
 go_enter Tryz.func9,Tryz.ntmps9
 go_upto_region 1 with fail
 rw [<-hX,<-hlb]
 clear hX hlb
 go_upto_region 6 with fail
 rw [<-hX2,<-hqb]
 clear hX2 hqb c0 c1 c2 c3 e0 e1 e2
 go_upto_region 7 with fail
 rw [<-hX3]
 clear hX3 r1 s1 v1
 go_upto_region 8 with fail
 rw [<-hX4]
 clear hX4 r2 r3 s2 v2
 go_upto_region 9 with fail
 rw [<-hX5]
 clear hX5 s3 v3
 go_wp2_with fail
 go_loopw [6] (λiv wr=>∃(k:Nat) (A1:Option Addr) (c1:Nat),k<=8/\(qg kind=0->k=0)/\iv=.int .i64 k/\wr.ownsRow X5.heap.size 3 1 (.slice A1 k c1) k ((List.replicate k (1:Int)).flatMap iCs)/\Below w.heap.size w wr/\X5.heap.size<=wr.heap.size/\Blk wr qb 45 #[.slice (some ⟨gb,0,none⟩) 8 8,.string kind,.int .i64 x,.slice A1 k c1]/\Blk wr lb 29 #[.string word,.string kind,.slice (some ⟨b,o,none⟩) n.length c']) (λiv _=>8 - (intOf iv).toNat)
 case atStart=>exact ⟨0,none,0,zAK _,λ_=>rfl,rfl,⟨by simp,.inl ⟨rfl,rfl⟩⟩,K5.o,zD _,G5.o,Y5.o⟩
 case round=>
  obtain ⟨k,A1,c1,hk,hk0,rfl,row,hbw,hzz,hg,hy⟩:=hrel
  have f0:=hy.cell 1
  have f3:=hg.cell 3
  have z3:=hg.frozen 3
  simp only [zc,zE,zj] at f0 f3
  rcases bfifo_cases kind with ⟨s0,hn⟩|⟨s0,hn⟩
  ·obtain rfl:=hk0 hn
   have HC:=zL (HR3.o wr hbw A1 c1 0 hg row zO)
   have HR4:=zM (xx s ⟨word,kind,n⟩=yC s ⟨s.cs,kind,x,List.replicate 0 1,s.p⟩) (by rw [HR.o,zp hn];rfl)
   have c0:=hg.cell 0
   have c1':=hg.cell 1
   have c2:=hg.cell 2
   simp only [zc,zE,zj] at c0 c1' c2
   have HB:=zL hbw
   clear hk hk0 hn row hg hy hbw
   exact zEf
  ·by_cases hlt:k<8
   ·obtain ⟨W1,hW1⟩:∃W1,W1=wr.alloc (.cells #[.int .i64 1] 3):=⟨_,rfl⟩
    have b1:Below wr.heap.size wr W1:=by rw [hW1];exact (zAA _ _).alloc (zD _) _
    have hnew:RdI W1 W1.heap.size (some ⟨wr.heap.size,0,none⟩) [1]:=by rw [hW1];exact (Rd.zU (w:=wr) (T:=3) (f:=λn:Int=>[.int .i64 n]) (l:=[1]) (cs:=#[.int .i64 1]) rfl Nat.one_pos (λ_=>rfl)).more zA1
    have ROW:=zL (own_below row b1 (zD _))
    have u1:k+[(1:Int)].length<=maxLen:=zA8
    have u2:(k+[(1:Int)].length)*8<=140737488355328:=zBF
    have u3:(k:Int)<8:=zO
    have HNW:=zL hnew
    have hb1:Below w.heap.size w W1:=hbw.trans (b1.mono hbw.size)
    have zz1:X5.heap.size<=W1.heap.size:=zAB hzz b1.size
    have HB1:=zL hb1
    have HG1:=zL (hg.below b1 hg.lt)
    have HY1:=zL (hy.below b1 hy.lt)
    have HRW:=zL row
    have HHN:=zL hn
    clear b1 hnew hb1 row hg hy hn hk0
    go_upto_region 11 with (at_builtin;refine qd _ iCs rfl (.tmp 50) (.tmp 51) 27 rfl X5.heap.size 3 i0 (.int .i64 0) 1 8 Tryz.underlying27 hi0 hz0 hz1 hz2 rfl Nat.one_pos yJ acF (.slice A1 k c1) k ((List.replicate k (1:Int)).flatMap iCs) rfl (by rw [<-hW1];exact ROW.o) W1.heap.size (some ⟨wr.heap.size,0,none⟩) 1 [1] rfl (by rw [<-hW1];exact HNW.o) u1 u2 (by rw [<-hW1];exact zz1) ?_;intro v4 w4 row4 g4 at4;rw [<-hW1] at g4;obtain ⟨A6,c6,rfl⟩:=yl row4 Nat.one_pos;have KD:=zL (ql HB1.o ROW.o g4 K5.o.size HB1.o.size);have G4:=zL (HG1.o.grown g4 (λh9=>by have:=zH ROW.o _ h9.symm;omega));have Y4:=zL (HY1.o.grown g4 (λh9=>by have:=zH ROW.o _ h9.symm;omega));have ROW4:=zL row4;have Z4:=zL (zAB zz1 g4.size);clear row4 g4 at4;have f4:=G4.o.cell 3;have z4:=G4.o.frozen 3;simp only [zc,zE,zj] at f4)
    have hfl:List.flatMap iCs (List.replicate k 1)++List.flatMap iCs [1]=(List.replicate (k+1) (1:Int)).flatMap iCs:=by rw [List.replicate_succ',List.flatMap_append]
    have HR5:=zL (azA (hfl▸ROW4.o:w4.ownsRow X5.heap.size 3 1 (.slice A6 (k+1) c6) (k+1) ((List.replicate (k+1) (1:Int)).flatMap iCs)) hqx (i:=3) (u:=.slice A6 (k+1) c6))
    have HG5:=zL (G4.o.qi 3 (.slice A6 (k+1) c6))
    have HY5:=zL (Y4.o.far (p:=⟨qb,3,none⟩) hql (.slice A6 (k+1) c6))
    have HK5:=zL (KD.o.setCell (p:=⟨qb,3,none⟩) hqw (.slice A6 (k+1) c6))
    have HZ5:=zM (X5.heap.size<=(w4.setCell ⟨qb,3,none⟩ (.slice A6 (k+1) c6)).heap.size) (by rw [zf];exact Z4.o)
    clear hfl f4 z4 f0 f3 z3
    go_wp2_with fail
    go_roundw
    case rel=>exact ⟨k+1,A6,c6,hlt,λh9=>zAv h9 HHN.o,by go_num,HR5.o,HK5.o,HZ5.o,HG5.o,HY5.o⟩
    case measure=>simp [intOf];omega
   ·obtain rfl:k=8:=by omega
    have HC:=zL (HR3.o wr hbw A1 c1 8 hg row zO)
    have HR4:=zM (xx s ⟨word,kind,n⟩=yC s ⟨s.cs,kind,x,List.replicate 8 1,s.p⟩) (by rw [HR.o,z6 hn])
    have c0:=hg.cell 0
    have c1':=hg.cell 1
    have c2:=hg.cell 2
    simp only [zc,zE,zj] at c0 c1' c2
    have HB:=zL hbw
    clear hk hk0 hn row hg hy hbw hlt
    exact zEf
end
end Go.Proofs.YtoomffajodheaaaGreatDoor
