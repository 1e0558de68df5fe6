/- The proof of ScriptPlays, part DlA. Conditions: in each statement. -/
import Derived.Test.YtoomffajodheaaaGreatDoorZDlPl
import Derived.Shelf.SlSorted.Search
import Derived.Deep.RegionHeld3
set_option linter.all false
namespace Go.Proofs.YtoomffajodheaaaGreatDoor
open Go.RowKit
set_option maxRecDepth 100000
theorem zBE{p:Prop}(h:p:=by rw [IntKind.wrap_i64];omega):p:=h
theorem zCw{p:Prop}(h:p:=by rw [hv];rfl):p:=h
def wW (w w':World):Prop:=∃q os,w'=Go.Sort.grow (w.drewN q) os
theorem wW.refl (w:World):wW w w:=⟨0,#[],by rw [Go.Sort.grow_empty];rfl⟩
theorem wW.trans {w w1 w2:World} (h:wW w w1) (h':wW w1 w2):wW w w2:=by
 obtain ⟨q,os,rfl⟩:=h
 obtain ⟨q',os',rfl⟩:=h'
 exact ⟨q+q',os++os',by show Go.Sort.grow (Go.Sort.grow ((w.drewN q).drewN q') os) os'=_;rw [Go.Sort.grow_grow,World.drewN_drewN]⟩
theorem wW.alloc (w:World) (o:Obj):wW w (w.alloc o):=⟨0,#[o],Go.Sort.alloc_eq_grow w o⟩
theorem wW.drewN (w:World) (q:Nat):wW w (w.drewN q):=⟨q,#[],by rw [Go.Sort.grow_empty]⟩
theorem wW.below {w w':World} (h:wW w w') {B:Nat} (hB:B<=w.heap.size):Below B w w':=by
 obtain ⟨q,os,rfl⟩:=h
 exact below_grown_sl B w q os hB
theorem axW {x:Ln} (hr:0<x.r) {y:Int} (hb:x.b<y):0<=uC y x/\uC y x<=1000*(y - x.b):=by
 unfold uC
 refine ⟨Int.ediv_nonneg zO zO,?_⟩
 show uC y x<=_
 refine (jw hr y _).2 ?_
 have:=zAc (show 1<=x.r by omega) (show 0<=1000*(y - x.b) by omega)
 omega
set_option maxHeartbeats 2000000 in
theorem adV (A:Option Addr) (c:Nat) (l:List Ln) (per y:Int) (w:World) (B:Nat) (hB:B<=w.heap.size) (h:RdL w B A l) (hl:l.length<=9223372036854775807) (hok:∀x∈l,yL x/\0<x.r) (h0:1<=per) (h1:per<=1000) (y0:0<=y) (y1:y<=35184372088832):
 Calls Tryz.prog 52 #[.slice A l.length c,.int .i64 per,.int .i64 y] w λe w'=>e=.returned (.int .i64 (xB l per y))/\wW w w':=by
 have hpy0:0<=per*y:=zAY zO y0
 have hpy1:per*y<=1000*35184372088832:=Int.mul_le_mul h1 y1 y0 zO
 go_enter Tryz.func52,Tryz.ntmps52
 go_wp2_with fail
 go_loopw [7,12] (λtv i wr=>∃(k:Nat) (m:Int),k<=l.length/\i=.int .i64 k/\tv=.int .i64 m/\0<=m/\m<=35184372088832000/\yM y 0 l=yM y m (l.drop k)/\wW w wr) (λ_ i _=>l.length - (intOf i).toNat)
 case atStart=>exact ⟨0,0,zAK _,rfl,rfl,zAV _,by omega,rfl,wW.refl w⟩
 case round=>
  obtain ⟨k,m,hk,rfl,rfl,m0,m1,hv,hg⟩:=hrel
  have Hv:=zL hv
  clear hv
  by_cases hlt:k<l.length
  ·obtain ⟨hokk,hr⟩:=hok _ (zd hlt)
   obtain ⟨r1,r2,r3,r4⟩:=hokk
   obtain ⟨b,o,rfl,hb,d0,d1⟩:=RdL.get (h.below (hg.below hB)) hlt
   have hd:l.drop k=l[k]::l.drop (k+1):=zAE hlt
   have Hd:=zL hd
   clear hd
   by_cases hy:l[k].b<y
   ·have n0:0<=1000*(y - l[k].b)+l[k].r - 1:=by omega
    have nz:l[k].r≠0:=zO
    obtain ⟨t,ht⟩:∃t,t=(1000*(y - l[k].b)+l[k].r - 1) / l[k].r:=⟨_,rfl⟩
    obtain ⟨t0,t1⟩:=axW hr hy
    have htc:uC y l[k]=t:=by rw [ht];rfl
    rw [htc] at t0 t1
    have Ht:=zL ht
    have Htc:=zL htc
    have Hm:=zM (yM y 0 l=yM y (max m t) (l.drop (k+1))) (by rw [Hv.o,Hd.o,yM,zp hy,Htc.o])
    clear htc ht
    rw [Ht.o] at t0 t1
    go_wp2_with fail
    go_roundw
    case rel=>exact ⟨k+1,max m t,by omega,by go_num,by rw [Ht.o],by omega,by rw [Ht.o];omega,Hm.o,hg.trans (wW.alloc _ _)⟩
    case measure=>simp [intOf];omega
   ·have Hm:=zM (yM y 0 l=yM y m (l.drop (k+1))) (by rw [Hv.o,Hd.o,yM,z6 hy])
    have hy2:y<=l[k].b:=zO
    clear hy
    go_wp2_with fail
    go_roundw
    case rel=>exact ⟨k+1,m,by omega,by go_num,rfl,m0,m1,Hm.o,hg.trans (wW.alloc _ _)⟩
    case measure=>simp [intOf];omega
  ·have Hm:=zM (yM y 0 l=m) (by rw [Hv.o,zAO zO];rfl)
   go_wp2_with fail
   go_ret
   exact ⟨yh (by unfold xB;rw [Hm.o]),hg⟩
structure ayA (w:World) (g7 g3 g9 g8:Nat) (A7:Option Addr) (c7:Nat) (st:List Ln) (per top:Int) (A8:Option Addr) (c8:Nat) (fl:List Ln):Prop where
 x7:w.cell? ⟨g7,0,none⟩=some (.slice A7 st.length c7)
 x3:w.cell? ⟨g3,0,none⟩=some (.int .i64 per)
 x9:w.cell? ⟨g9,0,none⟩=some (.int .i64 top)
 x8:w.cell? ⟨g8,0,none⟩=some (.slice A8 fl.length c8)
 lt:g7<w.heap.size/\g3<w.heap.size/\g9<w.heap.size/\g8<w.heap.size
 r7:RdL w w.heap.size A7 st
 r8:RdL w w.heap.size A8 fl
theorem ayA.below {w w':World} {g7 g3 g9 g8:Nat} {A7:Option Addr} {c7:Nat} {st:List Ln} {per top:Int} {A8:Option Addr} {c8:Nat} {fl:List Ln} (h:ayA w g7 g3 g9 g8 A7 c7 st per top A8 c8 fl) (hb:Below w.heap.size w w'):ayA w' g7 g3 g9 g8 A7 c7 st per top A8 c8 fl:=by
 obtain ⟨l1,l2,l3,l4⟩:=h.lt
 have hs:=hb.size
 exact ⟨(hb.cell (p:=⟨g7,0,none⟩) l1).trans h.x7,(hb.cell (p:=⟨g3,0,none⟩) l2).trans h.x3,(hb.cell (p:=⟨g9,0,none⟩) l3).trans h.x9,(hb.cell (p:=⟨g8,0,none⟩) l4).trans h.x8,⟨by omega,by omega,by omega,by omega⟩,(h.r7.below hb).more hs,(h.r8.below hb).more hs⟩
set_option maxHeartbeats 4000000 in
theorem axF (g7 g3 g9 g8:Nat) (A7:Option Addr) (c7:Nat) (st:List Ln) (per top:Int) (A8:Option Addr) (c8:Nat) (fl:List Ln) (i:Nat) (w:World) (h:ayA w g7 g3 g9 g8 A7 c7 st per top A8 c8 fl) (hst:st.length<=100) (hfl:fl.length<=100) (hk7:∀x∈st,yL x/\0<x.r) (hk8:∀x∈fl,yL x/\0<x.r) (p0:1<=per) (p1:per<=1000) (t0:0<=top) (t1:top+i<=35184372088832):
 Calls Tryz.prog 51 #[.int .i64 (i:Int),.pointer (some ⟨g7,0,none⟩),.pointer (some ⟨g3,0,none⟩),.pointer (some ⟨g9,0,none⟩),.pointer (some ⟨g8,0,none⟩)] w λe w'=>e=.returned (.bool (decide (xB fl per (top+i)<=xB st per (top+i))))/\wW w w':=by
 have hw:IntKind.i64.wrap (top+(i:Int))=top+i:=zBE
 have MS:=zL (show ∀W,wW w W->Calls Tryz.prog 52 #[.slice A7 st.length c7,.int .i64 per,.int .i64 (IntKind.i64.wrap (top+(i:Int)))] W λe w'=>e=.returned (.int .i64 (xB st per (top+i)))/\wW w w' from λW hg=>by
  have hb:=hg.below (zD _)
  rw [hw]
  exact (adV A7 c7 st per (top+i) W w.heap.size hb.size (h.r7.below hb) zO hk7 p0 p1 zO t1).mono λe w' ⟨e1,e2⟩=>⟨e1,hg.trans e2⟩)
 have MF:=zL (show ∀W,wW w W->Calls Tryz.prog 52 #[.slice A8 fl.length c8,.int .i64 per,.int .i64 (IntKind.i64.wrap (top+(i:Int)))] W λe w'=>e=.returned (.int .i64 (xB fl per (top+i)))/\wW w w' from λW hg=>by
  have hb:=hg.below (zD _)
  rw [hw]
  exact (adV A8 c8 fl per (top+i) W w.heap.size hb.size (h.r8.below hb) zO hk8 p0 p1 zO t1).mono λe w' ⟨e1,e2⟩=>⟨e1,hg.trans e2⟩)
 have KP:=zL (show ∀W,wW w W->W.cell? ⟨g7,0,none⟩=some (.slice A7 st.length c7)/\W.cell? ⟨g3,0,none⟩=some (.int .i64 per)/\W.cell? ⟨g9,0,none⟩=some (.int .i64 top)/\W.cell? ⟨g8,0,none⟩=some (.slice A8 fl.length c8) from λW hg=>by
  have h':=h.below (hg.below (zD _))
  exact ⟨h'.x7,h'.x3,h'.x9,h'.x8⟩)
 have x7:=h.x7
 have x3:=h.x3
 have x9:=h.x9
 have x8:=h.x8
 have kd:wW w w.drew:=wW.drewN w 1
 clear h hw hk7 hk8
 go_enter Tryz.func51,Tryz.ntmps51
 go_wp2_with fail
 go_region_held3 (λw'=>w'.cell? ⟨g7,0,none⟩=some (.slice A7 st.length c7)/\w'.cell? ⟨g3,0,none⟩=some (.int .i64 per)/\w'.cell? ⟨g9,0,none⟩=some (.int .i64 top)/\w'.cell? ⟨g8,0,none⟩=some (.slice A8 fl.length c8))
  (first |go_keep|exact KP.o _ k6|exact KP.o _ k7)
  (first
   |((with_reducible show Calls _ _ #[.slice A7 _ _,_,_] w.drew _);refine (MS.o _ kd).mono ?_;rintro e w6 ⟨rfl,k6⟩)
   |((with_reducible show Calls _ _ #[.slice A8 _ _,_,_] w.drew _);refine (MF.o _ kd).mono ?_;rintro e w6 ⟨rfl,k6⟩)
   |((with_reducible show Calls _ _ #[.slice A7 _ _,_,_] w6 _);refine (MS.o _ k6).mono ?_;rintro e w7 ⟨rfl,k7⟩)
   |((with_reducible show Calls _ _ #[.slice A8 _ _,_,_] w6 _);refine (MF.o _ k6).mono ?_;rintro e w7 ⟨rfl,k7⟩))
 all_goals
  go_wp2_with fail
  go_ret
  exact ⟨rfl,k7⟩
def xS (l:List Ln) (per:Int):Nat × Int:=if (qh l).1≠0 then qh l else if per<1\/1000<per then (2,-1) else (0,-1)
theorem acI {l:List Ln} {per:Int} (h:(xS l per).1=0):(qh l).1=0/\1<=per/\per<=1000/\xS l per=(0,-1):=by
 unfold xS at h ⊢
 by_cases h1:(qh l).1≠0
 ·rw [zp h1] at h;exact zAv h h1
 ·rw [z6 h1] at h ⊢
  by_cases h2:per<1\/1000<per
  ·rw [zp h2] at h;simp at h
  ·rw [z6 h2]
   exact ⟨by omega,by omega,by omega,rfl⟩
theorem acJ (A:Option Addr) (c:Nat) (l:List Ln) (per:Int) (S:Nat->Addr) (w:World) (B:Nat) (hB:B<=w.heap.size) (h:RdL w B A l) (hS:Snt w B S [2,3]) (hl:l.length<=9223372036854775807):
 Calls Tryz.prog 49 #[.slice A l.length c,.int .i64 per] w (aiH S (xS l per).1 (xS l per).2 w):=by
 by_cases h1:(qh l).1=0
 ·have h1':¬(qh l).1≠0:=by omega
  have Hc:=zL h1
  by_cases h2:per<1\/1000<per
  ·have Hf:=zM (xS l per=(2,-1)) ((z6 h1').trans (zp h2))
   have g2:∀w1,Below w.heap.size w w1->w1.cell? ⟨G 2,0,none⟩=some (sv S 2):=λw1 hb1=>((hS.below (hb1.mono hB)) 2 zA1).2.2
   simp only [G,sv] at g2
   have G2:=zL g2
   clear g2 h1 h1'
   have h3:per<1\/(¬per<1/\1000<per):=zO
   clear h2
   rcases h3 with h2|⟨h2,h3⟩
   all_goals
    go_enter Tryz.func49,Tryz.ntmps49
    go_wp2_with (go_at_call 81;refine (yw A c l S _ B hB h hS hl).mono ?_;rintro e w1 ⟨v,rfl,hv,hb1⟩;have g2:=G2.o w1 hb1;obtain rfl:=hv.qK Hc.o)
    go_ret
    rw [Hf.o]
    exact ⟨_,rfl,.bare 2 zO zO,hb1⟩
  ·have Hf:=zM (xS l per=(0,-1)) ((z6 h1').trans (z6 h2))
   have h3:1<=per:=zO
   have h4:per<=1000:=zO
   clear h2 h1 h1'
   go_enter Tryz.func49,Tryz.ntmps49
   go_wp2_with (go_at_call 81;refine (yw A c l S _ B hB h hS hl).mono ?_;rintro e w1 ⟨v,rfl,hv,hb1⟩;obtain rfl:=hv.qK Hc.o)
   go_ret
   rw [Hf.o]
   exact ⟨_,rfl,.nil,hb1⟩
 ·have Hf:=zM (xS l per=qh l) (zp h1)
  have Hc:=zL h1
  clear h1
  go_enter Tryz.func49,Tryz.ntmps49
  go_wp2_with (go_at_call 81;refine (yw A c l S _ B hB h hS hl).mono ?_;rintro e w1 ⟨v,rfl,hv,hb1⟩;obtain ⟨T,a,rfl⟩:=hv.qW Hc.o)
  go_ret
  rw [Hf.o]
  exact ⟨_,rfl,hv,hb1⟩
theorem ym {w w':World} {base:Nat} {e:TypeId} {size:Nat} {v:Value} {n:Nat} {xs:List Value} (h:w.ownsRow base e size v n xs) (hs:∀g,v.ownBlock=some g->w'.heap[g]?=w.heap[g]?):w'.ownsRow base e size v n xs:=by
 obtain ⟨h1,h2⟩:=h
 refine ⟨h1,?_⟩
 rcases h2 with h2|⟨g,cap,cur,hv,hg,hh,r⟩
 ·exact .inl h2
 ·exact .inr ⟨g,cap,cur,hv,hg,(hs g zCw).trans hh,r⟩
theorem vV {w:World} {base:Nat} {e:TypeId} {size:Nat} {v:Value} {n:Nat} {xs:List Value} (h:w.ownsRow base e size v n xs):∀g,v.ownBlock=some g->g<w.heap.size:=by
 intro g hg
 rcases h.2 with ⟨rfl,_⟩|⟨g',cap,cur,rfl,_,hh,_⟩
 ·simp [Value.ownBlock] at hg
 ·have:g'=g:=by simpa [Value.ownBlock] using hg
  subst this
  exact lt_of_block hh
structure DM (w0:World) (B g3 g7 g8 g9:Nat) (per top:Int) (st fl:List Ln) (A7:Option Addr) (c7:Nat) (A8:Option Addr) (c8:Nat) (wr:World):Prop where
 b3:Blk wr g3 3 #[.int .i64 per]
 b7:Blk wr g7 57 #[.slice A7 st.length c7]
 b8:Blk wr g8 57 #[.slice A8 fl.length c8]
 b9:Blk wr g9 3 #[.int .i64 top]
 o7:wr.ownsRow B 75 2 (.slice A7 st.length c7) st.length (st.flatMap Ln.cs)
 o8:wr.ownsRow B 75 2 (.slice A8 fl.length c8) fl.length (fl.flatMap Ln.cs)
 n7:∀b,(Value.slice A7 st.length c7).ownBlock=some b->b≠g3/\b≠g7/\b≠g8/\b≠g9
 n8:∀b,(Value.slice A8 fl.length c8).ownBlock=some b->b≠g3/\b≠g7/\b≠g8/\b≠g9
 ne:∀b,(Value.slice A7 st.length c7).ownBlock=some b->(Value.slice A8 fl.length c8).ownBlock≠some b
 bel:Below B w0 wr
 ge:B<=g3/\B<=g7/\B<=g8/\B<=g9
 di:g3≠g7/\g3≠g8/\g3≠g9/\g7≠g8/\g7≠g9/\g8≠g9
section
variable {w0:World} {B g3 g7 g8 g9:Nat} {per top:Int} {st fl:List Ln} {A7:Option Addr} {c7:Nat} {A8:Option Addr} {c8:Nat} {wr:World}
theorem DM.zP (h:DM w0 B g3 g7 g8 g9 per top st fl A7 c7 A8 c8 wr):B<=wr.heap.size:=zAB h.ge.1 (Nat.le_of_lt h.b3.lt)
theorem DM.aaB (h:DM w0 B g3 g7 g8 g9 per top st fl A7 c7 A8 c8 wr) {w':World} (hb:Below wr.heap.size wr w'):DM w0 B g3 g7 g8 g9 per top st fl A7 c7 A8 c8 w':=
 {h with b3:=h.b3.below hb h.b3.lt,b7:=h.b7.below hb h.b7.lt,b8:=h.b8.below hb h.b8.lt,b9:=h.b9.below hb h.b9.lt,o7:=ym h.o7 λg hg=>hb.block g (vV h.o7 g hg),o8:=ym h.o8 λg hg=>hb.block g (vV h.o8 g hg),bel:=h.bel.trans (hb.mono h.zP)}
theorem DM.alloc (h:DM w0 B g3 g7 g8 g9 per top st fl A7 c7 A8 c8 wr) (o:Obj):DM w0 B g3 g7 g8 g9 per top st fl A7 c7 A8 c8 (wr.alloc o):=h.aaB ((zAA _ _).alloc (zD _) o)
theorem DM.anX (h:DM w0 B g3 g7 g8 g9 per top st fl A7 c7 A8 c8 wr) (t:Int):DM w0 B g3 g7 g8 g9 per t st fl A7 c7 A8 c8 (wr.setCell ⟨g9,0,none⟩ (.int .i64 t)):=by
 obtain ⟨d1,d2,d3,d4,d5,d6⟩:=h.di
 exact {h with b3:=h.b3.far (p:=⟨g9,0,none⟩) d3 _,b7:=h.b7.far (p:=⟨g9,0,none⟩) d5 _,b8:=h.b8.far (p:=⟨g9,0,none⟩) d6 _,b9:=h.b9.qi 0 _,o7:=ym h.o7 λg hg=>zAF wr ⟨g9,0,none⟩ _ g (h.n7 g hg).2.2.2,o8:=ym h.o8 λg hg=>zAF wr ⟨g9,0,none⟩ _ g (h.n8 g hg).2.2.2,bel:=h.bel.setCell (p:=⟨g9,0,none⟩) h.ge.2.2.2 _}
theorem DM.a2J (h:DM w0 B g3 g7 g8 g9 per top st fl A7 c7 A8 c8 wr) {o:Obj} {w3:World} {x:Ln} {A9:Option Addr} {c9:Nat} (row:w3.ownsRow B 75 2 (.slice A9 (st++[x]).length c9) (st++[x]).length ((st++[x]).flatMap Ln.cs)) (hg:(wr.alloc o).grownBy w3 (Value.slice A7 st.length c7).ownBlock)
 (ha:(Value.slice A9 (st++[x]).length c9).ownBlock=(Value.slice A7 st.length c7).ownBlock\/(Value.slice A9 (st++[x]).length c9).ownBlock=some (wr.alloc o).heap.size):
 DM w0 B g3 g7 g8 g9 per top (st++[x]) fl A9 c9 A8 c8 (w3.setCell ⟨g7,0,none⟩ (.slice A9 (st++[x]).length c9)):=by
 obtain ⟨d1,d2,d3,d4,d5,d6⟩:=h.di
 have h1:=h.alloc o
 have hs:(wr.alloc o).heap.size=wr.heap.size+1:=zA1
 have hn:∀b,(Value.slice A7 st.length c7).ownBlock≠some b->b<(wr.alloc o).heap.size->w3.heap[b]?=(wr.alloc o).heap[b]?:=λb hb hl=>hg.block b hl (λe=>hb e.symm)
 have m3:(Value.slice A7 st.length c7).ownBlock≠some g3:=λe=>(h.n7 _ e).1 rfl
 have m7:(Value.slice A7 st.length c7).ownBlock≠some g7:=λe=>(h.n7 _ e).2.1 rfl
 have m8:(Value.slice A7 st.length c7).ownBlock≠some g8:=λe=>(h.n7 _ e).2.2.1 rfl
 have m9:(Value.slice A7 st.length c7).ownBlock≠some g9:=λe=>(h.n7 _ e).2.2.2 rfl
 have l3:=h.b3.lt
 have l7:=h.b7.lt
 have l8:=h.b8.lt
 have l9:=h.b9.lt
 have nn:∀b,(Value.slice A9 (st++[x]).length c9).ownBlock=some b->b≠g3/\b≠g7/\b≠g8/\b≠g9:=λb hb=>by
  rcases ha with e|e
  ·exact h.n7 b (by rw [<-e];exact hb)
  ·rw [hb] at e
   injection e with e
   omega
 exact {h with
  b3:=(h1.b3.same (hn g3 m3 h1.b3.lt)).far (p:=⟨g7,0,none⟩) d1 _
  b7:=(h1.b7.same (hn g7 m7 h1.b7.lt)).qi 0 _
  b8:=(h1.b8.same (hn g8 m8 h1.b8.lt)).far (p:=⟨g7,0,none⟩) d4.symm _
  b9:=(h1.b9.same (hn g9 m9 h1.b9.lt)).far (p:=⟨g7,0,none⟩) d5.symm _
  o7:=ym row λg hg'=>zAF w3 ⟨g7,0,none⟩ _ g (nn g hg').2.1
  o8:=ym h1.o8 λg hg'=>(zAF w3 ⟨g7,0,none⟩ _ g (h.n8 g hg').2.1).trans (hn g (λe=>h.ne g e hg') (vV h1.o8 g hg'))
  n7:=nn
  ne:=λb hb e=>by
   rcases ha with e2|e2
   ·exact h.ne b (by rw [<-e2];exact hb) e
   ·have:=vV h.o8 b e
    rw [hb] at e2
    injection e2 with e2
    omega
  bel:=(h1.bel.grown hg h1.zP (λk hk=>zH h.o7 k hk)).setCell (p:=⟨g7,0,none⟩) h.ge.2.1 _}
theorem DM.a2I (h:DM w0 B g3 g7 g8 g9 per top st fl A7 c7 A8 c8 wr) {o:Obj} {w3:World} {x:Ln} {A9:Option Addr} {c9:Nat} (row:w3.ownsRow B 75 2 (.slice A9 (fl++[x]).length c9) (fl++[x]).length ((fl++[x]).flatMap Ln.cs)) (hg:(wr.alloc o).grownBy w3 (Value.slice A8 fl.length c8).ownBlock)
 (ha:(Value.slice A9 (fl++[x]).length c9).ownBlock=(Value.slice A8 fl.length c8).ownBlock\/(Value.slice A9 (fl++[x]).length c9).ownBlock=some (wr.alloc o).heap.size):
 DM w0 B g3 g7 g8 g9 per top st (fl++[x]) A7 c7 A9 c9 (w3.setCell ⟨g8,0,none⟩ (.slice A9 (fl++[x]).length c9)):=by
 obtain ⟨d1,d2,d3,d4,d5,d6⟩:=h.di
 have h1:=h.alloc o
 have hs:(wr.alloc o).heap.size=wr.heap.size+1:=zA1
 have hn:∀b,(Value.slice A8 fl.length c8).ownBlock≠some b->b<(wr.alloc o).heap.size->w3.heap[b]?=(wr.alloc o).heap[b]?:=λb hb hl=>hg.block b hl (λe=>hb e.symm)
 have m3:(Value.slice A8 fl.length c8).ownBlock≠some g3:=λe=>(h.n8 _ e).1 rfl
 have m7:(Value.slice A8 fl.length c8).ownBlock≠some g7:=λe=>(h.n8 _ e).2.1 rfl
 have m8:(Value.slice A8 fl.length c8).ownBlock≠some g8:=λe=>(h.n8 _ e).2.2.1 rfl
 have m9:(Value.slice A8 fl.length c8).ownBlock≠some g9:=λe=>(h.n8 _ e).2.2.2 rfl
 have l3:=h.b3.lt
 have l7:=h.b7.lt
 have l8:=h.b8.lt
 have l9:=h.b9.lt
 have nn:∀b,(Value.slice A9 (fl++[x]).length c9).ownBlock=some b->b≠g3/\b≠g7/\b≠g8/\b≠g9:=λb hb=>by
  rcases ha with e|e
  ·exact h.n8 b (by rw [<-e];exact hb)
  ·rw [hb] at e
   injection e with e
   omega
 exact {h with
  b3:=(h1.b3.same (hn g3 m3 h1.b3.lt)).far (p:=⟨g8,0,none⟩) d2 _
  b7:=(h1.b7.same (hn g7 m7 h1.b7.lt)).far (p:=⟨g8,0,none⟩) d4 _
  b8:=(h1.b8.same (hn g8 m8 h1.b8.lt)).qi 0 _
  b9:=(h1.b9.same (hn g9 m9 h1.b9.lt)).far (p:=⟨g8,0,none⟩) d6.symm _
  o7:=ym h1.o7 λg hg'=>(zAF w3 ⟨g8,0,none⟩ _ g (h.n7 g hg').2.2.1).trans (hn g (h.ne g hg') (vV h1.o7 g hg'))
  o8:=ym row λg hg'=>zAF w3 ⟨g8,0,none⟩ _ g (nn g hg').2.2.1
  n8:=nn
  ne:=λb hb e=>by
   rcases ha with e2|e2
   ·exact h.ne b hb (by rw [<-e2];exact e)
   ·have:=vV h.o7 b hb
    rw [e] at e2
    injection e2 with e2
    omega
  bel:=(h1.bel.grown hg h1.zP (λk hk=>zH h.o8 k hk)).setCell (p:=⟨g8,0,none⟩) h.ge.2.2.1 _}
theorem DM.box (h:DM w0 B g3 g7 g8 g9 per top st fl A7 c7 A8 c8 wr):ayA wr g7 g3 g9 g8 A7 c7 st per top A8 c8 fl:=
 ⟨h.b7.cell 0,h.b3.cell 0,h.b9.cell 0,h.b8.cell 0,⟨h.b7.lt,h.b3.lt,h.b9.lt,h.b8.lt⟩,Rd.qA h.o7 zO Ln.qw,Rd.qA h.o8 zO Ln.qw⟩
end
end Go.Proofs.YtoomffajodheaaaGreatDoor
