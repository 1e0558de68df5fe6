/- The proof of ScriptPlays, part DlB. Conditions: in each statement. -/
import Derived.Test.YtoomffajodheaaaGreatDoorZShelfX
import Derived.Test.YtoomffajodheaaaGreatDoorZDlA
import Derived.Deep.CutRange
set_option linter.all false
namespace Go.Proofs.YtoomffajodheaaaGreatDoor
open Go.RowKit
set_option maxRecDepth 100000
theorem zA3{p:Prop}(h:p:=by simp only [maxLen];omega):p:=h
theorem zA9{p:Prop}(h:p:=by simp only [maxLen,zAL,zAg];omega):p:=h
theorem zBG{p:Prop}(h:p:=by simp only [zAL,zAg];omega):p:=h
theorem zBH{p:Prop}(h:p:=by simp only [maxLen,zAL,zAg]<;>omega):p:=h
theorem zBQ{p:Prop}(h:p:=by simp only [zAL,zAg]<;>omega):p:=h
theorem zBV{p:Prop}(h:p:=by rw [hV];exact Blk.new _ _ _):p:=h
theorem zBX{p:Prop}(h:p:=by simp<;>omega):p:=h
theorem zCT{p:Prop}(h:p:=by rw [hV];exact hbw.alloc zw _):p:=h
theorem zCj{p:Prop}(h:p:=by rcases zAM.1 hy with e|e;rw [e];exact OKK.o;exact HSO.o y (HSUB.o y e)):p:=h
theorem zCm{p:Prop}(h:p:=by rw [<-HTT.o];exact h6):p:=h
theorem zCu{p:Prop}(h:p:=by rw [vE Ln.cs 2 Ln.qw];exact hj):p:=h
theorem zDg{p:Prop}(h:p:=by
 go_enter Tryz.func128,Tryz.ntmps128
 go_wp2_with fail
 refine (jX a w).mono ?_
 rintro e w1 ⟨rfl,hw1⟩
 obtain rfl:w=w1:=hw1.symm
 clear hw1
 go_wp2_with fail
 refine (jX b w).mono ?_
 rintro e w1 ⟨rfl,hw1⟩
 obtain rfl:w=w1:=hw1.symm
 clear hw1
 go_wp2_with fail
 go_ret
 exact ⟨by rw [E.o];rfl,rfl⟩):p:=h
theorem zDq{p:Prop}(h:p:=by
 go_wp2_with fail
 go_meet
 exact ⟨by rw [E.o],rfl⟩):p:=h
theorem zDz{p:Prop}(h:p:=by
 go_wp2_with fail
 refine (acJ A c l per S (w.alloc (.cells #[.int .i64 per] 3)) B zA7 (h.below ((zAA _ _).alloc hB _)) ((hS.below ((zAA _ _).alloc hB _)).sub zA1) hl).mono ?_
 rintro e wl ⟨v,rfl,hv,kl⟩
 have kl':Below w.heap.size w wl:=((zAA _ _).alloc (zD _) _).trans (kl.mono zA1)
 obtain ⟨T,a,rfl⟩:=hv.qW HK.o
 go_wp2_with fail
 go_ret2
 rw [Hv.o,He.o]
 exact ⟨_,rfl,hv,kl'⟩):p:=h
theorem zES{p:Prop}(h:p:=by
 go_wp2_with fail
 go_roundw
 case rel=>exact ⟨k+1,st,fl,l[k].b,A7,c7,A8,c8,hlt,by go_num,rfl,by have h9:=DI2.o;rw [E.o] at h9;exact h9,HV.o⟩
 case measure=>simp [intOf];omega):p:=h
theorem zEa{p:Prop}(h:p:=by
 have HN:=zL (SUH.o.next hil hjl)
 go_wp2_with fail
 go_roundw
 case rel=>exact ⟨i+1,acc,A3,c3,hil,by go_num,rfl,HN.o,ROW.o,hbw⟩
 case measure=>simp [intOf];omega):p:=h
theorem zEc{p:Prop}(h:p:=by
 go_wp2_with fail
 go_roundw
 case rel=>exact ⟨k+1,per*(l[k].b+n),hlt,by go_num,rfl,by omega,by omega,by rw [E.o,E2.o],B33.o,k3⟩
 case measure=>simp [intOf];omega):p:=h
theorem zEq{p:Prop}(h:p:=by
 go_wp2_with fail
 go_roundw
 case rel=>exact ⟨k+1,fl[k].b,hkl,by go_num,E.o,by omega,r2,hm3⟩
 case measure=>simp [intOf];omega):p:=h
theorem zE6{p:Prop}(h:p:=by
 go_wp2_with fail
 go_ret
 exact ⟨by rw [E.o];rfl,rfl⟩):p:=h
theorem zFH{p:Prop}(h:p:=by
 clear hc
 go_wp2_with fail
 go_meet
 rw [E.o]
 exact hm3):p:=h
theorem zFL{p:Prop}(h:p:=by
 simp only [hrev]
 rw [List.getElem_append_right (by simp [hq])]
 simp [hq]):p:=h
theorem a2W (n:Nat) (w:World) (hn:n<=1000):
 Calls Tryz.prog 82 #[.slice none 0 0,.int .i64 (n:Int)] w (vI Ln.cs 2 75 [] w):=by
 obtain ⟨i0,hi0,hz0,hz1,hz2⟩:=info_parts aaP
 by_cases h0:n=0
 ·subst h0
  refine (Any8.slices_Grow_room Tryz.a0S none 0 0 0 w zO zO zO zO).mono ?_
  rintro e w' ⟨rfl,rfl⟩
  exact ⟨none,0,rfl,⟨by simp,.inl ⟨rfl,rfl⟩⟩,zAA _ _⟩
 ·refine (Any8.slices_Grow_grow Tryz.a0S i0 (.agg #[.int .i64 0,.int .i64 0]) hi0 hz0 (by rw [hz1];omega) none 0 0 n [] w zO zO (by rw [hz2];omega) zO zA1 (λ_=>rfl) (λa h=>by cases h)).mono ?_
  rintro e w' ⟨rfl,rfl⟩
  have hge:=grownCap_ge w (0+n) 0 75
  refine ⟨some ⟨w.heap.size,0,none⟩,_,rfl,⟨by simp,.inr ⟨w.heap.size,_,_,rfl,zD _,heap_alloc_new _ _,zAK _,?_,?_⟩⟩,((zAA _ _).drew).alloc (zD _) _⟩
  ·exact grownCap_le_maxLen w (0+n) 0 75 zA3
  ·refine ⟨?_,by simp⟩
   have e2:(Value.agg #[Value.int IntKind.i64 0,Value.int IntKind.i64 0]).cells.size=2:=rfl
   show _=grownCap w (0+n) 0 75*2
   rw [Array.size_append,Array.size_append,size_zeroCells,size_zeroCells,e2]
   show 0+_+(grownCap w (0+n) 0 75 - (0+n))*2=_
   omega
set_option maxHeartbeats 4000000 in
theorem apU (A A':Option Addr) (c c' g:Nat) (a b:List Ln) (w:World) (hg:g<w.heap.size) (h0:w.cell? ⟨g,0,none⟩=some (.slice A a.length c)) (h1:w.cell? ⟨g,1,none⟩=some (.slice A' b.length c')) (ha:RdL w w.heap.size A a) (hb:RdL w w.heap.size A' b) (hla:a.length<=100) (hlb:b.length<=100):
 Calls Tryz.prog 53 #[.slice (some ⟨g,0,none⟩) 2 2] w (vI Ln.cs 2 75 (a++b) w):=by
 obtain ⟨i0,hi0,hz0,hz1,hz2⟩:=info_parts aaP
 have HA:=zL ha
 have HB:=zL hb
 clear ha hb
 go_enter Tryz.func53,Tryz.ntmps53
 go_wp2_with fail
 go_loopw [3,11] (λsv iv wr=>∃(i n:Nat),i<=2/\iv=.int .i64 i/\sv=.int .i64 n/\n=(if i=0 then 0 else if i=1 then a.length else a.length+b.length)/\wr=w) (λ_ i _=>2 - (intOf i).toNat)
 case atStart=>exact ⟨0,0,by omega,rfl,rfl,rfl,rfl⟩
 case round=>
  obtain ⟨i,n,hi,rfl,rfl,hn,hwr⟩:=hrel
  obtain rfl:w=wr:=hwr.symm
  clear hwr
  have HN:=zL hn
  clear hn
  match i,hi with
  |0,_=>
   have hn:n=0:=HN.o
   subst hn
   go_wp2_with fail
   go_roundw
   case rel=>exact ⟨1,a.length,by omega,rfl,by go_num,by first |rfl|trivial,by first |rfl|trivial⟩
   case measure=>simp [intOf]
  |1,_=>
   have hn:n<=100:=by have:=HN.o;simp at this;omega
   have HN1:=zM (n=a.length) HN.o
   go_wp2_with fail
   go_roundw
   case rel=>exact ⟨2,n+b.length,by omega,rfl,by go_num,by rw [HN1.o];first |rfl|trivial,by first |rfl|trivial⟩
   case measure=>simp [intOf]
  |2,_=>
   have hn:n<=1000:=by have:=HN.o;simp at this;omega
   go_wp2_with fail
   refine (a2W n w hn).mono ?_
   rintro e w1 ⟨A1,c1,rfl,o1,k1⟩
   have O1:=zL o1
   have K1:=zL k1
   clear o1 k1
   go_wp2_with fail
   go_loopw [6,27] (λov iv wr=>∃(i:Nat) (acc:List Ln) (A2:Option Addr) (c2:Nat),i<=2/\iv=.int .i64 i/\ov=.slice A2 acc.length c2/\acc=([a,b].take i).flatten/\acc.length<=200/\wr.ownsRow w.heap.size 75 2 (.slice A2 acc.length c2) acc.length (acc.flatMap Ln.cs)/\Below w.heap.size w wr) (λ_ i _=>2 - (intOf i).toNat)
   case atStart=>exact ⟨0,[],A1,c1,by omega,rfl,rfl,rfl,by simp,O1.o,K1.o⟩
   case round=>
    obtain ⟨i,acc,A2,c2,hi,rfl,rfl,hacc,hal,row,hbw⟩:=hrel
    have zw:=hbw.size
    have ROW:=zL row
    have HACC:=zL hacc
    have HBW:=zL hbw
    have x0:wr.cell? ⟨g,0,none⟩=some (.slice A a.length c):=(hbw.cell (p:=⟨g,0,none⟩) hg).trans h0
    have x1:wr.cell? ⟨g,1,none⟩=some (.slice A' b.length c'):=(hbw.cell (p:=⟨g,1,none⟩) hg).trans h1
    have a1:=HA.o.below hbw
    have b1:=HB.o.below hbw
    clear row hacc hbw
    match i,hi with
    |0,_=>
     have e0:acc=[]:=HACC.o
     subst e0
     go_wp2_with (at_builtin;refine qd _ Ln.cs rfl (.tmp 31) (.tmp 32) _ rfl w.heap.size 75 i0 _ 2 16 Tryz.underlying57 hi0 hz0 hz1 hz2 rfl zO Ln.qw Ln.qV (.slice A2 0 c2) 0 [] rfl ROW.o w.heap.size A c a rfl a1 zA3 zO zw ?_;intro v3 w3 row3 g3 at3;simp only [Nat.zero_add,zAa] at row3;obtain ⟨A3,c3,rfl⟩:=yl row3 zO;have k3:=ql HBW.o ROW.o g3 (zD _) zw)
     go_roundw
     case rel=>exact ⟨1,a,A3,c3,by omega,rfl,rfl,by simp,by omega,row3,k3⟩
     case measure=>simp [intOf]
    |1,_=>
     have e0:acc=a:=by rw [HACC.o];simp
     subst e0
     go_wp2_with (at_builtin;refine qd _ Ln.cs rfl (.tmp 31) (.tmp 32) _ rfl w.heap.size 75 i0 _ 2 16 Tryz.underlying57 hi0 hz0 hz1 hz2 rfl zO Ln.qw Ln.qV (.slice A2 acc.length c2) acc.length (acc.flatMap Ln.cs) rfl ROW.o w.heap.size A' c' b rfl b1 zA3 zO zw ?_;intro v3 w3 row3 g3 at3;obtain ⟨A3,c3,hv3,row3⟩:=qI row3 zO;have k3:=ql HBW.o ROW.o g3 (zD _) zw)
     go_roundw
     case rel=>exact ⟨2,acc++b,A3,c3,by omega,rfl,by rw [zAP],by simp,by rw [zAP];omega,row3,k3⟩
     case measure=>simp [intOf]
    |2,_=>
     have e0:acc=a++b:=by rw [HACC.o];simp
     subst e0
     go_wp2_with fail
     go_ret
     exact ⟨A2,c2,rfl,ROW.o,HBW.o⟩
def yf (l:List Ln) (per:Int):Nat × Int:=if (xS l per).1≠0 then xS l per else if xU per l=0 then (4,-1) else (0,-1)
def wS (l:List Ln) (per:Int):Int:=if (yf l per).1=0 then abK per l else 0
structure DI (l:List Ln) (per:Int) (k:Nat) (st fl:List Ln) (r:Int):Prop where
 eS:xJ per l=st++xJ per (l.drop k)
 eF:flatL per l=fl++flatL per (l.drop k)
 eR:wI 0 l=wI r (l.drop k)
 b0:0<=r/\r<=20000
 lS:st.length<=k
 lF:fl.length<=k
section
variable {l:List Ln} {per:Int} {k:Nat} {st fl:List Ln} {r:Int}
theorem DI.a2C (h:DI l per k st fl r) (hk:k<l.length) (hs:1000<l[k].r*per) (hp:0<=per):DI l per (k+1) (st++[l[k]]) fl r:=by
 have hd:l.drop k=l[k]::l.drop (k+1):=zAE hk
 have hr:¬(l[k].r=0/\(r=0\/l[k].b<r)):=λe=>by rw [e.1] at hs;omega
 refine ⟨by rw [h.eS,hd];unfold xJ;rw [List.filter_cons_of_pos (by simpa using hs),zAi];rfl,by rw [h.eF,hd];unfold flatL;rw [List.filter_cons_of_neg zA7],by rw [h.eR,hd,wI,z6 hr],h.b0,by rw [zAP];have:=h.lS;simp;omega,by have:=h.lF;omega⟩
theorem DI.zero (h:DI l per k st fl r) (hk:k<l.length) (h0:l[k].r=0) (hok:yL l[k]):DI l per (k+1) st fl (if r=0\/l[k].b<r then l[k].b else r):=by
 have hd:l.drop k=l[k]::l.drop (k+1):=zAE hk
 refine ⟨by rw [h.eS,hd];unfold xJ;rw [List.filter_cons_of_neg (by simp [h0])],by rw [h.eF,hd];unfold flatL;rw [List.filter_cons_of_neg (by simp [h0])],by rw [h.eR,hd,wI];simp only [h0,true_and],?_,by have:=h.lS;omega,by have:=h.lF;omega⟩
 have:=h.b0
 have:=hok.1
 have:=hok.2.1
 split<;>omega
theorem DI.flat (h:DI l per k st fl r) (hk:k<l.length) (hs:l[k].r*per<=1000) (h0:0<l[k].r):DI l per (k+1) st (fl++[l[k]]) r:=by
 have hd:l.drop k=l[k]::l.drop (k+1):=zAE hk
 refine ⟨by rw [h.eS,hd];unfold xJ;rw [List.filter_cons_of_neg zA7],by rw [h.eF,hd];unfold flatL;rw [List.filter_cons_of_pos zA7,zAi];rfl,by rw [h.eR,hd,wI,z6 zO],h.b0,by have:=h.lS;omega,by rw [zAP];have:=h.lF;simp;omega⟩
end
set_option maxHeartbeats 8000000 in
theorem apR (A:Option Addr) (c:Nat) (l:List Ln) (per:Int) (S:Nat->Addr) (w:World) (B:Nat) (hB:B<=w.heap.size) (h:RdL w B A l) (hS:Snt w B S [2,3,4]) (hl:l.length<=9223372036854775807) (hk:(xS l per).1=0):
 Calls Tryz.prog 32 #[.slice A l.length c,.int .i64 per] w (adA (.int .i64 (wS l per)) S (yf l per).1 (yf l per).2 w):=by
 obtain ⟨hc,p0,p1,hke⟩:=acI hk
 obtain ⟨l1,l6,hok,_⟩:=crvErr_ok hc
 obtain ⟨i0,hi0,hz0,hz1,hz2⟩:=info_parts aaP
 have HK:=zL hk
 have HOK:=zL hok
 clear hk hc hke
 go_enter Tryz.func32,Tryz.ntmps32
 go_wp2_with fail
 refine (acJ A c l per S (w.alloc (.cells #[.int .i64 per] 3)) B zA7 (h.below ((zAA _ _).alloc hB _)) ((hS.below ((zAA _ _).alloc hB _)).sub zA1) hl).mono ?_
 rintro e wl ⟨v,rfl,hv,kl⟩
 obtain rfl:=hv.qK HK.o
 have bl:Blk wl w.heap.size 3 #[.int .i64 per]:=(Blk.new w _ _).below kl zA1
 have kl':Below w.heap.size w wl:=((zAA _ _).alloc (zD _) _).trans (kl.mono zA1)
 have zl:w.heap.size<wl.heap.size:=bl.lt
 obtain ⟨g3,hg3⟩:∃g3,g3=w.heap.size:=⟨_,rfl⟩
 have HM0:∀g7,g7=wl.heap.size->DM w w.heap.size g3 g7 (g7+1) (g7+1+1) per 0 [] [] none 0 none 0 (((wl.alloc (.cells #[.slice none 0 0] 57)).alloc (.cells #[.slice none 0 0] 57)).alloc (.cells #[.int .i64 0] 3)):=λg7 hg7=>by
  have s1:(wl.alloc (.cells #[.slice none 0 0] 57)).heap.size=g7+1:=by simp [hg7]
  have s2:((wl.alloc (.cells #[.slice none 0 0] 57)).alloc (.cells #[.slice none 0 0] 57)).heap.size=g7+1+1:=by simp [hg7]
  have x7:=Blk.new wl 57 #[.slice none 0 0]
  rw [<-hg7] at x7
  have x8:=Blk.new (wl.alloc (.cells #[.slice none 0 0] 57)) 57 #[.slice none 0 0]
  rw [s1] at x8
  have x9:=Blk.new ((wl.alloc (.cells #[.slice none 0 0] 57)).alloc (.cells #[.slice none 0 0] 57)) 3 #[.int .i64 0]
  rw [s2] at x9
  exact {b3:=by rw [hg3];exact ((bl.alloc _).alloc _).alloc _,b7:=(x7.alloc _).alloc _,b8:=x8.alloc _,b9:=x9,o7:=⟨by simp,.inl ⟨rfl,rfl⟩⟩,o8:=⟨by simp,.inl ⟨rfl,rfl⟩⟩,n7:=λb e=>by simp [Value.ownBlock] at e,n8:=λb e=>by simp [Value.ownBlock] at e,ne:=λb e=>by simp [Value.ownBlock] at e,bel:=((kl'.alloc (Nat.le_of_lt zl) _).alloc zA7 _).alloc zA7 _,ge:=⟨by omega,by omega,by omega,by omega⟩,di:=⟨by omega,by omega,by omega,by omega,by omega,by omega⟩}
 obtain ⟨g7,hg7⟩:∃g7,g7=wl.heap.size:=⟨_,rfl⟩
 have M0:=zL (HM0 g7 hg7)
 rw [<-hg3]
 have HG3:=zL hg3
 have HG7:=zL hg7
 clear HM0 bl kl kl' hv zl hg3 hg7
 go_upto_region 6 with fail
 rw [<-HG7.o]
 obtain ⟨W0,hW0⟩:∃W0:World,W0=((wl.alloc (.cells #[.slice none 0 0] 57)).alloc (.cells #[.slice none 0 0] 57)).alloc (.cells #[.int .i64 0] 3):=⟨_,rfl⟩
 have M1:=zM (DM w w.heap.size g3 g7 (g7+1) (g7+1+1) per 0 [] [] none 0 none 0 W0) (by rw [hW0];exact M0.o)
 rw [<-hW0]
 obtain ⟨g8,hg8⟩:∃g8,g8=g7+1:=⟨_,rfl⟩
 obtain ⟨g9,hg9⟩:∃g9,g9=g8+1:=⟨_,rfl⟩
 rw [<-hg8,<-hg9] at M1 ⊢
 clear M0 HG3 HG7 hW0 hg8 hg9
 have hN:=zL hS
 go_wp2_with fail
 go_loopw [10,26] (λrv iv wr=>∃(k:Nat) (st fl:List Ln) (r:Int) (A7:Option Addr) (c7:Nat) (A8:Option Addr) (c8:Nat),k<=l.length/\iv=.int .i64 k/\rv=.int .i64 r/\DI l per k st fl r/\DM w w.heap.size g3 g7 g8 g9 per 0 st fl A7 c7 A8 c8 wr) (λ_ iv _=>l.length - (intOf iv).toNat)
 case atStart=>exact ⟨0,[],[],0,none,0,none,0,zAK _,rfl,rfl,⟨rfl,rfl,rfl,by omega,by simp,by simp⟩,M1.o⟩
 case round=>
  obtain ⟨k,st,fl,r,A7,c7,A8,c8,hk,rfl,rfl,hdi,hm⟩:=hrel
  have DIH:=zL hdi
  have DMH:=zL hm
  clear hdi hm M1
  by_cases hlt:k<l.length
  ·as_aux_lemma=>
   have hokk:=HOK.o _ (zd hlt)
   have OKK:=zL hokk
   obtain ⟨r1,r2,r3,r4⟩:=hokk
   have m0:0<=l[k].r*per:=zAY r3 zO
   have m1:l[k].r*per<=100000*1000:=Int.mul_le_mul r4 p1 zO zO
   obtain ⟨b,o,rfl,hb,d0,d1⟩:=RdL.get (h.below (DMH.o.bel.mono hB)) hlt
   have rb:=DIH.o.b0
   have sl:=DIH.o.lS
   have fl':=DIH.o.lF
   go_upto_region 9 with fail
   obtain ⟨V,hV⟩:∃V:World,V=wr.alloc (.cells #[.int .i64 l[k].b,.int .i64 l[k].r] 75):=⟨_,rfl⟩
   have HV:=zM (DM w w.heap.size g3 g7 g8 g9 per 0 st fl A7 c7 A8 c8 V) (by rw [hV];exact DMH.o.alloc _)
   have bx:Blk V wr.heap.size 75 #[.int .i64 l[k].b,.int .i64 l[k].r]:=zBV
   obtain ⟨gx,hgx⟩:∃gx,gx=wr.heap.size:=⟨_,rfl⟩
   rw [<-hV,<-hgx]
   rw [<-hgx] at bx
   have x0:V.cell? ⟨gx,0,none⟩=some (.int .i64 l[k].b):=bx.cell 0
   have x1:V.cell? ⟨gx,1,none⟩=some (.int .i64 l[k].r):=bx.cell 1
   have x3:V.cell? ⟨g3,0,none⟩=some (.int .i64 per):=HV.o.b3.cell 0
   have x7:V.cell? ⟨g7,0,none⟩=some (.slice A7 st.length c7):=HV.o.b7.cell 0
   have x8:V.cell? ⟨g8,0,none⟩=some (.slice A8 fl.length c8):=HV.o.b8.cell 0
   have Hnew:=zM (Rd (V.alloc (.cells #[.int .i64 l[k].b,.int .i64 l[k].r] 75)) (V.heap.size+1) 2 Ln.cs (some ⟨V.heap.size,0,none⟩) [l[k]]) (RdL.zU l[k])
   have zV:=HV.o.zP
   clear hV hgx bx d0 d1
   by_cases hs:1000<l[k].r*per
   ·have DI2:=zL (DIH.o.a2C hlt hs zO)
    go_wp2_with (at_builtin;refine qd _ Ln.cs rfl (.tmp 36) (.tmp 38) _ rfl w.heap.size 75 i0 _ 2 16 Tryz.underlying57 hi0 hz0 hz1 hz2 rfl zO Ln.qw Ln.qV (.slice A7 st.length c7) st.length (st.flatMap Ln.cs) rfl (HV.o.o7.alloc _) (V.heap.size+1) (some ⟨V.heap.size,0,none⟩) 1 [l[k]] rfl Hnew.o zA9 zBG zA7 ?_;intro v3 w3 row3 g3' at3;have b7':=(HV.o.alloc (.cells #[.int .i64 l[k].b,.int .i64 l[k].r] 75)).b7.grown g3' (λe=>(HV.o.n7 _ e.symm).2.1 rfl);have c7':w3.cell? ⟨g7,0,none⟩=some (.slice A7 st.length c7):=b7'.cell 0;have f7':=b7'.frozen 0;obtain ⟨A9,c9,hv3,row4⟩:=qI (l:=st) (l':=[l[k]]) row3 zO;subst hv3)
    have M3:=HV.o.a2J row4 g3' at3
    have hle:(st++[l[k]]).length=st.length+1:=zA1
    refine ⟨⟨k+1,st++[l[k]],fl,r,A9,c9,A8,c8,hlt,by go_num,rfl,DI2.o,by rw [<-hle];exact M3⟩,?_⟩
    simp [intOf]
    omega
   ·have hs1:l[k].r*per<=1000:=by omega
    clear hs
    by_cases h0:l[k].r=0
    ·have hb0:(l[k].r==0)=true:=beq_iff_eq.2 h0
     have hn0:¬0<l[k].r:=zO
     have DI2:=zL (DIH.o.zero hlt h0 OKK.o)
     clear h0
     by_cases hr0:r=0
     ·subst hr0
      have E:=zM ((if (0:Int)=0\/l[k].b<0 then l[k].b else 0)=l[k].b) (zp (.inl rfl))
      exact zES
     ·have hbr:(r==0)=false:=beq_eq_false_iff_ne.2 hr0
      by_cases hbr2:l[k].b<r
      ·have E:=zM ((if r=0\/l[k].b<r then l[k].b else r)=l[k].b) (zp (.inr hbr2))
       clear hr0
       exact zES
      ·have E:=zM ((if r=0\/l[k].b<r then l[k].b else r)=r) (z6 (λe=>e.elim hr0 hbr2))
       clear hr0
       go_wp2_with fail
       go_roundw
       case rel=>exact ⟨k+1,st,fl,r,A7,c7,A8,c8,hlt,by go_num,rfl,by have h9:=DI2.o;rw [E.o] at h9;exact h9,HV.o⟩
       case measure=>simp [intOf];omega
    ·have hb0:(l[k].r==0)=false:=beq_eq_false_iff_ne.2 h0
     have hp0:0<l[k].r:=zO
     have DI2:=zL (DIH.o.flat hlt hs1 hp0)
     clear h0
     go_wp2_with (at_builtin;refine qd _ Ln.cs rfl (.tmp 60) (.tmp 62) _ rfl w.heap.size 75 i0 _ 2 16 Tryz.underlying57 hi0 hz0 hz1 hz2 rfl zO Ln.qw Ln.qV (.slice A8 fl.length c8) fl.length (fl.flatMap Ln.cs) rfl (HV.o.o8.alloc _) (V.heap.size+1) (some ⟨V.heap.size,0,none⟩) 1 [l[k]] rfl Hnew.o zA9 zBG zA7 ?_;intro v3 w3 row3 g3' at3;have b8':=(HV.o.alloc (.cells #[.int .i64 l[k].b,.int .i64 l[k].r] 75)).b8.grown g3' (λe=>(HV.o.n8 _ e.symm).2.2.1 rfl);have c8':w3.cell? ⟨g8,0,none⟩=some (.slice A8 fl.length c8):=b8'.cell 0;have f8':=b8'.frozen 0;obtain ⟨A9,c9,hv3,row4⟩:=qI (l:=fl) (l':=[l[k]]) row3 zO;subst hv3)
     have M3:=HV.o.a2I row4 g3' at3
     have hle:(fl++[l[k]]).length=fl.length+1:=zA1
     refine ⟨⟨k+1,st,fl++[l[k]],r,A7,c7,A9,c9,hlt,by go_num,rfl,DI2.o,by rw [<-hle];exact M3⟩,?_⟩
     simp [intOf]
     omega
  ·have hd:l.drop k=[]:=zAO zO
   have hst:st=xJ per l:=by rw [DIH.o.eS,hd];simp [xJ]
   have hfl:fl=flatL per l:=by rw [DIH.o.eF,hd];simp [flatL]
   have hrr:r=wI 0 l:=by rw [DIH.o.eR,hd];rfl
   have hsl:=DIH.o.lS
   have hfll:=DIH.o.lF
   have hrb:=DIH.o.b0
   have HST:=zL hst
   have HFL:=zL hfl
   have HRR:=zL hrr
   have x8:wr.cell? ⟨g8,0,none⟩=some (.slice A8 fl.length c8):=DMH.o.b8.cell 0
   clear hd hst hfl hrr DIH
   go_wp2_with fail
   go_loopw [67] (λiv wr=>∃(k:Nat) (t:Int),k<=fl.length/\iv=.int .i64 k/\ut 0 fl=ut t (fl.drop k)/\0<=t/\t<=20000/\DM w w.heap.size g3 g7 g8 g9 per t st fl A7 c7 A8 c8 wr) (λiv _=>fl.length - (intOf iv).toNat)
   case atStart=>exact ⟨0,0,zAK _,rfl,rfl,by omega,by omega,DMH.o⟩
   case round=>
    obtain ⟨k,t,hk,rfl,htf,t0,t1,hm⟩:=hrel
    have HM:=zL hm
    have HTF:=zL htf
    clear hm htf x8 DMH
    by_cases hkl:k<fl.length
    ·as_aux_lemma=>
     have hmem:fl[k]∈flatL per l:=by rw [<-HFL.o];exact zd hkl
     obtain ⟨r1,r2,r3,r4⟩:=HOK.o _ (yZ.1 hmem).1
     have hd:fl.drop k=fl[k]::fl.drop (k+1):=zAE hkl
     have HD:=zL hd
     obtain ⟨b,o,rfl,hb,d0,d1⟩:=RdL.get (Rd.qA HM.o.o8 zO Ln.qw) hkl
     clear hd hmem
     go_upto_region 19 with fail
     obtain ⟨V,hV⟩:∃V:World,V=wr.alloc (.cells #[.int .i64 fl[k].b,.int .i64 fl[k].r] 75):=⟨_,rfl⟩
     have HV:=zM (DM w w.heap.size g3 g7 g8 g9 per t st fl A7 c7 (some ⟨b,o,none⟩) c8 V) (by rw [hV];exact HM.o.alloc _)
     have bx:Blk V wr.heap.size 75 #[.int .i64 fl[k].b,.int .i64 fl[k].r]:=zBV
     obtain ⟨gx,hgx⟩:∃gx,gx=wr.heap.size:=⟨_,rfl⟩
     rw [<-hV,<-hgx]
     rw [<-hgx] at bx
     have x0:V.cell? ⟨gx,0,none⟩=some (.int .i64 fl[k].b):=bx.cell 0
     have x9:V.cell? ⟨g9,0,none⟩=some (.int .i64 t):=HV.o.b9.cell 0
     have f9:=HV.o.b9.frozen 0
     clear hV hgx bx d0 d1
     by_cases ht0:t=0
     ·subst ht0
      have E:=zM (ut 0 fl=ut fl[k].b (fl.drop (k+1))) (by rw [HTF.o,HD.o,ut,zp (.inl rfl)])
      have hm3:=HV.o.anX fl[k].b
      exact zEq
     ·have hb0:(t==0)=false:=beq_eq_false_iff_ne.2 ht0
      by_cases hbt:fl[k].b<t
      ·have E:=zM (ut 0 fl=ut fl[k].b (fl.drop (k+1))) (by rw [HTF.o,HD.o,ut,zp (.inr hbt)])
       have hm3:=HV.o.anX fl[k].b
       clear ht0
       exact zEq
      ·have E:=zM (ut 0 fl=ut t (fl.drop (k+1))) (by rw [HTF.o,HD.o,ut,z6 (λe=>e.elim ht0 hbt)])
       have hm3:=HV.o
       clear ht0
       go_wp2_with fail
       go_roundw
       case rel=>exact ⟨k+1,t,hkl,by go_num,E.o,t0,t1,hm3⟩
       case measure=>simp [intOf];omega
    ·have htt:t=ut 0 fl:=by rw [HTF.o,zAO zO];rfl
     have HTT:=zL htt
     have x9:wr.cell? ⟨g9,0,none⟩=some (.int .i64 t):=HM.o.b9.cell 0
     clear htt HTF
     go_upto_region 22 with fail
     go_cut [92] from 26 to 127 (λs92 wx=>s92=.bool (decide (0<r/\(t=0\/r<t)))/\wx=wr)
     case first=>
      by_cases hr0:0<r
      ·by_cases ht0:t=0
       ·have E:=zM (decide (0<r/\(t=0\/r<t))=true) (zAI ⟨hr0,.inl ht0⟩)
        subst ht0
        exact zDq
       ·have hb0:(t==0)=false:=beq_eq_false_iff_ne.2 ht0
        by_cases hrt:r<t
        ·have E:=zM (decide (0<r/\(t=0\/r<t))=true) (zAI ⟨hr0,.inr hrt⟩)
         clear ht0
         exact zDq
        ·have E:=zM (decide (0<r/\(t=0\/r<t))=false) (zAH λe=>e.2.elim ht0 hrt)
         clear ht0
         exact zDq
      ·have E:=zM (decide (0<r/\(t=0\/r<t))=false) (zAH λe=>hr0 e.1)
       exact zDq
     case rest=>
     obtain ⟨rfl,rfl⟩:=hcut
     have hdt:xU per l=if 0<r/\(t=0\/r<t) then r else t:=by unfold xU;rw [HRR.o,HTT.o,HFL.o]
     have HDT:=zL hdt
     clear hdt
     go_upto_if 92 with fail
     go_cut [] from 26 to 127 (λwx=>DM w w.heap.size g3 g7 g8 g9 per (xU per l) st fl A7 c7 A8 c8 wx)
     case first=>as_aux_lemma=>
      have f9:=HM.o.b9.frozen 0
      by_cases hc:0<r/\(t=0\/r<t)
      ·have E:=zM (xU per l=r) (by rw [HDT.o,zp hc])
       have hm3:=HM.o.anX r
       rw [zAI hc]
       exact zFH
      ·have E:=zM (xU per l=t) (by rw [HDT.o,z6 hc])
       have hm3:=HM.o
       rw [zAH hc]
       exact zFH
     case rest=>
     rename World=>W2
     have H2:=zL hcut
     clear HM x9 hcut HTT HDT
     obtain ⟨T,hT⟩:∃T,T=xU per l:=⟨_,rfl⟩
     rw [<-hT] at H2
     have HT:=zL hT
     have x9:W2.cell? ⟨g9,0,none⟩=some (.int .i64 T):=H2.o.b9.cell 0
     clear hT
     by_cases hT0:T=0
     ·have He:=zM (yf l per=(4,-1)) (by unfold yf;rw [z6 (by rw [HK.o];omega),zp (by rw [<-HT.o];exact hT0)])
      have Hv:=zM (wS l per=0) (by unfold wS;rw [He.o];rfl)
      have g4:W2.cell? ⟨G 4,0,none⟩=some (sv S 4):=((hN.o.below (H2.o.bel.mono hB)) 4 zA1).2.2
      simp only [G,sv] at g4
      subst hT0
      clear hS
      go_wp2_with fail
      go_quiet (fail)
      rename Nat=>nq
      go_wp2_with fail
      go_ret2
      rw [He.o,Hv.o]
      exact ⟨_,rfl,.bare 4 zO zO,below_drewN H2.o.bel nq⟩
     ·have hb0:(T==0)=false:=beq_eq_false_iff_ne.2 hT0
      have He:=zM (yf l per=(0,-1)) (by unfold yf;rw [z6 (by rw [HK.o];omega),z6 (by rw [<-HT.o];exact hT0)])
      have Hv:=zM (wS l per=abK per l) (by unfold wS;rw [He.o];rfl)
      go_upto_if 98 with fail
      go_cut [10] from 26 to 127 (λs10 wx=>s10=.int .i64 (xM l)/\wx=W2)
      case first=>as_aux_lemma=>
       by_cases hr0:r=0
       ·have E:=zM (xM l=35184372088832) (by unfold xM;rw [zp (by rw [<-HRR.o];exact hr0)])
        subst hr0
        exact zDq
       ·have hbr:(r==0)=false:=beq_eq_false_iff_ne.2 hr0
        have E:=zM (xM l=r) (by unfold xM;rw [z6 (by rw [<-HRR.o];exact hr0),HRR.o])
        clear hr0
        exact zDq
      case rest=>
      obtain ⟨rfl,hwc⟩:=hcut
      obtain rfl:W2=wc:=hwc.symm
      clear hwc
      have s1:0<=xU per l:=(uB HOK.o).1
      have s4:xU per l<=xM l:=(uB HOK.o).2.2.2.1
      have hTp:0<xU per l:=by rw [<-HT.o] at s1 ⊢;omega
      have hRt:=apT HOK.o
      have hmono:=az7 p0 HOK.o hTp
      obtain ⟨⟨pk1,_⟩,_⟩:=ac3 p0 HOK.o hTp
      rw [<-HT.o] at s1 s4 hTp hmono pk1
      obtain ⟨R,hR⟩:∃R,R=xM l:=⟨_,rfl⟩
      rw [<-hR] at s4 hRt hmono pk1 ⊢
      obtain ⟨n,hn⟩:∃n,n=dN per l:=⟨_,rfl⟩
      rw [<-hn] at pk1
      have HR:=zL hR
      have HNN:=zL hn
      have hNn:(((R - T).toNat:Nat):Int)=R - T:=zO
      have hk7:∀x∈st,yL x/\0<x.r:=λx hx=>by rw [HST.o] at hx;exact ⟨HOK.o x (acD.1 hx).1,aeU p0 hx HOK.o⟩
      have hk8:∀x∈fl,yL x/\0<x.r:=λx hx=>by rw [HFL.o] at hx;exact ⟨HOK.o x (yZ.1 hx).1,(yZ.1 hx).2.1⟩
      have HK7:=zL hk7
      have HK8:=zL hk8
      have hdP:∀i:Nat,dP per l i=decide (xB fl per (T+i)<=xB st per (T+i)):=λi=>by unfold dP;rw [<-HT.o,<-HST.o,<-HFL.o]
      have eg:∀args w,(callFunc 51 args).run Tryz.prog w=.ok (.enter 51 args) w:=enters_of Tryz.func51 zAx rfl
      have hSe:=Any.sort_Search Tryz.search 51 #[.pointer (some ⟨g7,0,none⟩),.pointer (some ⟨g3,0,none⟩),.pointer (some ⟨g9,0,none⟩),.pointer (some ⟨g8,0,none⟩)] (R - T).toNat (dP per l) W2 eg zO
       (λm os i hi=>by
        have hb:=H2.o.box.below ((show wW W2 (Go.Sort.grow (W2.drewN m) os) from ⟨m,os,rfl⟩).below (zD _))
        rw [hdP]
        exact axF g7 g3 g9 g8 A7 c7 st per T A8 c8 fl i _ hb zO zO hk7 hk8 p0 p1 zO zO)
       (λa b hab hb h=>hmono a b hab hb h)
      change Calls Tryz.prog 50 _ _ _ at hSe
      rw [hNn,show (List.range (R - T).toNat).countP (λi=> !dP per l i)=n by rw [hn,hR,HT.o];rfl] at hSe
      have HSE:=zL hSe
      clear hSe eg hdP hk7 hk8 hn hR hmono hT0 hb0 hNn
      go_wp2_with fail
      refine HSE.o.mono ?_
      rintro e W3 ⟨rfl,hg3⟩
      have G3:wW W2 W3:=hg3
      have H3:=zL (H2.o.aaB (G3.below (zD _)))
      have y9:W3.cell? ⟨g9,0,none⟩=some (.int .i64 T):=H3.o.b9.cell 0
      have y7:W3.cell? ⟨g7,0,none⟩=some (.slice A7 st.length c7):=H3.o.b7.cell 0
      have y8:W3.cell? ⟨g8,0,none⟩=some (.slice A8 fl.length c8):=H3.o.b8.cell 0
      have y3:W3.cell? ⟨g3,0,none⟩=some (.int .i64 per):=H3.o.b3.cell 0
      clear HSE hg3 G3 x9
      go_upto_region 30 with fail
      obtain ⟨y,hy⟩:∃y,y=T+n:=⟨_,rfl⟩
      rw [<-hy]
      obtain ⟨cat,hcat⟩:∃cat,cat=st++fl:=⟨_,rfl⟩
      have hlen:cat.length<=200:=by rw [hcat,zAP];omega
      have hkk:∀x∈cat,yL x/\0<x.r:=λx hx=>by rw [hcat] at hx;exact (zAQ.1 hx).elim (HK7.o x) (HK8.o x)
      have HCAT:=zL hcat
      have hall:∀z,xB cat per z=afD per l z:=λz=>by unfold afD;rw [hcat,HST.o,HFL.o]
      have HALL:=zL hall
      clear hcat hall
      have HKK:=zL hkk
      have HLEN:=zL hlen
      have KP:=zM (∀W,Below W3.heap.size W3 W->W.cell? ⟨g7,0,none⟩=some (.slice A7 st.length c7)/\W.cell? ⟨g8,0,none⟩=some (.slice A8 fl.length c8)/\W.cell? ⟨g3,0,none⟩=some (.int .i64 per)) (λW hb=>⟨(H3.o.aaB hb).b7.cell 0,(H3.o.aaB hb).b8.cell 0,(H3.o.aaB hb).b3.cell 0⟩)
      clear hkk hlen
      have yb0:0<=y:=zO
      have yb1:y<=35184372088832:=zO
      have HY:=zL hy
      clear hy
      have CC:=zL (show ∀W,Below W3.heap.size W3 W->Calls Tryz.prog 53 #[.slice (some ⟨W.heap.size,0,none⟩) 2 2] (W.alloc (.cells #[.slice A7 st.length c7,.slice A8 fl.length c8] 57)).drew (vI Ln.cs 2 75 cat (W.alloc (.cells #[.slice A7 st.length c7,.slice A8 fl.length c8] 57)).drew) from λW hb=>by
       have hm:=H3.o.aaB hb
       have r7:=hm.box.r7
       have r8:=hm.box.r8
       have ba:Below W.heap.size W (W.alloc (.cells #[.slice A7 st.length c7,.slice A8 fl.length c8] 57)).drew:=((zAA _ _).alloc (zD _) _).drew
       have bb:Blk (W.alloc (.cells #[.slice A7 st.length c7,.slice A8 fl.length c8] 57)).drew W.heap.size 57 #[.slice A7 st.length c7,.slice A8 fl.length c8]:=Blk.new W _ _
       rw [HCAT.o]
       exact apU A7 A8 c7 c8 W.heap.size st fl _ bb.lt (bb.cell 0) (bb.cell 1) ((r7.below ba).more ba.size) ((r8.below ba).more ba.size) zO zO)
      have KC:=zL (show ∀W,Below W3.heap.size W3 W->∀w6,Below (W.alloc (.cells #[.slice A7 st.length c7,.slice A8 fl.length c8] 57)).drew.heap.size (W.alloc (.cells #[.slice A7 st.length c7,.slice A8 fl.length c8] 57)).drew w6->Below W3.heap.size W3 w6 from λW hb w6 h6=>by
       have hz:=hb.size
       exact ((hb.alloc hz (.cells #[.slice A7 st.length c7,.slice A8 fl.length c8] 57)).drew).trans (h6.mono zA7))
      have b3:Below W3.heap.size W3 W3:=zAA _ _
      go_region_held3 (λw'=>w'.cell? ⟨g7,0,none⟩=some (.slice A7 st.length c7)/\w'.cell? ⟨g8,0,none⟩=some (.slice A8 fl.length c8)/\w'.cell? ⟨g3,0,none⟩=some (.int .i64 per))
       (first |go_keep|exact KP.o _ k36|exact KP.o _ k37)
       (first
        |(go_at_call 53;refine (CC.o W3 b3).mono ?_;rintro e w6 ⟨A6,c6,rfl,o6,k6⟩;have k36:=KC.o W3 b3 w6 k6)
        |(go_at_call 52;refine (adV A6 c6 cat per y w6 w6.heap.size (zD _) (RdL.qA o6) (by have:=HLEN.o;omega) HKK.o p0 p1 yb0 yb1).mono ?_;rintro e w7 ⟨rfl,k67⟩;have k37:=k36.trans ((k67.below (zD _)).mono k36.size)))
      have H7:=zL (H3.o.aaB k37)
      have z9:w7.cell? ⟨g9,0,none⟩=some (.int .i64 T):=H7.o.b9.cell 0
      have z7:w7.cell? ⟨g7,0,none⟩=some (.slice A7 st.length c7):=H7.o.b7.cell 0
      have z8:w7.cell? ⟨g8,0,none⟩=some (.slice A8 fl.length c8):=H7.o.b8.cell 0
      have z3:w7.cell? ⟨g3,0,none⟩=some (.int .i64 per):=H7.o.b3.cell 0
      clear o6 k6 k67 k36 y7 y8 y3 y9
      rename w7.cell? ⟨g7,0,none⟩=some (.slice A7 st.length c7)/\w7.cell? ⟨g8,0,none⟩=some (.slice A8 fl.length c8)/\w7.cell? ⟨g3,0,none⟩=some (.int .i64 per)=>hs8
      clear hs8
      by_cases hn0:0<n
      ·have hTy:T<y:=by have:=HY.o;omega
       have HW:=zM (IntKind.i64.wrap (y - 1)=y - 1) zBE
       have MS:=zL (show ∀(A8:Option Addr) (c8:Nat) (w8:World),RdL w8 w8.heap.size A8 cat->Calls Tryz.prog 52 #[.slice A8 cat.length c8,.int .i64 per,.int .i64 (IntKind.i64.wrap (y - 1))] w8 λe w'=>e=.returned (.int .i64 (xB cat per (y - 1)))/\wW w8 w' from λA8 c8 w8 hr=>by
        rw [HW.o]
        exact adV A8 c8 cat per (y - 1) w8 w8.heap.size (zD _) hr (by have:=HLEN.o;omega) HKK.o p0 p1 zO zO)
       have E:=zL (show abK per l=max (xB cat per y) (xB cat per (y - 1)) by
        unfold abK
        rw [<-HNN.o,<-HT.o,zp hn0,<-HALL.o,<-HALL.o,HY.o])
       clear hn0
       go_upto_region 32 with fail
       go_region_held3 (λw'=>w'.cell? ⟨g7,0,none⟩=some (.slice A7 st.length c7)/\w'.cell? ⟨g8,0,none⟩=some (.slice A8 fl.length c8)/\w'.cell? ⟨g3,0,none⟩=some (.int .i64 per))
        (first |go_keep|exact KP.o _ k38|exact KP.o _ k39)
        (first
         |(go_at_call 53;refine (CC.o w7 k37).mono ?_;rintro e w8 ⟨A10,c10,rfl,o8,k8⟩;have k38:=KC.o w7 k37 w8 k8)
         |(go_at_call 52;refine (MS.o A10 c10 w8 (RdL.qA o8)).mono ?_;rintro e w9 ⟨rfl,k89⟩;have k39:=k38.trans ((k89.below (zD _)).mono k38.size)))
       all_goals
        have hb9:=H3.o.bel.trans (k39.mono H3.o.zP)
        go_wp2_with fail
        go_ret2
        rw [He.o,Hv.o,E.o]
        exact ⟨_,rfl,.nil,hb9⟩
      ·have hTy:¬T<y:=by have:=HY.o;omega
       have E:=zL (show abK per l=xB cat per y by
        unfold abK
        rw [<-HNN.o,<-HT.o,z6 hn0,<-HALL.o,HY.o])
       clear hn0
       go_wp2_with fail
       go_ret2
       rw [He.o,Hv.o,E.o]
       exact ⟨_,rfl,.nil,H7.o.bel⟩
theorem afB (A:Option Addr) (c:Nat) (l:List Ln) (per:Int) (S:Nat->Addr) (w:World) (B:Nat) (hB:B<=w.heap.size) (h:RdL w B A l) (hS:Snt w B S [2,3,4]) (hl:l.length<=9223372036854775807):
 Calls Tryz.prog 32 #[.slice A l.length c,.int .i64 per] w (adA (.int .i64 (wS l per)) S (yf l per).1 (yf l per).2 w):=by
 by_cases hk:(xS l per).1=0
 ·exact apR A c l per S w B hB h hS hl hk
 ·have He:=zM (yf l per=xS l per) (zp hk)
  have Hv:=zM (wS l per=0) (by unfold wS;rw [He.o,z6 hk])
  have HK:=zL hk
  clear hk
  go_enter Tryz.func32,Tryz.ntmps32
  exact zDz
def yT (l:List Ln) (per:Int):Nat × Int:=if (xS l per).1≠0 then xS l per else if bzV per l=0\/1099511627776<bzV per l then (4,-1) else (0,-1)
def uD (l:List Ln) (per:Int):Int:=if (yT l per).1=0 then bzV per l else 0
theorem axY (gx g3:Nat) (x:Ln) (per:Int) (k:Nat) (w:World) (x0:w.cell? ⟨gx,0,none⟩=some (.int .i64 x.b)) (x1:w.cell? ⟨gx,1,none⟩=some (.int .i64 x.r)) (x3:w.cell? ⟨g3,0,none⟩=some (.int .i64 per)) (hok:yL x) (p0:1<=per) (p1:per<=1000) (hr:x.r*per<1000) (hk:k<68719476736):
 Calls Tryz.prog 54 #[.int .i64 (k:Int),.pointer (some ⟨gx,0,none⟩),.pointer (some ⟨g3,0,none⟩)] w λe w'=>e=.returned (.bool (bzP per x k))/\w'=w:=by
 obtain ⟨r1,r2,r3,r4⟩:=hok
 have m0:0<=per*(x.b+k):=zAY zO zO
 have m1:per*(x.b+k)<=1000*68719496736:=Int.mul_le_mul p1 zO zO zO
 have n0:0<=x.r*(per*(x.b+k)):=zAY r3 m0
 have n1:x.r*(per*(x.b+k))<=1000*68719496736:=by
  rw [<-Int.mul_assoc]
  exact Int.mul_le_mul zO zO zO zO
 have HB:=zM (bzP per x k=decide (x.r*(per*(x.b+k)) / 1000<=k)) rfl
 go_enter Tryz.func54,Tryz.ntmps54
 go_wp2_with fail
 go_ret
 exact ⟨by rw [HB.o];rfl,rfl⟩
set_option maxHeartbeats 4000000 in
theorem apZ (A:Option Addr) (c:Nat) (l:List Ln) (per:Int) (S:Nat->Addr) (w:World) (B:Nat) (hB:B<=w.heap.size) (h:RdL w B A l) (hS:Snt w B S [2,3,4]) (hl:l.length<=9223372036854775807) (hk:(xS l per).1=0):
 Calls Tryz.prog 33 #[.slice A l.length c,.int .i64 per] w (adA (.int .i64 (uD l per)) S (yT l per).1 (yT l per).2 w):=by
 obtain ⟨hc,p0,p1,hke⟩:=acI hk
 obtain ⟨l1,l6,hok,_⟩:=crvErr_ok hc
 have HK:=zL hk
 have HOK:=zL hok
 have HS:=zL hS
 clear hk hc hke hok
 go_enter Tryz.func33,Tryz.ntmps33
 go_wp2_with fail
 refine (acJ A c l per S (w.alloc (.cells #[.int .i64 per] 3)) B zA7 (h.below ((zAA _ _).alloc hB _)) ((HS.o.below ((zAA _ _).alloc hB _)).sub zA1) hl).mono ?_
 rintro e wl ⟨v,rfl,hv,kl⟩
 obtain rfl:=hv.qK HK.o
 have bl:Blk wl w.heap.size 3 #[.int .i64 per]:=(Blk.new w _ _).below kl zA1
 have kl':Below w.heap.size w wl:=((zAA _ _).alloc (zD _) _).trans (kl.mono zA1)
 obtain ⟨g3,hg3⟩:∃g3,g3=w.heap.size:=⟨_,rfl⟩
 rw [<-hg3] at bl ⊢
 have BL:=zL bl
 have KL:=zL kl'
 clear bl kl kl' hv hg3
 go_wp2_with fail
 go_loopw [7,20] (λtv iv wr=>∃(k:Nat) (t:Int),k<=l.length/\iv=.int .i64 k/\tv=.int .i64 t/\0<=t/\t<=20000000000/\bzV per l=bzF per t (l.drop k)/\Blk wr g3 3 #[.int .i64 per]/\Below w.heap.size w wr) (λ_ iv _=>l.length - (intOf iv).toNat)
 case atStart=>exact ⟨0,0,zAK _,rfl,rfl,by omega,by omega,rfl,BL.o,KL.o⟩
 case round=>
  obtain ⟨k,t,hk,rfl,rfl,t0,t1,hbz,b3,hbw⟩:=hrel
  have B3:=zL b3
  have HBZ:=zL hbz
  clear BL KL b3 hbz
  by_cases hlt:k<l.length
  ·as_aux_lemma=>
   have hokk:=HOK.o _ (zd hlt)
   have OKK:=zL hokk
   obtain ⟨r1,r2,r3,r4⟩:=hokk
   have m0:0<=l[k].r*per:=zAY r3 zO
   have m1:l[k].r*per<=100000*1000:=Int.mul_le_mul r4 p1 zO zO
   obtain ⟨b,o,rfl,hb,d0,d1⟩:=RdL.get (h.below (hbw.mono hB)) hlt
   have hd:l.drop k=l[k]::l.drop (k+1):=zAE hlt
   have HD:=zL hd
   clear hd
   go_upto_region 8 with fail
   obtain ⟨V,hV⟩:∃V:World,V=wr.alloc (.cells #[.int .i64 l[k].b,.int .i64 l[k].r] 75):=⟨_,rfl⟩
   have bx:Blk V wr.heap.size 75 #[.int .i64 l[k].b,.int .i64 l[k].r]:=zBV
   have b3V:Blk V g3 3 #[.int .i64 per]:=by rw [hV];exact B3.o.alloc _
   have kV:Below w.heap.size w V:=by rw [hV];exact hbw.alloc hbw.size _
   obtain ⟨gx,hgx⟩:∃gx,gx=wr.heap.size:=⟨_,rfl⟩
   rw [<-hV,<-hgx]
   rw [<-hgx] at bx
   have x0:V.cell? ⟨gx,0,none⟩=some (.int .i64 l[k].b):=bx.cell 0
   have x1:V.cell? ⟨gx,1,none⟩=some (.int .i64 l[k].r):=bx.cell 1
   have x3:V.cell? ⟨g3,0,none⟩=some (.int .i64 per):=b3V.cell 0
   have BX:=zL bx
   have B3V:=zL b3V
   clear hV hgx bx b3V d0 d1
   by_cases hs:1000<=l[k].r*per
   ·have E:=zM (bzV per l=bzF per t (l.drop (k+1))) (by rw [HBZ.o,HD.o,bzF,zp hs])
    go_wp2_with fail
    go_roundw
    case rel=>exact ⟨k+1,t,hlt,by go_num,rfl,t0,t1,E.o,B3V.o,kV⟩
    case measure=>simp [intOf];omega
   ·have hs1:l[k].r*per<1000:=by omega
    have E:=zM (bzV per l=bzF per (if t=0\/bzT per l[k]<t then bzT per l[k] else t) (l.drop (k+1))) (by rw [HBZ.o,HD.o,bzF,z6 hs])
    obtain ⟨_,q2,q3⟩:=am4 p0 OKK.o hs1
    have qb:=a0D p0 p1 OKK.o hs1
    have qp:=(arE p0 OKK.o).2
    obtain ⟨n,hn⟩:∃n,n=bzK per l[k]:=⟨bzK per l[k],rfl⟩
    have hT:bzT per l[k]=per*(l[k].b+n):=by unfold bzT;rw [hn]
    rw [<-hn] at q3
    rw [hT] at qb qp
    have HT:=zL hT
    have mT0:0<=per*(l[k].b+n):=zO
    have eg:∀args w,(callFunc 54 args).run Tryz.prog w=.ok (.enter 54 args) w:=enters_of Tryz.func54 zAx rfl
    obtain ⟨M,hM⟩:∃M:Nat,M=68719476736:=⟨_,rfl⟩
    have hMi:(M:Int)=68719476736:=zO
    have hSe:=Any.sort_Search Tryz.search 54 #[.pointer (some ⟨gx,0,none⟩),.pointer (some ⟨g3,0,none⟩)] M (bzP per l[k]) V eg zO
     (λm os i hi=>by
      have hg:wW V (Go.Sort.grow (V.drewN m) os):=⟨m,os,rfl⟩
      have hb:=hg.below (zD _)
      refine (axY gx g3 l[k] per i _ ((BX.o.below hb BX.o.lt).cell 0) ((BX.o.below hb BX.o.lt).cell 1) ((B3V.o.below hb B3V.o.lt).cell 0) OKK.o p0 p1 hs1 zO).mono ?_
      rintro e w' ⟨rfl,rfl⟩
      exact ⟨rfl,0,#[],by rw [Go.Sort.grow_empty];rfl⟩)
     (λa b hab hb hp=>by
      obtain ⟨d,rfl⟩:∃d,b=a+d:=⟨b - a,by omega⟩
      clear hab hb
      induction d with
      |zero=>exact hp
      |succ d ih=>exact am3 hs1 _ ih)
    change Calls Tryz.prog 50 _ _ _ at hSe
    have hcn:(List.range M).countP (λi=> !bzP per l[k] i)=n:=by rw [hn,hM];unfold bzK;rfl
    rw [hMi,hcn] at hSe
    have HSE:=zL hSe
    clear hSe eg hn hT hs q2 hcn hMi hM
    go_wp2_with fail
    refine HSE.o.mono ?_
    rintro e W3 ⟨rfl,hg3⟩
    have kg:=(show wW V W3 from hg3).below (zD _)
    have k3:Below w.heap.size w W3:=kV.trans (kg.mono kV.size)
    have b33:=B3V.o.below kg B3V.o.lt
    have y0:W3.cell? ⟨gx,0,none⟩=some (.int .i64 l[k].b):=(BX.o.below kg BX.o.lt).cell 0
    have y3:W3.cell? ⟨g3,0,none⟩=some (.int .i64 per):=b33.cell 0
    have B33:=zL b33
    clear hg3 kg HSE x0 x1 x3 b33
    by_cases ht0:t=0
    ·subst ht0
     have E2:=zM ((if (0:Int)=0\/bzT per l[k]<0 then bzT per l[k] else 0)=per*(l[k].b+n)) (by rw [zp (.inl rfl),HT.o])
     exact zEc
    ·have hb0:(t==0)=false:=beq_eq_false_iff_ne.2 ht0
     by_cases hbt:per*(l[k].b+n)<t
     ·have E2:=zM ((if t=0\/bzT per l[k]<t then bzT per l[k] else t)=per*(l[k].b+n)) (by rw [HT.o,zp (.inr hbt)])
      clear ht0
      exact zEc
     ·have E2:=zM ((if t=0\/bzT per l[k]<t then bzT per l[k] else t)=t) (by rw [HT.o,z6 (λe=>e.elim ht0 hbt)])
      clear ht0
      go_wp2_with fail
      go_roundw
      case rel=>exact ⟨k+1,t,hlt,by go_num,rfl,t0,t1,by rw [E.o,E2.o],B33.o,k3⟩
      case measure=>simp [intOf];omega
  ·have E:=zM (bzV per l=t) (by rw [HBZ.o,zAO zO];rfl)
   have g4:wr.cell? ⟨G 4,0,none⟩=some (sv S 4):=((HS.o.below (hbw.mono hB)) 4 zA1).2.2
   simp only [G,sv] at g4
   clear HBZ
   by_cases ht0:t=0
   ·have He:=zM (yT l per=(4,-1)) (by unfold yT;rw [z6 (by rw [HK.o];omega),zp (.inl (by rw [E.o];exact ht0))])
    have Hv:=zM (uD l per=0) (by unfold uD;rw [He.o];rfl)
    subst ht0
    clear hS
    go_wp2_with fail
    go_quiet (fail)
    rename Nat=>nq
    go_wp2_with fail
    go_ret2
    rw [He.o,Hv.o]
    exact ⟨_,rfl,.bare 4 zO zO,below_drewN hbw nq⟩
   ·have hb0:(t==0)=false:=beq_eq_false_iff_ne.2 ht0
    by_cases hbt:1099511627776<t
    ·omega
    ·have He:=zM (yT l per=(0,-1)) (by unfold yT;rw [z6 (by rw [HK.o];omega),z6 (by rw [E.o];omega)])
     have Hv:=zM (uD l per=t) (by unfold uD;rw [He.o,<-E.o];rfl)
     clear ht0
     go_wp2_with fail
     go_ret2
     rw [He.o,Hv.o]
     exact ⟨_,rfl,.nil,hbw⟩
theorem afH (A:Option Addr) (c:Nat) (l:List Ln) (per:Int) (S:Nat->Addr) (w:World) (B:Nat) (hB:B<=w.heap.size) (h:RdL w B A l) (hS:Snt w B S [2,3,4]) (hl:l.length<=9223372036854775807):
 Calls Tryz.prog 33 #[.slice A l.length c,.int .i64 per] w (adA (.int .i64 (uD l per)) S (yT l per).1 (yT l per).2 w):=by
 by_cases hk:(xS l per).1=0
 ·exact apZ A c l per S w B hB h hS hl hk
 ·have He:=zM (yT l per=xS l per) (zp hk)
  have Hv:=zM (uD l per=0) (by unfold uD;rw [He.o,z6 hk])
  have HK:=zL hk
  clear hk
  go_enter Tryz.func33,Tryz.ntmps33
  exact zDz
theorem axI {l:List Ln} {per:Int} (h:(yf l per).1=0):(qh l).1=0/\1<=per/\per<=1000/\0<xU per l/\wS l per=abK per l/\yf l per=(0,-1):=by
 have h2:=h
 unfold yf at h
 by_cases hk:(xS l per).1≠0
 ·rw [zp hk] at h;exact zAv h hk
 ·rw [z6 hk] at h
  obtain ⟨hc,p0,p1,_⟩:=acI (show (xS l per).1=0 by omega)
  obtain ⟨l1,l6,hok,_⟩:=crvErr_ok hc
  by_cases hd:xU per l=0
  ·rw [zp hd] at h;simp at h
  ·have:=(uB (per:=per) hok).1
   exact ⟨hc,p0,p1,by omega,zp h2,by unfold yf;rw [z6 hk,z6 hd]⟩
theorem a0E {l:List Ln} {per:Int} (hk:(xS l per).1=0) (h:(yT l per).1=0):0<bzV per l/\bzV per l<=1099511627776/\uD l per=bzV per l:=by
 have h2:=h
 obtain ⟨hc,p0,p1,_⟩:=acI hk
 obtain ⟨l1,l6,hok,_⟩:=crvErr_ok hc
 unfold yT at h
 rw [z6 zO] at h
 by_cases hb:bzV per l=0\/1099511627776<bzV per l
 ·rw [zp hb] at h;simp at h
 ·have:=(axZ (per:=per) p0 hok).1
  exact ⟨by omega,by omega,zp h2⟩
def aaA (a b:Int):Int:=if a<b then -1 else if b<a then 1 else 0
theorem jX (a:Int) (w:World):Calls Tryz.prog 152 #[.int .i64 a] w λe w'=>e=.returned (.bool false)/\w'=w:=by
 have h1:(a !=a)=false:=zA1
 go_enter Tryz.func152,Tryz.ntmps152
 go_wp2_with fail
 go_ret
 exact ⟨by first |rfl|simp,rfl⟩
theorem ak4 (a b:Int) (w:World):Calls Tryz.prog 128 #[.int .i64 a,.int .i64 b] w λe w'=>e=.returned (.int .i64 (aaA a b))/\w'=w:=by
 by_cases h1:a<b
 ·have E:=zM (aaA a b=-1) (zp h1)
  exact zDg
 ·by_cases h2:b<a
  ·have E:=zM (aaA a b=1) ((z6 h1).trans (zp h2))
   exact zDg
  ·have E:=zM (aaA a b=0) ((z6 h1).trans (z6 h2))
   exact zDg
def orI (m n:Int):Int:=if m=0 then n else m
theorem azB (g:Nat) (m n:Int) (w:World) (h0:w.cell? ⟨g,0,none⟩=some (.int .i64 m)) (h1:w.cell? ⟨g,1,none⟩=some (.int .i64 n)):
 Calls Tryz.prog 158 #[.slice (some ⟨g,0,none⟩) 2 2] w λe w'=>e=.returned (.int .i64 (orI m n))/\w'=w:=by
 go_enter Tryz.func158,Tryz.ntmps158
 go_wp2_with fail
 go_loopw [8] (λiv wr=>∃k:Nat,k<=2/\iv=.int .i64 k/\(1<=k->m=0)/\(2<=k->n=0)/\wr=w) (λiv _=>2 - (intOf iv).toNat)
 case atStart=>exact ⟨0,by omega,rfl,λh=>by omega,λh=>by omega,rfl⟩
 case round=>
  obtain ⟨k,hk,rfl,hm,hn,hwr⟩:=hrel
  obtain rfl:w=wr:=hwr.symm
  have HM:=zL hm
  have HN:=zL hn
  clear hwr hm hn
  match k,hk with
  |0,_=>
   by_cases hm0:m=0
   ·have E:=zL hm0
    subst hm0
    go_wp2_with fail
    go_roundw
    case rel=>exact ⟨1,by omega,rfl,by first |exact λ_=>rfl|simp,λh=>zO,by first |rfl|trivial⟩
    case measure=>simp [intOf]
   ·have hb:(m !=0)=true:=by simp [hm0]
    have E:=zM (orI m n=m) (z6 hm0)
    clear hm0
    exact zE6
  |1,_=>
   by_cases hn0:n=0
   ·subst hn0
    go_wp2_with fail
    go_roundw
    case rel=>exact ⟨2,by omega,rfl,λ_=>HM.o zO,by first |exact λ_=>rfl|simp,by first |rfl|trivial⟩
    case measure=>simp [intOf]
   ·have hb:(n !=0)=true:=by simp [hn0]
    have E:=zM (orI m n=n) (zp (HM.o zO))
    clear hn0
    exact zE6
  |2,_=>
   have E:=zM (orI m n=0) (by unfold orI;rw [zp (HM.o zO),HN.o zO])
   exact zE6
def cmpL (x y:Ln):Int:=orI (aaA x.b y.b) (aaA x.r y.r)
theorem arA (x y:Ln):cmpL x y<0 ↔ x.b<y.b\/(x.b=y.b/\x.r<y.r):=by
 unfold cmpL orI aaA
 split<;>split<;>omega
set_option maxHeartbeats 2000000 in
theorem au8 (x y:Ln) (w:World):
 Calls Tryz.prog 157 #[.agg #[.int .i64 x.b,.int .i64 x.r],.agg #[.int .i64 y.b,.int .i64 y.r]] w λe w'=>e=.returned (.int .i64 (cmpL x y))/\wW w w':=by
 go_enter Tryz.func157,Tryz.ntmps157
 go_upto_region 1 with fail
 obtain ⟨V,hV⟩:∃V:World,V=(w.alloc (.cells #[.int .i64 x.b,.int .i64 x.r] 75)).alloc (.cells #[.int .i64 y.b,.int .i64 y.r] 75):=⟨_,rfl⟩
 have gV:wW w V:=by rw [hV];exact (wW.alloc _ _).trans (wW.alloc _ _)
 have bx:Blk V w.heap.size 75 #[.int .i64 x.b,.int .i64 x.r]:=by rw [hV];exact (Blk.new _ _ _).alloc _
 have by_:Blk V (w.heap.size+1) 75 #[.int .i64 y.b,.int .i64 y.r]:=by
  have:=Blk.new (w.alloc (.cells #[.int .i64 x.b,.int .i64 x.r] 75)) 75 #[.int .i64 y.b,.int .i64 y.r]
  rw [show (w.alloc (.cells #[.int .i64 x.b,.int .i64 x.r] 75)).heap.size=w.heap.size+1 by simp] at this
  rw [hV]
  exact this
 obtain ⟨gx,hgx⟩:∃gx,gx=w.heap.size:=⟨_,rfl⟩
 rw [<-hV,<-hgx]
 rw [<-hgx] at bx by_
 have x0:V.cell? ⟨gx,0,none⟩=some (.int .i64 x.b):=bx.cell 0
 have x1:V.cell? ⟨gx,1,none⟩=some (.int .i64 x.r):=bx.cell 1
 have y0:V.cell? ⟨gx+1,0,none⟩=some (.int .i64 y.b):=by_.cell 0
 have y1:V.cell? ⟨gx+1,1,none⟩=some (.int .i64 y.r):=by_.cell 1
 have bo:Blk (V.alloc (.cells #[.int .i64 (aaA x.b y.b),.int .i64 (aaA x.r y.r)] 3)).drew V.heap.size 3 #[.int .i64 (aaA x.b y.b),.int .i64 (aaA x.r y.r)]:=Blk.new V _ _
 have OC:=zL (azB V.heap.size (aaA x.b y.b) (aaA x.r y.r) (V.alloc (.cells #[.int .i64 (aaA x.b y.b),.int .i64 (aaA x.r y.r)] 3)).drew (bo.cell 0) (bo.cell 1))
 clear hV hgx bx by_ bo
 go_region_held3 (λw'=>w'.cell? ⟨gx,0,none⟩=some (.int .i64 x.b)/\w'.cell? ⟨gx,1,none⟩=some (.int .i64 x.r)/\w'.cell? ⟨gx+1,0,none⟩=some (.int .i64 y.b)/\w'.cell? ⟨gx+1,1,none⟩=some (.int .i64 y.r))
  (first |go_keep)
  (first
   |(go_at_call 128;refine (ak4 _ _ _).mono ?_;rintro e w6 ⟨rfl,rfl⟩)
   |(go_at_call 158;refine OC.o.mono ?_;rintro e w7 ⟨rfl,rfl⟩))
 all_goals
  go_wp2_with fail
  go_ret
  exact ⟨rfl,gV.trans ((wW.alloc _ _).trans (wW.drewN _ 1))⟩
instance:Inhabited Ln:=⟨⟨0,0⟩⟩
set_option maxHeartbeats 400000 in
theorem am1 (A:Option Addr) (c:Nat) (l:List Ln) (w:World) (B:Nat) (hB:B<=w.heap.size) (h:RdL w B A l) (hl:l.length<=4294967296):
 Calls Tryz.prog 155 #[.slice A l.length c] w (vI Ln.cs 2 75 l w):=by
 obtain ⟨i0,hi0,hz0,hz1,hz2⟩:=info_parts aaP
 have r1:=@Lib.run_eql_slice_nil Tryz.prog
 cases A with
 |none=>
  obtain rfl:l=[]:=by
   rcases l with _|⟨x,r⟩
   ·rfl
   ·obtain ⟨b,o,h9,_⟩:=h zA1
    cases h9
  go_enter Tryz.func155,Tryz.ntmps155
  go_wp2_with fail
  go_ret
  exact ⟨none,0,rfl,⟨by simp,.inl ⟨rfl,rfl⟩⟩,zAA _ _⟩
 |some ad=>
  have hown:(w.alloc (.cells #[] 75)).ownsRow w.heap.size 75 2 (.slice (some ⟨w.heap.size,0,none⟩) 0 0) 0 []:=World.ownsRow_made w #[] 0 (zD _) (zAK _) rfl
  have kb:Below w.heap.size w (w.alloc (.cells #[] 75)):=(zAA _ _).alloc (zD _) _
  go_enter Tryz.func155,Tryz.ntmps155
  go_wp2_with (at_builtin;refine qd _ Ln.cs rfl (.tmp 5) (.tmp 6) 57 rfl w.heap.size 75 i0 _ 2 16 Tryz.underlying57 hi0 hz0 hz1 hz2 rfl zO Ln.qw Ln.qV (.slice (some ⟨w.heap.size,0,none⟩) 0 0) 0 [] rfl hown B (some ad) c l rfl (h.below (kb.mono hB)) zA3 zO zA1 ?_;intro v1 w1 hown1 hg1 hat1;simp only [Nat.zero_add,zAa] at hown1;obtain ⟨A1,c1,rfl⟩:=yl hown1 zO)
  go_ret
  exact ⟨A1,c1,rfl,hown1,ql kb hown hg1 (zD _) zA1⟩
theorem ajW (l:List Ln) (j:Nat) (hj:j<l.length*2):(Go.Sort.flatK Ln.cs 2 l.toArray)[j]! =(l.flatMap Ln.cs)[j]' zCu:=by
 have h1:=Go.Sort.get_flatK Ln.cs 2 l.toArray j (by simpa using hj)
 rw [h1]
 have h2:=flat_get Ln.cs 2 zO Ln.qw l j
 have hq:j / 2<l.length:=zO
 rw [zAR hq,Option.bind_some] at h2
 have h3:(l.flatMap Ln.cs)[j]?=some ((l.flatMap Ln.cs)[j]' zCu):=zAR _
 rw [h3] at h2
 have h4:l.toArray[j / 2]! =l[j / 2]:=by rw [getElem!_pos l.toArray (j / 2) (by simpa using hq)];simp
 rw [h4,List.getElem!_eq_getElem?_getD,<-h2]
 rfl
theorem azM:Go.Sort.SWO (Go.Proofs.ltOf cmpL):=by
 have key:∀x y:Ln,Go.Proofs.ltOf cmpL x y=decide (x.b<y.b\/(x.b=y.b/\x.r<y.r)):=λx y=>by
  unfold Go.Proofs.ltOf
  exact decide_eq_decide.2 (arA x y)
 refine ⟨λx=>?_,λx y z h1 h2=>?_,λx y z h1 h2=>?_⟩
 ·rw [key];exact zAH zO
 ·rw [key] at*
  have h1:=of_decide_eq_true h1
  have h2:=of_decide_eq_true h2
  exact zAI zO
 ·rw [key] at*
  have h1:=of_decide_eq_false h1
  have h2:=of_decide_eq_false h2
  exact zAH zO
set_option maxHeartbeats 1000000 in
theorem anV (g cap base:Nat) (l:List Ln) (w:World) (h:w.ownsRow base 75 2 (.slice (some ⟨g,0,none⟩) l.length cap) l.length (l.flatMap Ln.cs)) (hl:l.length<=4294967296):
 Calls Tryz.prog 156 #[.slice (some ⟨g,0,none⟩) l.length cap,.func (.func 157) #[] #[]] w λe w'=>e=.returned (.tuple #[])/\∃s:List Ln,s.Perm l/\s.Pairwise aaY/\w'.ownsRow base 75 2 (.slice (some ⟨g,0,none⟩) s.length cap) s.length (s.flatMap Ln.cs)/\Below base w w':=by
 obtain ⟨_,⟨h1,_⟩|⟨g',cap',cur,hv,hg,hh,hn,hc,hs,ht⟩⟩:=h
 ·simp at h1
 ·simp only [zAp,zAC,zAS,and_true,true_and] at hv
  obtain ⟨rfl,rfl⟩:=hv
  have hlt:g<w.heap.size:=lt_of_block hh
  have hcl:l.length*2<=cur.size:=zO
  have hcell:∀j (hj:j<l.length*2),cur[j]?=some ((l.flatMap Ln.cs)[j]' zCu):=λj hj=>by
   have h9:(cur.toList.take (l.length*2))[j]?=(l.flatMap Ln.cs)[j]?:=by rw [ht]
   rw [List.getElem?_take,zp hj] at h9
   rw [zAR (show j<(l.flatMap Ln.cs).length by rw [vE Ln.cs 2 Ln.qw];exact hj)] at h9
   rw [<-h9]
   simp
  have hH:Go.Sort.HoldsK Ln.cs 2 w g 0 l.toArray:=λj hj=>by
   have hj2:j<l.length*2:=by simpa using hj
   rw [Nat.zero_add,ajW l j hj2]
   refine ⟨(uK hh j).trans (hcell j hj2),?_⟩
   simp [World.frozen?,hh]
  have eg:∀args w,(callFunc 157 args).run Tryz.prog w=.ok (.enter 157 args) w:=enters_of Tryz.func157 zAx rfl
  have hcmp:Go.Proofs.CmpLays Tryz.prog 157 #[] Ln.cs 2 cmpL g 0 l.toArray.size w:=λm os dk _ x y=>(au8 x y _).mono λe w' ⟨e1,q,os',e2⟩=>⟨e1,q,os',e2⟩
  have hS:=AnyQ.slices_SortFunc Tryz.a2D 2 Tryz.isAgg75 Tryz.sizeOf75 Ln.cs Ln.qw Ln.qV cmpL azM 157 #[] g 0 cap l.toArray w eg hcmp hH hlt zA7
  change Calls Tryz.prog 156 _ _ _ at hS
  refine hS.mono ?_
  rintro e w' ⟨rfl,d',n,os,hpm,hso,rfl⟩
  refine ⟨rfl,d'.toList,?_,?_,?_,?_⟩
  ·obtain ⟨p1,_,p3⟩:=hpm
   have e1:d'.extract 0 l.toArray.size=d':=by rw [<-p1];simp
   have e2:l.toArray.extract 0 l.toArray.size=l.toArray:=zA1
   rw [e1,e2] at p3
   exact p3
  ·obtain ⟨p1,_,_⟩:=hpm
   rw [List.pairwise_iff_getElem]
   intro i j hi hj hij
   have h9:=hso i j (zAK _) hij (by rw [<-p1];simpa using hj)
   have hi':i<d'.size:=by simpa using hi
   have hj':j<d'.size:=by simpa using hj
   rw [getElem!_pos d' i hi',getElem!_pos d' j hj'] at h9
   unfold Go.Proofs.ltOf at h9
   have h8:=of_decide_eq_false h9
   rw [arA] at h8
   simp only [Array.getElem_toList]
   unfold aaY
   omega
  ·obtain ⟨p1,_,_⟩:=hpm
   have hd:d'.size=l.length:=by simpa using p1
   have hfs:(Go.Sort.flatK Ln.cs 2 d').size=l.length*2:=by simp [hd]
   have hblk:(Go.Proofs.sortWorldK Ln.cs 2 w g 0 n d' os).heap[g]?=some (.cells (Go.Sort.putCells id 0 (Go.Sort.flatK Ln.cs 2 d') cur) 75 (0,0)):=by
    unfold Go.Proofs.sortWorldK
    rw [Go.Sort.heap_grow_old _ _ (by simp [Go.Sort.putRowK,Go.Sort.ahead];exact hlt)]
    unfold Go.Sort.putRowK Go.Sort.putRow Go.Sort.mapBlock Go.Sort.ahead
    simp only [Array.getElem?_modify,if_true]
    rw [hh]
    rfl
   have hlen:d'.toList.length=l.length:=by simpa using hd
   refine ⟨by rw [vE Ln.cs 2 Ln.qw],.inr ⟨g,cap,_,by rw [hlen],hg,hblk,by rw [hlen];exact hn,hc,by unfold Go.Sort.putCells;rw [Array.size_mapIdx];exact hs,?_⟩⟩
   rw [hlen]
   apply List.ext_getElem?
   intro j
   rw [List.getElem?_take]
   by_cases hj:j<l.length*2
   ·rw [zp hj]
    have h5:j<cur.size:=zO
    have h6:(Go.Sort.putCells id 0 (Go.Sort.flatK Ln.cs 2 d') cur)[j]?=some (Go.Sort.flatK Ln.cs 2 d')[j]! :=by
     unfold Go.Sort.putCells
     rw [Array.getElem?_mapIdx,Array.getElem?_eq_getElem h5]
     simp [hfs,hj]
    have h7:=ajW d'.toList j (by rw [hlen];exact hj)
    rw [show d'.toList.toArray=d' from by simp] at h7
    rw [zAR (show j<(d'.toList.flatMap Ln.cs).length by rw [vE Ln.cs 2 Ln.qw,hlen];exact hj),<-h7,<-h6]
    simp
   ·rw [z6 hj,List.getElem?_eq_none (by rw [vE Ln.cs 2 Ln.qw,hlen];omega)]
  ·unfold Go.Proofs.sortWorldK
   have hk:Below base w (Go.Sort.putRowK Ln.cs 2 (Go.Sort.ahead w n) g 0 d'):=by
    refine ⟨rfl,rfl,rfl,by simp [Go.Sort.putRowK,Go.Sort.ahead],λi hi=>?_⟩
    unfold Go.Sort.putRowK Go.Sort.putRow Go.Sort.mapBlock Go.Sort.ahead
    simp only [Array.getElem?_modify]
    rw [z6 zO]
   refine hk.trans ?_
   have:=below_grown_sl base (Go.Sort.putRowK Ln.cs 2 (Go.Sort.ahead w n) g 0 d') 0 os (by simp [Go.Sort.putRowK,Go.Sort.ahead];omega)
   exact this
theorem aaG {a b:Int} (ha:-100000<=a/\a<=100000) (hb:-100000<=b/\b<=100000):-10000000000<=a*b/\a*b<=10000000000:=by
 have h1:=zAY (show 0<=100000 - a by omega) (show 0<=100000 - b by omega)
 have h2:=zAY (show 0<=100000+a by omega) (show 0<=100000+b by omega)
 have h3:=zAY (show 0<=100000 - a by omega) (show 0<=100000+b by omega)
 have h4:=zAY (show 0<=100000+a by omega) (show 0<=100000 - b by omega)
 rw [Int.sub_mul,Int.mul_sub,Int.mul_sub] at h1
 rw [Int.add_mul,Int.mul_add,Int.mul_add] at h2
 rw [Int.sub_mul,Int.mul_add,Int.mul_add] at h3
 rw [Int.add_mul,Int.mul_sub,Int.mul_sub] at h4
 omega
theorem adT (a b c:Ln) (w:World) (ha:yL a) (hb:yL b) (hc:yL c):
 Calls Tryz.prog 159 #[.agg #[.int .i64 a.b,.int .i64 a.r],.agg #[.int .i64 b.b,.int .i64 b.r],.agg #[.int .i64 c.b,.int .i64 c.r]] w λe w'=>e=.returned (.bool (ajG a b c))/\wW w w':=by
 obtain ⟨a1,a2,a3,a4⟩:=ha
 obtain ⟨b1,b2,b3,b4⟩:=hb
 obtain ⟨c1,c2,c3,c4⟩:=hc
 obtain ⟨m0,m1⟩:=aaG (a:=c.b - a.b) (b:=a.r - b.r) zO zO
 obtain ⟨n0,n1⟩:=aaG (a:=b.b - a.b) (b:=a.r - c.r) zO zO
 have E:=zM (ajG a b c=decide ((c.b - a.b)*(a.r - b.r)<=(b.b - a.b)*(a.r - c.r))) rfl
 go_enter Tryz.func159,Tryz.ntmps159
 go_wp2_with fail
 go_ret
 exact ⟨by rw [E.o];rfl,((wW.alloc _ _).trans (wW.alloc _ _)).trans (wW.alloc _ _)⟩
theorem asV {w:World} {base:Nat} {e:TypeId} {sz:Nat} {f:Ln->List Value} {A:Option Addr} {c:Nat} {l l':List Ln} (hf:∀x,(f x).length=sz) (h:w.ownsRow base e sz (.slice A (l++l').length c) (l++l').length ((l++l').flatMap f)):w.ownsRow base e sz (.slice A l.length c) l.length (l.flatMap f):=by
 obtain ⟨_,⟨h1,h2⟩|⟨g,cap,cur,hv,hg,hh,hn,hc,hs,ht⟩⟩:=h
 ·have hl:l++l'=[]:=zAm h2
  obtain ⟨rfl,rfl⟩:=List.append_eq_nil_iff.1 hl
  exact ⟨by simp,.inl ⟨h1,rfl⟩⟩
 ·simp only [zAp,true_and] at hv
  obtain ⟨rfl,rfl⟩:=hv
  refine ⟨by rw [vE f sz hf],.inr ⟨g,c,cur,rfl,hg,hh,by rw [zAP] at hn;omega,hc,hs,?_⟩⟩
  have h9:(cur.toList.take ((l++l').length*sz)).take (l.length*sz)=((l++l').flatMap f).take (l.length*sz):=by rw [ht]
  rw [List.take_take,List.flatMap_append,<-vE f sz hf l,List.take_left,vE f sz hf l] at h9
  rw [<-h9]
  congr 1
  have:=Nat.mul_le_mul_right sz (show l.length<=(l++l').length by simp)
  omega
theorem alS {w:World} {base:Nat} {e:TypeId} {sz:Nat} {A:Option Addr} {n c:Nat} {xs:List Value} (h:w.ownsRow base e sz (.slice A n c) n xs):n<=c:=by
 obtain ⟨_,⟨h1,h2⟩|⟨g,cap,cur,hv,hg,hh,hn,hc,hs,ht⟩⟩:=h
 ·omega
 ·simp only [zAp,true_and] at hv
  omega
set_option maxHeartbeats 8000000 in
theorem au7 (A:Option Addr) (c:Nat) (l:List Ln) (w:World) (B:Nat) (hB:B<=w.heap.size) (h:RdL w B A l) (h1:1<=l.length) (hl:l.length<=1000) (hok:∀x∈l,yL x):
 Calls Tryz.prog 132 #[.slice A l.length c] w (vI Ln.cs 2 75 (tidyRef l) w):=by
 obtain ⟨i0,hi0,hz0,hz1,hz2⟩:=info_parts aaP
 go_enter Tryz.func132,Tryz.ntmps132
 go_wp2_with fail
 refine (am1 A c l w B hB h zO).mono ?_
 rintro e w1 ⟨A1,c1,rfl,o1,k1⟩
 obtain ⟨g,cap,hv1,_,hlt1⟩:=o1.form zO
 simp only [zAp,true_and] at hv1
 obtain ⟨rfl,rfl⟩:=hv1
 go_wp2_with fail
 refine (anV g c1 w.heap.size l w1 o1 zO).mono ?_
 rintro e w2 ⟨rfl,s,hp,hs,o2,k2⟩
 have hsl:s.length=l.length:=hp.length_eq
 have hsok:∀x∈s,yL x:=λx hx=>hok x (hp.mem_iff.1 hx)
 have k2':Below w.heap.size w w2:=k1.trans k2
 have hT:tidyRef l=(ajS s).reverse:=(ap8 (λx=>hp.mem_iff) hs (λy hy=>(hsok y hy).2.2.1)).symm
 have r2:=RdL.qA o2
 rw [<-hsl]
 have HT:=zL hT
 have HOK:=zL hsok
 have K2:=zL k2'
 have z2:=k2'.size
 have R2:=zL r2
 have hs1:1<=s.length:=zO
 have hs2:s.length<=1000:=zO
 clear hT hsok k2' r2 o2 o1 hs hp k1 k2 hok h hlt1 hsl h1 hl
 go_wp2_with fail
 go_loopw [3,14] (λov iv wr=>∃(k:Nat) (st:List Ln) (A3:Option Addr) (c3:Nat),k<=s.length/\iv=.int .i64 k/\ov=.slice A3 st.reverse.length c3/\st=(s.take k).foldl zT []/\st.length<=k/\(∀x∈st,yL x)/\wr.ownsRow w2.heap.size 75 2 (.slice A3 st.reverse.length c3) st.reverse.length (st.reverse.flatMap Ln.cs)/\Below w2.heap.size w2 wr) (λ_ iv _=>s.length - (intOf iv).toNat)
 case atStart=>exact ⟨0,[],none,0,zAK _,rfl,rfl,rfl,by simp,by simp,⟨by simp,.inl ⟨rfl,rfl⟩⟩,zAA _ _⟩
 case round=>
  obtain ⟨k,st,A3,c3,hk,rfl,rfl,hst,hsk,hso,row,hbw⟩:=hrel
  have HST:=zL hst
  have HSO:=zL hso
  have ROW:=zL row
  have zw:=hbw.size
  clear hst hso row
  by_cases hlt:k<s.length
  ·have hokk:=HOK.o _ (zd hlt)
   have OKK:=zL hokk
   obtain ⟨r1,r2,r3,r4⟩:=hokk
   have hstep:(s.take (k+1)).foldl zT []=zT st s[k]:=by
    rw [zAN hlt,List.foldl_append,<-HST.o]
    rfl
   have HSTEP:=zL hstep
   obtain ⟨b,o,e0,hb,d0,d1⟩:=RdL.get (R2.o.below hbw) hlt
   simp only [zAC,zAS,and_true] at e0
   obtain ⟨rfl,rfl⟩:=e0
   simp only [Nat.zero_add] at d0 d1
   clear hstep
   go_upto_region 7 with fail
   obtain ⟨V,hV⟩:∃V:World,V=wr.alloc (.cells #[.int .i64 s[k].b,.int .i64 s[k].r] 75):=⟨_,rfl⟩
   have bx:Blk V wr.heap.size 75 #[.int .i64 s[k].b,.int .i64 s[k].r]:=zBV
   have rowV:V.ownsRow w2.heap.size 75 2 (.slice A3 st.reverse.length c3) st.reverse.length (st.reverse.flatMap Ln.cs):=by rw [hV];exact ROW.o.alloc _
   have kV:Below w2.heap.size w2 V:=zCT
   obtain ⟨gx,hgx⟩:∃gx,gx=wr.heap.size:=⟨_,rfl⟩
   have hgxn:∀q,(Value.slice A3 st.reverse.length c3).ownBlock=some q->q≠gx:=λq hq=>by have:=vV ROW.o q hq;omega
   rw [<-hV,<-hgx]
   rw [<-hgx] at bx
   have x0:V.cell? ⟨gx,0,none⟩=some (.int .i64 s[k].b):=bx.cell 0
   have x1:V.cell? ⟨gx,1,none⟩=some (.int .i64 s[k].r):=bx.cell 1
   have BX:=zL bx
   have ROWV:=zL rowV
   obtain ⟨x,hx⟩:∃x,x=s[k]:=⟨_,rfl⟩
   rw [<-hx] at x0 x1 r1 r2 r3 r4
   rw [<-hx] at OKK HSTEP BX
   clear hV hgx bx rowV d0 d1 hx
   cases st with
   |nil=>
    have E:=zM (zT [] x=[x]) rfl
    have Hnew:=zM (Rd (V.alloc (.cells #[.int .i64 x.b,.int .i64 x.r] 75)) (V.heap.size+1) 2 Ln.cs (some ⟨V.heap.size,0,none⟩) [x]) (RdL.zU x)
    have zV:w2.heap.size<=V.heap.size:=kV.size
    have ROW0:=zM (V.ownsRow w2.heap.size 75 2 (.slice A3 0 c3) 0 []) ROWV.o
    have e0:([]:List Ln).reverse.length=0:=rfl
    rw [e0]
    clear e0
    go_upto_region 8 with fail
    go_quiet (fail)
    rename Nat=>nq
    go_wp2_with fail
    go_loopw [3,7] (λov kv wr=>ov=.slice A3 0 c3/\kv=.int .i64 0/\∃q,wr=V.drewN q) (λ_ _ _=>0)
    case atStart=>exact ⟨rfl,rfl,nq,rfl⟩
    case round=>
     obtain ⟨rfl,rfl,q,rfl⟩:=hrel
     go_wp2_with fail
     go_quiet (fail)
     rename Nat=>nq2
     obtain ⟨X,hX⟩:∃X:World,X=(V.drewN q).drewN nq2:=⟨_,rfl⟩
     have ROW2:=zM (X.ownsRow w2.heap.size 75 2 (.slice A3 0 c3) 0 []) (by rw [hX];exact ROW0.o)
     have kX:Below w2.heap.size w2 X:=by rw [hX];exact below_drewN (below_drewN kV _) _
     have y0:X.cell? ⟨gx,0,none⟩=some (.int .i64 x.b):=by rw [hX];exact x0
     have y1:X.cell? ⟨gx,1,none⟩=some (.int .i64 x.r):=by rw [hX];exact x1
     have zX:=kX.size
     rw [<-hX]
     clear hX x0 x1
     go_wp2_with (at_builtin;refine qd _ Ln.cs rfl (.tmp 57) (.tmp 59) _ rfl w2.heap.size 75 i0 _ 2 16 Tryz.underlying57 hi0 hz0 hz1 hz2 rfl zO Ln.qw Ln.qV (.slice A3 0 c3) 0 [] rfl (ROW2.o.alloc _) (X.heap.size+1) (some ⟨X.heap.size,0,none⟩) 1 [x] rfl (RdL.zU x) zA9 zBG zA7 ?_;intro v3 w3 row3 g3' at3;simp only [Nat.zero_add,zAa] at row3;obtain ⟨A9,c9,rfl⟩:=yl row3 zO;have k3:=ql (kX.alloc zX _) (ROW2.o.alloc _) g3' (zD _) zA7)
     have hst2:[x]=(s.take (k+1)).foldl zT []:=by rw [HSTEP.o,E.o]
     refine ⟨⟨k+1,[x],A9,c9,hlt,by go_num,rfl,hst2,by simp,λy hy=>(by simp at hy;subst hy;exact OKK.o),row3,k3⟩,?_⟩
     simp [intOf]
     omega
   |cons t r=>
    have hgt:((t::r).reverse:List Ln)=r.reverse++[t]:=zA1
    obtain ⟨m,hm⟩:∃m,m=r.reverse.length:=⟨_,rfl⟩
    have hlen:(t::r).reverse.length=m+1:=by rw [hm];simp
    have hmk:m+1<=k:=by rw [<-hlen];simpa using hsk
    rw [hlen]
    obtain ⟨b3,o3,rfl,hb3,t0,t1⟩:=RdL.get (i:=m) (RdL.qA ROWV.o) (by rw [hlen];omega)
    have htm:(t::r).reverse[m]'(by rw [hlen];omega)=t:=by
     simp only [hgt]
     rw [List.getElem_append_right zO]
     simp [hm]
    rw [htm] at t0 t1
    have HM:=zL hm
    clear hm htm hgt
    go_upto_region 8 with fail
    have hw1:IntKind.i64.wrap ((m:Int)+1 - 1)=m:=zBE
    have i0':(0:Int)<=(m:Int):=zO
    have i1':(m:Int)<(m:Int)+1:=zO
    have i2':(0:Int)<(m:Int)+1:=zO
    by_cases hc:t.r<=x.r
    ·have E:=zM (zT (t::r) x=t::r) (zp hc)
     go_quiet (fail)
     rename Nat=>nq
     go_wp2_with fail
     refine ⟨⟨k+1,t::r,some ⟨b3,o3,none⟩,c3,hlt,by go_num,by rw [hlen],by rw [HSTEP.o,E.o],by omega,HSO.o,ROWV.o,below_drewN kV nq⟩,?_⟩
     simp [intOf]
     omega
    ·have E:=zM (zT (t::r) x=x::hullPop x (t::r)) (z6 hc)
     go_quiet (fail)
     rename Nat=>nq
     go_wp2_with fail
     go_loopw [3,7] (λov kv wr=>∃(st':List Ln) (n':Nat),1<=n'/\n'<=m+1/\n'=st'.reverse.length/\hullPop x (t::r)=hullPop x st'/\(∀y∈st',y∈t::r)/\ov=.slice (some ⟨b3,o3,none⟩) n' c3/\kv=.int .i64 n'/\wr.ownsRow w2.heap.size 75 2 (.slice (some ⟨b3,o3,none⟩) st'.reverse.length c3) st'.reverse.length (st'.reverse.flatMap Ln.cs)/\Below w2.heap.size w2 wr/\Blk wr gx 75 #[.int .i64 x.b,.int .i64 x.r]) (λ_ kv _=>(intOf kv).toNat)
     case atStart=>exact ⟨t::r,m+1,by omega,zD _,hlen.symm,rfl,λy hy=>hy,rfl,rfl,ROWV.o,below_drewN kV nq,BX.o.drewN nq⟩
     case round=>
      obtain ⟨st',n',hn1,hnm,hn',hpop,hsub,rfl,rfl,row',kw',bx'⟩:=hrel
      have HPOP:=zL hpop
      have HSUB:=zL hsub
      have ROW':=zL row'
      have HN':=zL hn'
      have x0:wr.cell? ⟨gx,0,none⟩=some (.int .i64 x.b):=bx'.cell 0
      have x1:wr.cell? ⟨gx,1,none⟩=some (.int .i64 x.r):=bx'.cell 1
      clear hpop hsub row' hn'
      go_wp2_with fail
      match st',HPOP,HSUB,ROW',HN' with
      |[],_,_,_,HN'=>exact zAv HN'.out zA7
      |[b1],HPOP,HSUB,ROW',HN'=>
       obtain rfl:n'=1:=HN'.out
       go_quiet (fail)
       rename Nat=>nq2
       obtain ⟨X,hX⟩:∃X:World,X=wr.drewN nq2:=⟨_,rfl⟩
       have ROW2:=zM (X.ownsRow w2.heap.size 75 2 (.slice (some ⟨b3,o3,none⟩) 1 c3) 1 ([b1].reverse.flatMap Ln.cs)) (by rw [hX];exact ROW'.out)
       have kX:Below w2.heap.size w2 X:=by rw [hX];exact below_drewN kw' _
       have y0:X.cell? ⟨gx,0,none⟩=some (.int .i64 x.b):=by rw [hX];exact x0
       have y1:X.cell? ⟨gx,1,none⟩=some (.int .i64 x.r):=by rw [hX];exact x1
       have zX:=kX.size
       rw [<-hX]
       clear hX
       clear x0 x1
       go_wp2_with (at_builtin;refine qd _ Ln.cs rfl (.tmp 57) (.tmp 59) _ rfl w2.heap.size 75 i0 _ 2 16 Tryz.underlying57 hi0 hz0 hz1 hz2 rfl zO Ln.qw Ln.qV (.slice (some ⟨b3,o3,none⟩) 1 c3) 1 ([b1].reverse.flatMap Ln.cs) rfl (ROW2.o.alloc _) (X.heap.size+1) (some ⟨X.heap.size,0,none⟩) 1 [x] rfl (RdL.zU x) zBH zBQ zBX ?_;intro v3 w3 row3 g3' at3;have row4:w3.ownsRow w2.heap.size 75 2 v3 ([b1].reverse.length+[x].length) ([b1].reverse.flatMap Ln.cs++[x].flatMap Ln.cs):=(by rw [show [b1].reverse.length=1 from rfl];exact row3);obtain ⟨A9,c9,hv9,row5⟩:=qI (l:=[b1].reverse) (l':=[x]) row4 zO;subst hv9;have k3:=ql (kX.alloc zX _) (ROW2.o.alloc _) g3' (zD _) zA7)
       have hst2:x::[b1]=(s.take (k+1)).foldl zT []:=by rw [HSTEP.o,E.o,HPOP.o,show hullPop x [b1]=[b1] from rfl]
       have erev:[b1].reverse++[x]=(x::[b1]).reverse:=zA1
       rw [erev] at row5
       refine ⟨⟨k+1,x::[b1],A9,c9,hlt,by go_num,by rw [<-erev];first |done|simp,hst2,by (simp;omega),λy hy=>zCj,row5,k3⟩,?_⟩
       simp [intOf]
       omega
      |b1::a1::r1,HPOP,HSUB,ROW',HN'=>
       obtain ⟨q,hq⟩:∃q,q=r1.length:=⟨_,rfl⟩
       have hnq:n'=q+2:=by rw [HN'.out,hq];simp
       obtain ⟨q1,hq1⟩:∃q1,q1=q+1:=⟨_,rfl⟩
       have hrev:(b1::a1::r1).reverse=r1.reverse++[a1,b1]:=zA1
       have hlen':(b1::a1::r1).reverse.length=q+2:=by rw [<-hnq];exact HN'.out.symm
       obtain ⟨b4,o4,e4,hb4,a0',a1'⟩:=RdL.get (i:=q) (RdL.qA ROW'.out) (by rw [hlen'];omega)
       obtain ⟨b5,o5,e5,hb5,b0',b1'⟩:=RdL.get (i:=q1) (RdL.qA ROW'.out) (by rw [hlen'];omega)
       simp only [zAC,zAS,and_true] at e4 e5
       obtain ⟨rfl,rfl⟩:=e4
       obtain ⟨rfl,rfl⟩:=e5
       have ha1:(b1::a1::r1).reverse[q]'(by rw [hlen'];omega)=a1:=zFL
       have hb1:(b1::a1::r1).reverse[q1]'(by rw [hlen'];omega)=b1:=by
        subst hq1
        exact zFL
       rw [ha1] at a0' a1'
       rw [hb1] at b0' b1'
       have okA:=HSO.o a1 (HSUB.o a1 zA1)
       have okB:=HSO.o b1 (HSUB.o b1 zA1)
       have v1:IntKind.i64.wrap ((n':Int) - 1)=(q1:Int):=zBE
       have v2:IntKind.i64.wrap ((n':Int) - 2)=(q:Int):=zBE
       have j0:(0:Int)<=(q:Int):=zO
       have j1:(q:Int)<(n':Int):=zO
       have j2:(0:Int)<=(q1:Int):=zO
       have j3:(q1:Int)<(n':Int):=zO
       have j4:(1:Int)<(n':Int):=zO
       have HNQ:=zL hnq
       have HQ1:=zL hq1
       have KP:=zM (∀W,Below wr.heap.size wr W->W.cell? ⟨b3,o3+q*2,none⟩=some (.int .i64 a1.b)/\W.cell? ⟨b3,o3+q*2+1,none⟩=some (.int .i64 a1.r)/\W.cell? ⟨b3,o3+q1*2,none⟩=some (.int .i64 b1.b)/\W.cell? ⟨b3,o3+q1*2+1,none⟩=some (.int .i64 b1.r)/\W.cell? ⟨gx,0,none⟩=some (.int .i64 x.b)/\W.cell? ⟨gx,1,none⟩=some (.int .i64 x.r)) (λW hb=>⟨(hb.cell (p:=⟨b3,o3+q*2,none⟩) hb4).trans a0',(hb.cell (p:=⟨b3,o3+q*2+1,none⟩) hb4).trans a1',(hb.cell (p:=⟨b3,o3+q1*2,none⟩) hb4).trans b0',(hb.cell (p:=⟨b3,o3+q1*2+1,none⟩) hb4).trans b1',(hb.cell (p:=⟨gx,0,none⟩) bx'.lt).trans x0,(hb.cell (p:=⟨gx,1,none⟩) bx'.lt).trans x1⟩)
       have HLEN':=zL hlen'
       clear hq hrev hlen' ha1 hb1 hnq hq1
       cases hnb:ajG a1 b1 x with
       |true=>
        have HNB:=zL hnb
        clear hnb
        go_region_held3 (λW=>W.cell? ⟨b3,o3+q*2,none⟩=some (.int .i64 a1.b)/\W.cell? ⟨b3,o3+q*2+1,none⟩=some (.int .i64 a1.r)/\W.cell? ⟨b3,o3+q1*2,none⟩=some (.int .i64 b1.b)/\W.cell? ⟨b3,o3+q1*2+1,none⟩=some (.int .i64 b1.r)/\W.cell? ⟨gx,0,none⟩=some (.int .i64 x.b)/\W.cell? ⟨gx,1,none⟩=some (.int .i64 x.r))
         (first |go_keep|exact KP.o _ (((zAA _ _).drew).trans (k6.below (zD _))))
         (first |(go_at_call 159;refine (adT a1 b1 x _ okA okB OKK.o).mono ?_;rw [HNB.o];rintro e w6 ⟨rfl,k6⟩))
        have kw6:Below w2.heap.size w2 w6:=kw'.trans ((((zAA _ _).drew).trans (k6.below (zD _))).mono kw'.size)
        have k66:Below wr.heap.size wr w6:=((zAA _ _).drew).trans (k6.below (zD _))
        have row6:w6.ownsRow w2.heap.size 75 2 (.slice (some ⟨b3,o3,none⟩) (a1::r1).reverse.length c3) (a1::r1).reverse.length ((a1::r1).reverse.flatMap Ln.cs):=by
         have h9:w6.ownsRow w2.heap.size 75 2 (.slice (some ⟨b3,o3,none⟩) (b1::a1::r1).reverse.length c3) (b1::a1::r1).reverse.length ((b1::a1::r1).reverse.flatMap Ln.cs):=ym ROW'.out λq9 hq9=>k66.block q9 (vV ROW'.out q9 hq9)
         rw [List.reverse_cons] at h9
         exact asV Ln.qw h9
        have bx6:=bx'.below k66 bx'.lt
        have hcap:=alS ROW'.out
        have hcap2:n'<=c3:=by rw [HN'.out];exact hcap
        have hpop2:hullPop x (t::r)=hullPop x (a1::r1):=by rw [HPOP.o,hullPop,zp HNB.o]
        have hn2:q1=(a1::r1).reverse.length:=by
         have e9:=HLEN'.out
         have e8:=HQ1.o
         simp at e9 ⊢
         omega
        have HN2:=zL hn2
        have hq1b:1<=q1/\q1<=m+1:=by have:=HQ1.o;have:=HNQ.o;omega
        have hnq1:(n':Int) - 1=(q1:Int):=by have:=HQ1.o;have:=HNQ.o;omega
        have ROW6:=zL row6
        clear hcap hn2 row6 x0 x1 a0' a1' b0' b1'
        go_wp2_with fail
        go_roundw
        case rel=>exact ⟨a1::r1,q1,hq1b.1,hq1b.2,HN2.o,hpop2,λy hy=>HSUB.o y (zAJ _ hy),rfl,rfl,by rw [<-HN2.o];rw [<-HN2.o] at ROW6;exact ROW6.o,kw6,bx6⟩
        case measure=>simp [intOf];omega
       |false=>
        have HNB:=zL hnb
        clear hnb
        go_region_held3 (λW=>W.cell? ⟨b3,o3+q*2,none⟩=some (.int .i64 a1.b)/\W.cell? ⟨b3,o3+q*2+1,none⟩=some (.int .i64 a1.r)/\W.cell? ⟨b3,o3+q1*2,none⟩=some (.int .i64 b1.b)/\W.cell? ⟨b3,o3+q1*2+1,none⟩=some (.int .i64 b1.r)/\W.cell? ⟨gx,0,none⟩=some (.int .i64 x.b)/\W.cell? ⟨gx,1,none⟩=some (.int .i64 x.r))
         (first |go_keep|exact KP.o _ (((zAA _ _).drew).trans (k6.below (zD _))))
         (first |(go_at_call 159;refine (adT a1 b1 x _ okA okB OKK.o).mono ?_;rw [HNB.o];rintro e X ⟨rfl,k6⟩))
        have kX:Below w2.heap.size w2 X:=kw'.trans ((((zAA _ _).drew).trans (k6.below (zD _))).mono kw'.size)
        have k66:Below wr.heap.size wr X:=((zAA _ _).drew).trans (k6.below (zD _))
        have ROW2:=zL (show X.ownsRow w2.heap.size 75 2 (.slice (some ⟨b3,o3,none⟩) n' c3) n' ((b1::a1::r1).reverse.flatMap Ln.cs) by
         rw [HN'.out]
         exact ym ROW'.out λq9 hq9=>k66.block q9 (vV ROW'.out q9 hq9))
        have bx6:=bx'.below k66 bx'.lt
        have y0:X.cell? ⟨gx,0,none⟩=some (.int .i64 x.b):=bx6.cell 0
        have y1:X.cell? ⟨gx,1,none⟩=some (.int .i64 x.r):=bx6.cell 1
        have zX:=kX.size
        clear bx6 a0' a1' b0' b1'
        clear x0 x1
        go_wp2_with (at_builtin;refine qd _ Ln.cs rfl (.tmp 57) (.tmp 59) _ rfl w2.heap.size 75 i0 _ 2 16 Tryz.underlying57 hi0 hz0 hz1 hz2 rfl zO Ln.qw Ln.qV (.slice (some ⟨b3,o3,none⟩) n' c3) n' ((b1::a1::r1).reverse.flatMap Ln.cs) rfl (ROW2.o.alloc _) (X.heap.size+1) (some ⟨X.heap.size,0,none⟩) 1 [x] rfl (RdL.zU x) zBH zBQ zBX ?_;intro v3 w3 row3 g3' at3;have row4:w3.ownsRow w2.heap.size 75 2 v3 ((b1::a1::r1).reverse.length+[x].length) ((b1::a1::r1).reverse.flatMap Ln.cs++[x].flatMap Ln.cs):=(by rw [<-HN'.out];exact row3);obtain ⟨A9,c9,hv9,row5⟩:=qI (l:=(b1::a1::r1).reverse) (l':=[x]) row4 zO;subst hv9;have k3:=ql (kX.alloc zX _) (ROW2.o.alloc _) g3' (zD _) zA7)
        have hst2:x::b1::a1::r1=(s.take (k+1)).foldl zT []:=by rw [HSTEP.o,E.o,HPOP.o,hullPop,z6 (by rw [HNB.o];simp)]
        have erev:(b1::a1::r1).reverse++[x]=(x::b1::a1::r1).reverse:=zA1
        rw [erev] at row5
        refine ⟨⟨k+1,x::b1::a1::r1,A9,c9,hlt,by go_num,by rw [<-erev];first |done|simp,hst2,by (have e9:=HN'.out;have e8:=hnm;have e7:=hmk;simp at e9 ⊢;omega),λy hy=>zCj,row5,k3⟩,?_⟩
        simp [intOf]
        omega
  ·have hend:st=ajS s:=by
    rw [HST.o,zAZ zO]
    rfl
   have hfin:st.reverse=tidyRef l:=by rw [HT.o,hend]
   have HFIN:=zL hfin
   clear hend hfin HST
   go_wp2_with fail
   go_ret
   rw [<-HFIN.o]
   exact ⟨A3,c3,rfl,qO ROW.o z2,K2.o.trans (hbw.mono z2)⟩
def arI (l:List Ln) (S:Nat->Addr) (k:Nat) (a:Int) (w:World) (en:Ending) (w':World):Prop:=
 ∃A c v,en=.returned (.tuple #[.slice A l.length c,v])/\w'.ownsRow w.heap.size 75 2 (.slice A l.length c) l.length (l.flatMap Ln.cs)/\Er w' w'.heap.size S v k a/\Below w.heap.size w w'
def jE (a b:List Ln):Nat × Int:=if (qh a).1≠0 then qh a else if (qh b).1≠0 then qh b else (sumErr a b,-1)
def kE (a b:List Ln):List Ln:=if (jE a b).1=0 then tidyRef (sumAll a b) else []
theorem aqA {a b:List Ln} {x y:Ln} (hx:x∈a) (hy:y∈b) (h:ug (jN x y).b (jN x y).r=false):sumErr a b=2:=by
 unfold sumErr
 rw [z6]
 intro h9
 have:=List.all_eq_true.1 h9 (jN x y) (ac0.2 ⟨x,hx,y,hy,rfl⟩)
 rw [h] at this
 cases this
structure SU (a b:List Ln) (i j:Nat) (acc:List Ln):Prop where
 e:acc=sumAll (a.take i) b++(if h:i<a.length then (b.take j).map (jN a[i]) else [])
 ok:∀z∈acc,ug z.b z.r=true
 len:acc.length<=36
theorem SU.push {a b:List Ln} {i j:Nat} {acc:List Ln} (h:SU a b i j acc) (hi:i<a.length) (hj:j<b.length) (ha:a.length<=6) (hb:b.length<=6) (hok:ug (jN a[i] b[j]).b (jN a[i] b[j]).r=true):SU a b i (j+1) (acc++[jN a[i] b[j]]):=by
 have he:acc++[jN a[i] b[j]]=sumAll (a.take i) b++(if h:i<a.length then (b.take (j+1)).map (jN a[i]) else []):=by
  rw [h.e,dif_pos hi,dif_pos hi,zAN hj,List.map_append,zAi]
  rfl
 refine ⟨he,λz hz=>?_,?_⟩
 ·rcases zAQ.1 hz with hz|hz
  ·exact h.ok z hz
  ·simp at hz;subst hz;exact hok
 ·rw [he,dif_pos hi,zAP,aa4,List.length_map,zAh,zAh]
  have h1:min i a.length=i:=zO
  have h2:min (j+1) b.length=j+1:=zO
  rw [h1,h2]
  have:=Nat.mul_le_mul (show i<=5 by omega) hb
  omega
theorem SU.next {a b:List Ln} {i j:Nat} {acc:List Ln} (h:SU a b i j acc) (hi:i<a.length) (hj:¬j<b.length):SU a b (i+1) 0 acc:=by
 have he:acc=sumAll (a.take (i+1)) b:=by
  rw [h.e,dif_pos hi,zAZ (show b.length<=j by omega),zAN hi]
  unfold sumAll
  rw [List.flatMap_append]
  simp
 refine ⟨?_,h.ok,h.len⟩
 rw [he]
 split<;>simp
theorem SU.start {a b:List Ln} {i:Nat} {acc:List Ln} (h:SU a b i 0 acc):acc=sumAll (a.take i) b:=by
 rw [h.e]
 split<;>simp
set_option maxHeartbeats 8000000 in
theorem avF (A A':Option Addr) (c c':Nat) (a b:List Ln) (S:Nat->Addr) (w:World) (B:Nat) (hB:B<=w.heap.size) (h:RdL w B A a) (h':RdL w B A' b) (hS:Snt w B S [2,3]) (ha:(qh a).1=0) (hb:(qh b).1=0):
 Calls Tryz.prog 103 #[.slice A a.length c,.slice A' b.length c'] w (arI (kE a b) S (jE a b).1 (jE a b).2 w):=by
 obtain ⟨i0,hi0,hz0,hz1,hz2⟩:=info_parts aaP
 obtain ⟨a1,a2,a3,a4⟩:=crvErr_ok ha
 obtain ⟨b1,b2,b3,b4⟩:=crvErr_ok hb
 have HE:=zM (jE a b=(sumErr a b,-1)) (by unfold jE;rw [z6 zO,z6 zO])
 have HA:=zL a3
 have HBB:=zL b3
 have hal:a.length<=9223372036854775807:=zO
 have hbl:b.length<=9223372036854775807:=zO
 have Hca:=zL ha
 have Hcb:=zL hb
 have HL:=zL h
 have HL':=zL h'
 have HS:=zL hS
 clear a3 b3 ha hb h h' hS
 go_enter Tryz.func103,Tryz.ntmps103
 go_wp2_with fail
 refine (yw A c a S w B hB HL.o HS.o hal).mono ?_
 rintro e w1 ⟨v,rfl,hv,k1⟩
 obtain rfl:=hv.qK Hca.o
 go_wp2_with fail
 refine (yw A' c' b S w1 B (zAB hB k1.size) (HL'.out.below (k1.mono hB)) (HS.o.below (k1.mono hB)) hbl).mono ?_
 rintro e w2 ⟨v,rfl,hv2,k2⟩
 obtain rfl:=hv2.qK Hcb.o
 have k2':=k1.trans (k2.mono k1.size)
 clear hv hv2 k1 k2
 go_wp2_with fail
 go_loopw [8,26] (λov iv wr=>∃(i:Nat) (acc:List Ln) (A3:Option Addr) (c3:Nat),i<=a.length/\iv=.int .i64 i/\ov=.slice A3 acc.length c3/\SU a b i 0 acc/\wr.ownsRow w.heap.size 75 2 (.slice A3 acc.length c3) acc.length (acc.flatMap Ln.cs)/\Below w.heap.size w wr) (λ_ iv _=>a.length - (intOf iv).toNat)
 case atStart=>exact ⟨0,[],none,0,zAK _,rfl,rfl,⟨by split<;>simp [sumAll],by simp,by simp⟩,⟨by simp,.inl ⟨rfl,rfl⟩⟩,k2'⟩
 case round=>
  obtain ⟨i,acc,A3,c3,hi,rfl,rfl,hsu,row,hbw⟩:=hrel
  have SUH:=zL hsu
  have ROW:=zL row
  have zw:=hbw.size
  clear hsu row k2'
  by_cases hil:i<a.length
  ·have hx:=HA.o _ (zd hil)
   obtain ⟨r1,r2,r3,r4⟩:=hx
   have hd:=RdL.get (HL.o.below (hbw.mono hB)) hil
   obtain ⟨bq,o,rfl,hbq,d0,d1⟩:=hd
   go_upto_region 11 with fail
   obtain ⟨V,hV⟩:∃V:World,V=wr.alloc (.cells #[.int .i64 a[i].b,.int .i64 a[i].r] 75):=⟨_,rfl⟩
   have bx:Blk V wr.heap.size 75 #[.int .i64 a[i].b,.int .i64 a[i].r]:=zBV
   have rowV:V.ownsRow w.heap.size 75 2 (.slice A3 acc.length c3) acc.length (acc.flatMap Ln.cs):=by rw [hV];exact ROW.o.alloc _
   have kV:Below w.heap.size w V:=zCT
   obtain ⟨gx,hgx⟩:∃gx,gx=wr.heap.size:=⟨_,rfl⟩
   have hgxn:∀q,(Value.slice A3 acc.length c3).ownBlock=some q->q≠gx:=λq hq=>by have:=vV ROW.o q hq;omega
   have hgB:B<=gx:=zO
   rw [<-hV,<-hgx]
   rw [<-hgx] at bx
   have BX:=zL bx
   have ROWV:=zL rowV
   have HGN:=zL hgxn
   obtain ⟨x,hx⟩:∃x,x=a[i]:=⟨_,rfl⟩
   rw [<-hx] at r1 r2 r3 r4
   rw [<-hx] at BX
   have HX:=zL hx
   clear hV hgx bx rowV d0 d1 hx hgxn
   go_wp2_with fail
   go_loopw [8,32] (λov jv wr=>∃(j:Nat) (acc:List Ln) (A3:Option Addr) (c3:Nat),j<=b.length/\jv=.int .i64 j/\ov=.slice A3 acc.length c3/\SU a b i j acc/\wr.ownsRow w.heap.size 75 2 (.slice A3 acc.length c3) acc.length (acc.flatMap Ln.cs)/\Below w.heap.size w wr/\Blk wr gx 75 #[.int .i64 x.b,.int .i64 x.r]/\∀q,(Value.slice A3 acc.length c3).ownBlock=some q->q≠gx) (λ_ jv _=>b.length - (intOf jv).toNat)
   case atStart=>exact ⟨0,acc,A3,c3,zAK _,rfl,rfl,SUH.o,ROWV.o,kV,BX.o,HGN.o⟩
   case round=>
    obtain ⟨j,acc,A3,c3,hj,rfl,rfl,hsu,row,hbw,bx,hgn⟩:=hrel
    have SUH:=zL hsu
    have ROW:=zL row
    have BX:=zL bx
    have HGN:=zL hgn
    have zw:=hbw.size
    have hal36:=hsu.len
    clear hsu row bx ROWV hgn
    by_cases hjl:j<b.length
    ·have hy:=HBB.o _ (zd hjl)
     obtain ⟨s1,s2,s3,s4⟩:=hy
     obtain ⟨bq2,o2,rfl,hbq2,e0,e1⟩:=RdL.get (HL'.out.below (hbw.mono hB)) hjl
     have x0:wr.cell? ⟨gx,0,none⟩=some (.int .i64 x.b):=BX.o.cell 0
     have x1:wr.cell? ⟨gx,1,none⟩=some (.int .i64 x.r):=BX.o.cell 1
     go_upto_region 14 with fail
     obtain ⟨V2,hV⟩:∃V2:World,V2=wr.alloc (.cells #[.int .i64 b[j].b,.int .i64 b[j].r] 75):=⟨_,rfl⟩
     have by_:Blk V2 wr.heap.size 75 #[.int .i64 b[j].b,.int .i64 b[j].r]:=zBV
     have rowV:V2.ownsRow w.heap.size 75 2 (.slice A3 acc.length c3) acc.length (acc.flatMap Ln.cs):=by rw [hV];exact ROW.o.alloc _
     have kV2:Below w.heap.size w V2:=zCT
     have bxV:Blk V2 gx 75 #[.int .i64 x.b,.int .i64 x.r]:=by rw [hV];exact BX.o.alloc _
     obtain ⟨gy,hgy⟩:∃gy,gy=wr.heap.size:=⟨_,rfl⟩
     rw [<-hV,<-hgy]
     rw [<-hgy] at by_
     have y0:V2.cell? ⟨gy,0,none⟩=some (.int .i64 b[j].b):=by_.cell 0
     have y1:V2.cell? ⟨gy,1,none⟩=some (.int .i64 b[j].r):=by_.cell 1
     have z0:V2.cell? ⟨gx,0,none⟩=some (.int .i64 x.b):=bxV.cell 0
     have z1:V2.cell? ⟨gx,1,none⟩=some (.int .i64 x.r):=bxV.cell 1
     obtain ⟨z,hz⟩:∃z,z=jN x b[j]:=⟨_,rfl⟩
     have hzb:z.b=x.b+b[j].b:=by rw [hz];rfl
     have hzr:z.r=x.r+b[j].r:=by rw [hz];rfl
     have HZB:=zL hzb
     have HZR:=zL hzr
     have HZ:=zL hz
     have ROWV:=zL rowV
     have BXV:=zL bxV
     have zV2:=kV2.size
     clear hV hgy by_ rowV bxV e0 e1 x0 x1 hz hzb hzr
     go_upto_region 15 with fail
     rw [<-HZB.o,<-HZR.o]
     obtain ⟨V3,hV⟩:∃V3:World,V3=V2.alloc (.cells #[.int .i64 z.b,.int .i64 z.r] 75):=⟨_,rfl⟩
     have bz:Blk V3 V2.heap.size 75 #[.int .i64 z.b,.int .i64 z.r]:=zBV
     have row3:V3.ownsRow w.heap.size 75 2 (.slice A3 acc.length c3) acc.length (acc.flatMap Ln.cs):=by rw [hV];exact ROWV.o.alloc _
     have kV3:Below w.heap.size w V3:=by rw [hV];exact kV2.alloc zV2 _
     have bx3:Blk V3 gx 75 #[.int .i64 x.b,.int .i64 x.r]:=by rw [hV];exact BXV.o.alloc _
     obtain ⟨gz,hgz⟩:∃gz,gz=V2.heap.size:=⟨_,rfl⟩
     rw [<-hV,<-hgz]
     rw [<-hgz] at bz
     have w0:V3.cell? ⟨gz,0,none⟩=some (.int .i64 z.b):=bz.cell 0
     have w1':V3.cell? ⟨gz,1,none⟩=some (.int .i64 z.r):=bz.cell 1
     have ROW3:=zL row3
     have BX3:=zL bx3
     have BZ:=zL bz
     have zV3:=kV3.size
     clear hV hgz bz row3 bx3 y0 y1 z0 z1
     go_wp2_with fail
     refine (al7 z.b z.r V3).mono ?_
     rintro e w4 ⟨rfl,k4⟩
     have k4':=kV3.trans (k4.mono zV3)
     have z4:=k4'.size
     have v0:w4.cell? ⟨gz,0,none⟩=some (.int .i64 z.b):=(BZ.o.below k4 BZ.o.lt).cell 0
     have v1:w4.cell? ⟨gz,1,none⟩=some (.int .i64 z.r):=(BZ.o.below k4 BZ.o.lt).cell 1
     have ROW4:=zM (w4.ownsRow w.heap.size 75 2 (.slice A3 acc.length c3) acc.length (acc.flatMap Ln.cs)) (ym ROW3.o λq hq=>k4.block q (vV ROW3.o q hq))
     have BX4:=zL (BX3.o.below k4 BX3.o.lt)
     clear w0 w1'
     cases hlb:ug z.b z.r with
     |false=>
      have g2:w4.cell? ⟨G 2,0,none⟩=some (sv S 2):=((HS.o.below (k4'.mono hB)) 2 zA1).2.2
      simp only [G,sv] at g2
      have HER:=zM (jE a b=(2,-1)) (by rw [HE.o,aqA (zd hil) (zd hjl) (by rw [<-HX.o,<-HZ.o];exact hlb)])
      have HVV:=zM (kE a b=[]) (by unfold kE;rw [HER.o];rfl)
      clear hlb
      go_wp2_with fail
      go_quiet (fail)
      rename Nat=>nq
      go_wp2_with fail
      go_ret2
      rw [HER.o,HVV.o]
      exact ⟨none,0,_,rfl,⟨by simp,.inl ⟨rfl,rfl⟩⟩,.bare 2 zO zO,below_drewN k4' nq⟩
     |true=>
      have HP:=zL (SUH.o.push hil hjl a2 b2 (by rw [<-HX.o,<-HZ.o];exact hlb))
      clear hlb
      go_wp2_with (at_builtin;refine qd _ Ln.cs rfl (.tmp 51) (.tmp 53) _ rfl w.heap.size 75 i0 _ 2 16 Tryz.underlying57 hi0 hz0 hz1 hz2 rfl zO Ln.qw Ln.qV (.slice A3 acc.length c3) acc.length (acc.flatMap Ln.cs) rfl (ROW4.o.alloc _) (w4.heap.size+1) (some ⟨w4.heap.size,0,none⟩) 1 [z] rfl (RdL.zU z) zBH zBQ zBX ?_;intro v3 w5 row5 g5 at5;obtain ⟨A9,c9,hv9,row6⟩:=qI row5 zO;subst hv9;have k5:=ql (k4'.alloc z4 _) (ROW4.o.alloc _) g5 (zD _) zBX)
      have bx5:Blk w5 gx 75 #[.int .i64 x.b,.int .i64 x.r]:=(BX4.o.alloc _).grown g5 (λe9=>HGN.o _ e9.symm rfl)
      have hgn5:∀q,(Value.slice A9 (acc++[z]).length c9).ownBlock=some q->q≠gx:=λq hq=>by
       rcases at5 with e9|e9
       ·exact HGN.o q (by rw [<-e9];exact hq)
       ·rw [hq] at e9
        have:=BX4.o.lt
        injection e9 with e9
        simp at e9
        omega
      have hp:=HP.o
      rw [<-HX.o,<-HZ.o] at hp
      have hle:(acc++[z]).length=acc.length+1:=zA1
      go_roundw
      case rel=>exact ⟨j+1,acc++[z],A9,c9,hjl,by go_num,by rw [hle],hp,row6,k5,bx5,hgn5⟩
      case measure=>simp [intOf];omega
    ·exact zEa
  ·have hacc:acc=sumAll a b:=by rw [SUH.o.start,zAZ zO]
   have HACC:=zL hacc
   have hal1:1<=acc.length:=by rw [hacc,aa4];exact Nat.mul_pos a1 b1
   have hal36:=SUH.o.len
   have hok:∀z∈acc,yL z:=λz hz=>by have h9:=SUH.o.ok z hz;unfold ug at h9;have h9:=of_decide_eq_true h9;exact h9
   have hall:(sumAll a b).all (λz=>ug z.b z.r)=true:=List.all_eq_true.2 λz hz=>SUH.o.ok z (by rw [hacc];exact hz)
   have HOK:=zL hok
   have HALL:=zL hall
   clear hacc hok hall
   go_wp2_with fail
   refine (au7 A3 c3 acc wr wr.heap.size (zD _) (RdL.qA ROW.o) hal1 zO HOK.o).mono ?_
   rintro e w5 ⟨A5,c5,rfl,o5,k5⟩
   have k5':=hbw.trans (k5.mono zw)
   obtain ⟨t,ht⟩:∃t,t=tidyRef acc:=⟨_,rfl⟩
   have htl:t.length<=acc.length:=by rw [ht];exact alE λy hy=>(HOK.o y hy).2.2.1
   rw [<-ht] at o5 ⊢
   have HTT:=zL (ht.trans (by rw [HACC.o]))
   have O5:=zL o5
   clear ht o5
   by_cases h6:6<t.length
   ·have HER:=zM (jE a b=(3,-1)) (by rw [HE.o];unfold sumErr;rw [zp HALL.o,zp zCm])
    have HVV:=zM (kE a b=[]) (by unfold kE;rw [HER.o];rfl)
    have g3:w5.cell? ⟨G 3,0,none⟩=some (sv S 3):=((HS.o.below (k5'.mono hB)) 3 zA1).2.2
    simp only [G,sv] at g3
    go_wp2_with fail
    go_quiet (fail)
    rename Nat=>nq
    go_wp2_with fail
    go_ret2
    rw [HER.o,HVV.o]
    exact ⟨none,0,_,rfl,⟨by simp,.inl ⟨rfl,rfl⟩⟩,.bare 3 zO zO,below_drewN k5' nq⟩
   ·have HER:=zM (jE a b=(0,-1)) (by rw [HE.o];unfold sumErr;rw [zp HALL.o,z6 zCm])
    have HVV:=zM (kE a b=t) (by unfold kE;rw [HER.o,<-HTT.o];rfl)
    go_wp2_with fail
    go_ret2
    rw [HER.o,HVV.o]
    exact ⟨A5,c5,_,rfl,qO O5.o zw,.nil,k5'⟩
theorem axM (A A':Option Addr) (c c':Nat) (a b:List Ln) (S:Nat->Addr) (w:World) (B:Nat) (hB:B<=w.heap.size) (h:RdL w B A a) (h':RdL w B A' b) (hS:Snt w B S [2,3]) (hal:a.length<=9223372036854775807) (hbl:b.length<=9223372036854775807):
 Calls Tryz.prog 103 #[.slice A a.length c,.slice A' b.length c'] w (arI (kE a b) S (jE a b).1 (jE a b).2 w):=by
 by_cases ha:(qh a).1=0
 ·by_cases hb:(qh b).1=0
  ·exact avF A A' c c' a b S w B hB h h' hS ha hb
  ·have HE:=zM (jE a b=qh b) (by unfold jE;rw [z6 zO,zp hb])
   have HV:=zM (kE a b=[]) (by unfold kE;rw [HE.o];exact z6 hb)
   have Hca:=zL ha
   have Hcb:=zL hb
   clear ha hb
   go_enter Tryz.func103,Tryz.ntmps103
   go_wp2_with fail
   refine (yw A c a S w B hB h hS hal).mono ?_
   rintro e w1 ⟨v,rfl,hv,k1⟩
   obtain rfl:=hv.qK Hca.o
   go_wp2_with fail
   refine (yw A' c' b S w1 B (zAB hB k1.size) (h'.below (k1.mono hB)) (hS.below (k1.mono hB)) hbl).mono ?_
   rintro e w2 ⟨v,rfl,hv2,k2⟩
   obtain ⟨T,a9,rfl⟩:=hv2.qW Hcb.o
   go_wp2_with fail
   go_ret2
   rw [HE.o,HV.o]
   exact ⟨none,0,_,rfl,⟨by simp,.inl ⟨rfl,rfl⟩⟩,hv2,k1.trans (k2.mono k1.size)⟩
 ·have HE:=zM (jE a b=qh a) (by unfold jE;rw [zp ha])
  have HV:=zM (kE a b=[]) (by unfold kE;rw [HE.o];exact z6 ha)
  have Hca:=zL ha
  clear ha
  go_enter Tryz.func103,Tryz.ntmps103
  go_wp2_with fail
  refine (yw A c a S w B hB h hS hal).mono ?_
  rintro e w1 ⟨v,rfl,hv,k1⟩
  obtain ⟨T,a9,rfl⟩:=hv.qW Hca.o
  go_wp2_with fail
  go_ret2
  rw [HE.o,HV.o]
  exact ⟨none,0,_,rfl,⟨by simp,.inl ⟨rfl,rfl⟩⟩,hv,k1⟩
end Go.Proofs.YtoomffajodheaaaGreatDoor
