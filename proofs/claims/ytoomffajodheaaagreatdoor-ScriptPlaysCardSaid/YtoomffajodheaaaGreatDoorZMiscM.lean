/- The proof of ScriptPlays, part MiscM. Conditions: in each statement. -/
import Derived.Test.YtoomffajodheaaaGreatDoorZFifoM2
import Derived.Deep.RegionLaw
set_option linter.all false
namespace Go.Proofs.YtoomffajodheaaaGreatDoor
theorem zA2{p:Prop}(h:p:=by simp only [maxLen];omega):p:=h
theorem zBc{p:Prop}(h:p:=by simp only;omega):p:=h
theorem zEL{p:Prop}(h:p:=by
 have:=hc 0 _ rfl
 simp only [Nat.mul_one,Nat.add_zero] at this
 exact ⟨b,o,e,hb,this⟩):p:=h
theorem wO:(Tryz.prog.info? 3).map (λi=>(i.zero,i.size,i.bytes))=some (some (.int .i64 0),1,8):=zK
open Go.RowKit
set_option maxRecDepth 100000
theorem ahO:(Tryz.prog.info? 53).map (λi=>(i.zero,i.size,i.bytes))=some (some (.agg #[.int .i64 0,.int .i64 0,.int .i64 0]),3,24):=zK
theorem RdS.get {w:World} {B:Nat} {A:Option Addr} {l:List Sn} (h:RdS w B A l) {i:Nat} (hi:i<l.length):
 ∃b o,A=some ⟨b,o,none⟩/\b<B/\w.cell? ⟨b,o+i*3,none⟩=some (.int .i64 l[i].p)/\w.cell? ⟨b,o+i*3+1,none⟩=some (.int .i64 l[i].f)/\w.cell? ⟨b,o+i*3+2,none⟩=some (.int .i64 l[i].t):=by
 obtain ⟨b,o,e,hb,hc⟩:=h.at_ hi
 exact ⟨b,o,e,hb,hc 0 _ rfl,hc 1 _ rfl,hc 2 _ rfl⟩
def iCs (n:Int):List Value:=[.int .i64 n]
theorem yJ (x:Int):(iCs x).length=1:=rfl
theorem acF (x:Int):∀u∈iCs x,u.oneCell'=true:=by simp [iCs,Value.oneCell']
theorem acZ {w:World} {base:Nat} {e:TypeId} {size:Nat} {v:Value} {n m:Nat} {xs ys:List Value} (h:w.ownsRow base e size v n xs) (hn:n=m) (hx:xs=ys):∃A c,v=.slice A m c/\w.ownsRow base e size (.slice A m c) m ys:=by
 subst hn hx
 obtain ⟨hl,h'|⟨g,cap,cur,hv,r⟩⟩:=h
 ·obtain ⟨rfl,rfl⟩:=h'
  exact ⟨none,0,rfl,hl,.inl ⟨rfl,rfl⟩⟩
 ·subst hv
  exact ⟨_,_,rfl,hl,.inr ⟨g,cap,cur,rfl,r⟩⟩
def uo (n:Nat):List Sn->Nat->Int
 |[],_=>-1
 |x::r,k=>if 0<=x.p/\x.p<n then uo n r (k+1) else k
def ac4 (n:Nat) (l:List Sn):Nat × Int:=if uo n l 0=-1 then (0,-1) else (4,uo n l 0)
def delL (p:List Pk) (l:List Sn):List Int:=l.map λx=>x.t - aOf p x.p.toNat
def ak2 (p:List Pk) (l:List Sn):List Int:=if uo p.length l 0=-1 then delL p l else []
theorem auG (p:List Pk) {l:List Sn} {k:Nat} (h:k<l.length):(delL p (l.take k)).flatMap iCs++[l[k].t - aOf p l[k].p.toNat].flatMap iCs=(delL p (l.take (k+1))).flatMap iCs:=by
 unfold delL
 rw [zAN h,List.map_append,List.flatMap_append]
 rfl
def wQ (n:Int):Prop:=-1125899906842624<=n/\n<=1125899906842624
set_option maxHeartbeats 1000000 in
theorem apQ (A A':Option Addr) (c c':Nat) (p:List Pk) (l:List Sn) (S:Nat->Addr) (w:World) (B:Nat) (hB:B<=w.heap.size) (h:RdP w B A p) (h':RdS w B A' l) (hS:Snt w B S [4]) (hl:p.length<=9223372036854775807) (hl':l.length<=4294967296)
 (ht:∀x∈l,wQ x.t) (ha:∀x∈p,wQ x.a):
 Calls Tryz.prog 101 #[.slice A p.length c,.slice A' l.length c'] w (yE iCs 1 3 (ak2 p l) S (ac4 p.length l).1 (ac4 p.length l).2 w):=by
 obtain ⟨i0,hi0,hz0,hz1,hz2⟩:=info_parts wO
 go_enter Tryz.func101,Tryz.ntmps101
 go_wp2
 go_loopw [6,11] (λv i wr=>∃(k:Nat) (A5:Option Addr) (c5:Nat),k<=l.length/\v=.slice A5 k c5/\i=.int .i64 k/\wr.ownsRow w.heap.size 3 1 (.slice A5 k c5) k ((delL p (l.take k)).flatMap iCs)/\uo p.length l 0=uo p.length (l.drop k) k/\Below w.heap.size w wr) (λ_ i _=>l.length - (intOf i).toNat)
 case atStart=>exact ⟨0,none,0,zAK _,rfl,rfl,⟨by simp [delL],.inl ⟨rfl,by simp [delL]⟩⟩,rfl,zAA _ _⟩
 case round=>
  obtain ⟨k,A5,c5,hk,rfl,rfl,row,hbad,hbw⟩:=hrel
  have hz:=hbw.size
  by_cases hlt:k<l.length
  ·obtain ⟨b,o,rfl,hb,d0,d1,d2⟩:=RdS.get (h'.below (hbw.mono hB)) hlt
   rw [zAE hlt] at hbad
   have q1:(k:Int)<(l.length:Int):=zO
   have q2:(0:Int)<=(k:Int):=zO
   by_cases hx:0<=l[k].p/\l[k].p<p.length
   ·have Hbad:=zM (uo p.length l 0=uo p.length (l.drop (k+1)) (k+1)) (by rw [hbad];exact zp hx)
    obtain ⟨n,hn⟩:∃n:Nat,l[k].p=n:=⟨l[k].p.toNat,by omega⟩
    have hnl:n<p.length:=zO
    obtain ⟨b1,o1,rfl,hb1,e0,e1,e2⟩:=RdP.get (h.below (hbw.mono hB)) hnl
    have t1:=ht _ (zd hlt)
    have t2:=ha _ (zd hnl)
    unfold wQ at t1 t2
    obtain ⟨t3,t4⟩:=t1
    obtain ⟨t5,t6⟩:=t2
    rw [hn] at d0
    have Hd:=zM (l[k].t - aOf p l[k].p.toNat=IntKind.i64.wrap (l[k].t - p[n].a)) (by rw [hn,zAX,zy hnl,IntKind.wrap_i64];omega)
    have Hrow:=zL row
    have q3:(0:Int)<=(n:Int):=zO
    have q4:(n:Int)<(p.length:Int):=zO
    clear hbad hx hn row
    have Hrow2:=(Hrow.o.alloc (.cells #[.int .i64 n,.int .i64 l[k].f,.int .i64 l[k].t] 64)).alloc (.cells #[.int .i64 (IntKind.i64.wrap (l[k].t - p[n].a))] 3)
    have hnew:Rd ((wr.alloc (.cells #[.int .i64 n,.int .i64 l[k].f,.int .i64 l[k].t] 64)).alloc (.cells #[.int .i64 (IntKind.i64.wrap (l[k].t - p[n].a))] 3)) (wr.heap.size+2) 1 iCs (some ⟨wr.heap.size+1,0,none⟩) [IntKind.i64.wrap (l[k].t - p[n].a)]:=Rd.of_block (qN _ _ _) rfl (Nat.lt_succ_self _) Nat.one_pos yJ
    have e2':(wr.alloc (.cells #[.int .i64 n,.int .i64 l[k].f,.int .i64 l[k].t] 64)).cell? ⟨b1,o1+n*3+2,none⟩=some (.int .i64 p[n].a):=(((zAA wr.heap.size wr).alloc (zD _) _).cell (p:=⟨b1,o1+n*3+2,none⟩) zBc).trans e2
    have hq5:k+1<=maxLen:=zA2
    have hq6:(k+1)*8<=140737488355328:=zO
    have hq7:w.heap.size<=((wr.alloc (.cells #[.int .i64 n,.int .i64 l[k].f,.int .i64 l[k].t] 64)).alloc (.cells #[.int .i64 (IntKind.i64.wrap (l[k].t - p[n].a))] 3)).heap.size:=zA7
    go_wp2_with fail
    go_region_law (refine yx _ iCs rfl (.tmp 31) (.tmp 41) 27 rfl w.heap.size 3 i0 (.int .i64 0) 1 8 Tryz.underlying27 hi0 hz0 hz1 hz2 rfl Nat.one_pos yJ acF (.slice A5 k c5) k ((delL p (l.take k)).flatMap iCs) rfl Hrow2 (wr.heap.size+2) (some ⟨wr.heap.size+1,0,none⟩) 1 [IntKind.i64.wrap (l[k].t - p[n].a)] rfl hnew hq5 hq6 hq7 ?_;intro v3 w3 row3 g3 at3)
    all_goals
     obtain ⟨A6,c6,hv6,row6⟩:=acZ (ys:=(delL p (l.take (k+1))).flatMap iCs) row3 rfl (by rw [<-Hd.o];exact auG p hlt)
     rw [hv6]
     clear hv6 row3
     have k3:=ql (((zAA w.heap.size wr).alloc hz (.cells #[.int .i64 n,.int .i64 l[k].f,.int .i64 l[k].t] 64)).alloc zA7 (.cells #[.int .i64 (IntKind.i64.wrap (l[k].t - p[n].a))] 3)).drew Hrow2.drew g3 (zD _) hq7
     go_wp2_with fail
     go_roundw
     case rel=>exact ⟨k+1,A6,c6,hlt,by go_num,by go_num,row6,Hbad.o,hbw.trans k3⟩
     case measure=>simp [intOf];omega
   ·have Hb:=zM (uo p.length l 0=k) zCq
    have Ho:=zM (ak2 p l=[]) (z6 (by rw [Hb.o];omega))
    have He:=zM (ac4 p.length l=(4,(k:Int))) (by unfold ac4;rw [z6 (by rw [Hb.o];omega),Hb.o])
    have hx2:l[k].p<0\/(0<=l[k].p/\(p.length:Int)<=l[k].p):=zO
    have g4:wr.cell? ⟨G 4,0,none⟩=some (sv S 4):=((hS.below (hbw.mono hB)) 4 zA1).2.2
    have l4:=zAU wr _ g4
    simp only [G,sv] at g4 l4
    clear hbad hx row
    rcases hx2 with hx|⟨hx,hx'⟩
    all_goals
     go_wp2_with fail
     go_region
     all_goals
      go_wp2_with fail
      go_ret2
      rw [Ho.o,He.o]
      exact ⟨none,0,_,rfl,⟨by simp,.inl ⟨rfl,rfl⟩⟩,.fault 4 zO zO _ _ zA1 (qN _ _ _),((hbw.alloc hz _).alloc zA7 _).drew⟩
  ·rw [zAO zO] at hbad
   have hk2:k=l.length:=zO
   subst hk2
   rw [List.take_length] at row
   have Ho:=zM (ak2 p l=delL p l) (zp hbad)
   have He:=zM (ac4 p.length l=(0,-1)) (zp hbad)
   have Hl:=zM ((delL p l).length=l.length) (by simp [delL])
   have Hrow:=zL row
   clear hbad row
   go_wp2_with fail
   go_ret2
   rw [He.o,Ho.o]
   refine ⟨A5,c5,.nilIface,?_,by rw [Hl.o];exact Hrow.o,.nil,hbw⟩
   rw [Hl.o]
   rfl
theorem RdI.get {w:World} {B:Nat} {A:Option Addr} {l:List Int} (h:RdI w B A l) {i:Nat} (hi:i<l.length):∃b o,A=some ⟨b,o,none⟩/\b<B/\w.cell? ⟨b,o+i,none⟩=some (.int .i64 l[i]):=by
 obtain ⟨b,o,e,hb,hc⟩:=h.at_ hi
 exact zEL
theorem ayJ {α:Type} {a b:List α} {k:Nat} (h1:k<a.length) (h2:k<b.length) (h:a[k]≠b[k]):a≠b:=λe=>by subst e;exact h rfl
theorem arY {α:Type} {a b:List α} {k:Nat} (ht:a.take k=b.take k) (h1:k<a.length) (h2:k<b.length) (h:a[k]=b[k]):a.take (k+1)=b.take (k+1):=by
 rw [zAN h1,zAN h2,ht,h]
end Go.Proofs.YtoomffajodheaaaGreatDoor
