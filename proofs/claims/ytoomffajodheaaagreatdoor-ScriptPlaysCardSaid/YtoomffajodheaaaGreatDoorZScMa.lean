/- The proof of ScriptPlays, part ScMa. Conditions: in each statement. -/
import Derived.Test.YtoomffajodheaaaGreatDoorZScPl
import Derived.Laws.CopyOwn
set_option linter.all false
namespace Go.Proofs.YtoomffajodheaaaGreatDoor
open Go.RowKit
set_option maxRecDepth 100000
theorem zB7{p:Prop}(h:p:=by rw [hw4];exact setRow_heap wr.drew g _ _ _ _ hg9):p:=h
theorem zCA{p:Prop}(h:p:=by rw [hw4];exact below_setRow HB.o.drew (zD _) _):p:=h
theorem zC1{p:Prop}(h:p:=by rw [hi1];simp [hy1]):p:=h
theorem zDv{p:Prop}(h:p:=by
 clear hnw h7
 go_enter Tryz.func37,Tryz.ntmps37
 go_wp2_with fail
 refine (HA.o).mono ?_
 rintro e w1 ⟨rfl,hw1⟩
 have k1:Below w.heap.size w w1:=by
  rcases hw1 with rfl|⟨t,rfl⟩
  ·exact zAA _ _
  ·exact Lib.bytesWorld_below _ _ _
 have K1:=zL k1
 clear hw1 k1 HA
 go_wp2_with fail
 go_ret2
 rw [HB.o]
 exact ⟨⟨v,rfl,λn hn=>by cases hn⟩,K1.o⟩):p:=h
theorem zDy{p:Prop}(h:p:=by
 go_wp2_with fail
 go_region
 all_goals
  go_wp2_with fail
  go_ret2
  rw [HR.o]
  exact ⟨_,_,_,rfl,.bare 1 zO zO,λh9=>zAv h9 zA1,HM.o.but ((zAA _ _).drew),But.of_below ((zAA _ _).drew)⟩):p:=h
theorem zEN{p:Prop}(h:p:=by
 clear ha
 go_enter Tryz.func37,Tryz.ntmps37
 go_wp2_with fail
 refine (HA.o).mono ?_
 rintro e w1 ⟨N,rfl,-,-,k1⟩
 clear HA
 go_wp2_with fail
 go_ret2
 rw [HB.o]
 exact ⟨⟨_,rfl,λn hn=>by cases hn⟩,k1⟩):p:=h
theorem zET{p:Prop}(h:p:=by
 injection hv with hv
 subst hv
 have:=aeW hg9 zO hj
 rw [jK,Nat.zero_add]
 exact this):p:=h
theorem zEU{p:Prop}(h:p:=by
 go_wp2_with fail
 refine (akK _ _).mono ?_
 rintro e w3 ⟨rfl,rfl⟩
 go_wp2_with fail
 go_ret2
 rw [HR.o]
 exact ⟨okT,_,_,rfl,HV.o,λh9=>zAv h9 HG.o,HM.o.but K1.o,But.of_below K1.o⟩):p:=h
theorem zEW{p:Prop}(h:p:=by
 go_wp2_with fail
 go_ret2
 rw [HR.o]
 exact ⟨okT,.nilIface,-1,rfl,.nil,λ_=>rfl,HPM.o,HB2.o⟩):p:=h
theorem zE8{p:Prop}(h:p:=by
 go_wp2_with fail
 go_ret2
 rw [HR.o]
 exact ⟨t,v,a,rfl,HV.o,HT.o,HP.o,(But.of_below BX2.o).trans HB3.o⟩):p:=h
theorem a0X:Tryz.prog.globalNamed "internal/strconv.uint64pow10"=some 15:=zK
structure SX (w:World) (B:Nat) (S:Nat->Addr):Prop where
 gs:GS w B S
 s1:Snt w B S [1]
 tx:∀k∈[1,2,3,4,5,9],w.cell? (S k)=some (.string (abN k))
 tb:15<B
 tab:Lib.TabIs Tryz.prog w "internal/strconv.uint64pow10" .u64 Lib.pow10Tab
 mxB:10<B
 mx:∃m,w.cell? ⟨10,0,none⟩=some (.int .i64 m)
 e1B:11<B
 e1:∃te pe,w.cell? ⟨11,0,none⟩=some (.iface te pe)
 e2B:12<B
 e2:∃te pe,w.cell? ⟨12,0,none⟩=some (.iface te pe)
theorem SX.sB {w:World} {B:Nat} {S:Nat->Addr} (h:SX w B S) {k:Nat} (hk:k∈[1,2,3,4,5,9]):(S k).block<B:=by
 by_cases h1:k=1
 ·subst h1;exact (h.s1 1 zA1).2.1
 ·exact (h.gs.s k (by simp at hk ⊢;omega)).2.1
theorem SX.below {w w':World} {B:Nat} {S:Nat->Addr} (h:SX w B S) (hb:Below B w w'):SX w' B S where
 gs:=h.gs.below hb
 s1:=h.s1.below hb
 tx:=λk hk=>(hb.cell (h.sB hk)).trans (h.tx k hk)
 tb:=h.tb
 tab:=var?_below hb a0X h.tb h.tab
 mxB:=h.mxB
 mx:=by obtain ⟨m,hm⟩:=h.mx;exact ⟨m,(hb.cell (p:=⟨10,0,none⟩) h.mxB).trans hm⟩
 e1B:=h.e1B
 e1:=by obtain ⟨a,b,hm⟩:=h.e1;exact ⟨a,b,(hb.cell (p:=⟨11,0,none⟩) h.e1B).trans hm⟩
 e2B:=h.e2B
 e2:=by obtain ⟨a,b,hm⟩:=h.e2;exact ⟨a,b,(hb.cell (p:=⟨12,0,none⟩) h.e2B).trans hm⟩
def ul (F:Nat->Prop) (pb:Nat) (A:Option Addr):Prop:=∀b o,A=some ⟨b,o,none⟩->b≠pb/\¬F b
theorem ul.none_ (F:Nat->Prop) (pb:Nat):ul F pb none:=λb o h=>by cases h
theorem Rd.but {F:Nat->Prop} {α:Type} {w w':World} {pb size:Nat} {f:α->List Value} {A:Option Addr} {l:List α} (h:Rd w w.heap.size size f A l) (hb:But pb w w') (hn:0<l.length->ul F pb A):Rd w' w'.heap.size size f A l:=λh0=>by
 obtain ⟨b,o,e,hlt,hc⟩:=h h0
 refine ⟨b,o,e,zAG hlt hb.size,λi x hx q v hv=>?_⟩
 rw [<-hc i x hx q v hv]
 unfold World.cell?
 simp only [hb.blk b hlt (hn h0 b o e).1]
def ak6 (F:Nat->Prop) (w:World) (pb:Nat) (A:Option Addr) (cs:List (List Ln)):Prop:=ul F pb A/\∀i (h:i<cs.length),∃b o a c,A=some ⟨b,o,none⟩/\b<w.heap.size/\w.cell? ⟨b,o+i,none⟩=some (.slice a cs[i].length c)/\RdL w w.heap.size a cs[i]/\(0<cs[i].length->ul F pb a)
theorem ak6.ll {F:Nat->Prop} {w:World} {pb:Nat} {A:Option Addr} {cs:List (List Ln)} (h:ak6 F w pb A cs):abF w w.heap.size A cs:=λi hi=>by
 obtain ⟨b,o,a,c,e,h1,h2,h3,h4⟩:=h.2 i hi
 exact ⟨b,o,a,c,e,h1,h2,h3⟩
theorem ak6.but {F:Nat->Prop} {w w':World} {pb:Nat} {A:Option Addr} {cs:List (List Ln)} (h:ak6 F w pb A cs) (hb:But pb w w'):ak6 F w' pb A cs:=⟨h.1,λi hi=>by
 obtain ⟨b,o,a,c,e,h1,h2,h3,h4⟩:=h.2 i hi
 refine ⟨b,o,a,c,e,zAG h1 hb.size,?_,Rd.but h3 hb h4,h4⟩
 rw [<-h2]
 unfold World.cell?
 simp only [hb.blk b h1 (h.1 b o e).1]⟩
def jD (F:Nat->Prop) (w:World) (pb:Nat) (s:Sc):Prop:=∃Ac cc An cn Ap cp,Blk w pb 68 #[.slice Ac s.cs.length cc,.string s.K,.int .i64 s.per,.slice An s.ns.length cn,.slice Ap s.p.length cp]/\s.cs.length<=cc/\ak6 F w pb Ac s.cs/\RdI w w.heap.size An s.ns/\(0<s.ns.length->ul F pb An)/\RdP w w.heap.size Ap s.p/\(0<s.p.length->ul F pb Ap)
def aeK (F:Nat->Prop) (pb:Nat) (S:Nat->Addr) (r:Rs) (w:World) (e:Ending) (w':World):Prop:=
 ∃t v a,e=.returned (.tuple #[.string t,v])/\Er w' w'.heap.size S v r.1.1 a/\(r.1.1=0->t=r.1.2)/\jD F w' pb r.2/\But pb w w'
theorem jD.but {F:Nat->Prop} {w w':World} {pb:Nat} {s:Sc} (h:jD F w pb s) (hb:Below w.heap.size w w'):jD F w' pb s:=by
 obtain ⟨Ac,cc,An,cn,Ap,cp,h1,h2,h3,h4,h5,h6,h7⟩:=h
 have hb':But pb w w':=But.of_below hb
 exact ⟨Ac,cc,An,cn,Ap,cp,h1.below hb h1.lt,h2,h3.but hb',Rd.but h4 hb' h5,h5,Rd.but h6 hb' h7,h7⟩
theorem But.set1 {g:Nat} (w:World) (i:Nat) (u:Value):But g w (w.setCell ⟨g,i,none⟩ u):=(But.refl g w).qi i u
theorem SX.but {w w':World} {B pb:Nat} {S:Nat->Addr} (h:SX w B S) (hb:But pb w w') (hp:B<=pb) (hB:B<=w.heap.size):SX w' B S:=h.below (hb.below hp hB)
theorem kJ {F:Nat->Prop} {w:World} {base pb:Nat} {e:TypeId} {sz n:Nat} {A:Option Addr} {c:Nat} {xs:List Value} (h:w.ownsRow base e sz (.slice A n c) n xs) (hb:pb<base) (hF:∀b,F b->b<base):ul F pb A:=λb o e2=>by
 subst e2
 have h9:=hF b
 have:=zH h b zBO
 exact ⟨by omega,λh8=>by have:=h9 h8;omega⟩
theorem jA (w:World) (k:Nat) (os:Array Obj):Below w.heap.size w (Go.Sort.grow (w.drewN k) os):=by
 refine ⟨rfl,rfl,rfl,?_,λj hj=>?_⟩
 ·unfold Go.Sort.grow;simp [World.drewN]
 ·unfold Go.Sort.grow
  simp only [World.drewN]
  rw [Array.getElem?_append_left hj]
def a19 (o:Option Int) (w:World) (e:Ending) (w':World):Prop:=(∃m:Int,e=.returned (.tuple #[.int .i64 m,.bool o.isSome])/\∀n,o=some n->m=n)/\Below w.heap.size w w'
set_option maxHeartbeats 4000000 in
theorem ahF (s:ByteArray) (S:Nat->Addr) (w:World) (B:Nat) (hB:B<=w.heap.size) (hS:SX w B S) (hs:s.size<=281474976710656):
 Calls Tryz.prog 37 #[.string s] w (a19 (numW s.data.toList) w):=by
 cases ha:Lib.atoiAll s.data.toList with
 |ok v=>
  have HA:=zL (Tryz.strconv_Atoi_ok s zO v ha w)
  obtain ⟨v0,v1⟩:=Lib.atoiAll_bounds ha
  have hnw:numW s.data.toList=if s.data.toList.length<=7/\0<=v/\Lib.itoa v=s.data.toList then some v else none:=by unfold numW;rw [ha]
  have hsz:s.data.toList.length=s.size:=Array.length_toList
  rw [hsz] at hnw
  clear ha hsz
  by_cases h7:s.size<=7
  ·by_cases hv:0<=v
   ·have HB:=zL (show (numW s.data.toList).isSome=(Lib.itoa v==s.toList) by
     rw [hnw,ByteArray.toList_eq]
     by_cases h9:Lib.itoa v=s.data.toList
     ·rw [zp ⟨h7,hv,h9⟩,h9,beq_self_eq_true];rfl
     ·rw [z6 (λh8=>h9 h8.2.2),beq_eq_false_iff_ne.2 h9];rfl)
    have HN:=zL (show ∀n,numW s.data.toList=some n->v=n from λn hn=>by
     rw [hnw] at hn
     split at hn
     ·injection hn
     ·cases hn)
    have u7:(s.size:Int)<=7:=zO
    clear hnw h7
    go_enter Tryz.func37,Tryz.ntmps37
    go_wp2_with fail
    refine (HA.o).mono ?_
    rintro e w1 ⟨rfl,hw1⟩
    have k1:Below w.heap.size w w1:=by
     rcases hw1 with rfl|⟨t,rfl⟩
     ·exact zAA _ _
     ·exact Lib.bytesWorld_below _ _ _
    have K1:=zL k1
    clear hw1 k1 HA
    go_wp2_with fail
    refine (Tryz.strconv_Itoa v v0 v1 w1 (hS.below (K1.o.mono hB)).tab).mono ?_
    rintro e w2 ⟨rfl,k,os,rfl⟩
    go_wp2_with fail
    go_ret2
    refine ⟨⟨v,by rw [HB.o];rfl,HN.o⟩,K1.o.trans ((jA w1 k os).mono K1.o.size)⟩
   ·have HB:=zM (numW s.data.toList=none) (by rw [hnw,z6 (λh9=>hv h9.2.1)])
    have u7:(s.size:Int)<=7:=zO
    exact zDv
  ·have HB:=zM (numW s.data.toList=none) (by rw [hnw,z6 (λh9=>h7 h9.1)])
   have u7:¬(s.size:Int)<=7:=zO
   exact zDv
 |range=>
  have HB:=zM (numW s.data.toList=none) (by unfold numW;rw [ha])
  obtain ⟨te,pe,he⟩:=hS.e2
  have HA:=zL (Tryz.strconv_Atoi_range s hs ha _ w he (.inr ⟨te,pe,rfl⟩))
  exact zEN
 |_=>
  have HB:=zM (numW s.data.toList=none) (by unfold numW;rw [ha])
  obtain ⟨te,pe,he⟩:=hS.e1
  have HA:=zL (Any.strconv_Atoi_syntax Tryz.ahM s hs ha _ w he (.inr ⟨te,pe,rfl⟩))
  exact zEN
def bCs (s:ByteArray):List Value:=[.string s]
theorem uq (s:ByteArray):(bCs s).length=1:=rfl
theorem aeF (s:ByteArray):∀u∈bCs s,u.oneCell'=true:=by simp [bCs,Value.oneCell']
def RdB (w:World) (B:Nat) (A:Option Addr) (l:List ByteArray):Prop:=Rd w B 1 bCs A l
theorem RdB.get {w:World} {B:Nat} {A:Option Addr} {l:List ByteArray} (h:RdB w B A l) {i:Nat} (hi:i<l.length):∃b o,A=some ⟨b,o,none⟩/\b<B/\w.cell? ⟨b,o+i,none⟩=some (.string l[i]):=by
 obtain ⟨b,o,e,hb,hc⟩:=h (Nat.lt_of_le_of_lt (zAK _) hi)
 refine ⟨b,o,e,hb,?_⟩
 have:=hc i l[i] (zAR hi) 0 _ rfl
 simpa using this
theorem RdB.below {w w':World} {B:Nat} {A:Option Addr} {l:List ByteArray} (h:RdB w B A l) (hb:Below B w w'):RdB w' B A l:=Rd.below h hb
def a0M (o:Option (List Int)) (w:World) (e:Ending) (w':World):Prop:=∃A c n,e=.returned (.tuple #[.slice A n c,.bool o.isSome])/\(∀l,o=some l->n=l.length/\w'.ownsRow w.heap.size 3 1 (.slice A n c) n (l.flatMap iCs))/\Below w.heap.size w w'
theorem aoU {ws pre:List ByteArray} {l:List Int} (h:numsW pre=some l):numsW (pre++ws)=(numsW ws).map (l++ ·):=by
 induction pre generalizing l with
 |nil=>
  simp only [numsW,zAC] at h
  subst h
  rw [zAa]
  cases numsW ws<;>rfl
 |cons w r ih=>
  unfold numsW at h
  show (match numW w.data.toList with
   |none=>none
   |some n=>match numsW (r++ws) with
    |none=>none
    |some l=>some (n::l))=_
  split at h
  ·cases h
  ·rename_i x hx
   split at h
   ·cases h
   ·rename_i l' hl
    injection h with h
    subst h
    rw [hx]
    simp only
    rw [ih hl]
    cases numsW ws<;>rfl
theorem aoS {ws:List ByteArray} {k:Nat} (hk:k<ws.length) {l:List Int} (h:numsW (ws.take k)=some l):numsW (ws.take (k+1))=(match numW ws[k].data.toList with
 |none=>none
 |some n=>some (l++[n])):=by
 rw [zAN hk,aoU h]
 show ((match numW ws[k].data.toList with
  |none=>none
  |some n=>match numsW [] with
   |none=>none
   |some l=>some (n::l))).map (l++ ·)=_
 cases numW ws[k].data.toList<;>rfl
theorem aoT {ws:List ByteArray} {k:Nat} (h:numsW (ws.take k)=none):numsW ws=none:=by
 rw [<-List.take_append_drop k ws]
 generalize ws.take k=a at h
 induction a with
 |nil=>simp [numsW] at h
 |cons w r ih=>
  unfold numsW at h
  show (match numW w.data.toList with
   |none=>none
   |some n=>match numsW (r++ws.drop k) with
    |none=>none
    |some l=>some (n::l))=none
  split at h
  ·rename_i hx;rw [hx]
  ·rename_i x hx
   rw [hx]
   simp only
   split at h
   ·rename_i hl;rw [ih hl]
   ·cases h
set_option maxHeartbeats 4000000 in
theorem afY (A:Option Addr) (c:Nat) (ws:List ByteArray) (S:Nat->Addr) (w:World) (B:Nat) (hB:B<=w.heap.size) (hS:SX w B S) (h:RdB w w.heap.size A ws) (hl:ws.length<=1000000) (hs:∀x∈ws,x.size<=281474976710656):
 Calls Tryz.prog 40 #[.slice A ws.length c] w (a0M (numsW ws) w):=by
 obtain ⟨i1,hi1,hy0,hy1,hy2⟩:=info_parts wO
 have HSS:=zL hs
 clear hs
 go_enter Tryz.func40,Tryz.ntmps40
 go_wp2_with fail
 go_loopw [2,10] (λov iv wr=>∃(k:Nat) (l:List Int) (A1:Option Addr) (c1:Nat),k<=ws.length/\ov=.slice A1 l.length c1/\iv=.int .i64 k/\numsW (ws.take k)=some l/\l.length=k/\wr.ownsRow w.heap.size 3 1 (.slice A1 l.length c1) l.length (l.flatMap iCs)/\Below w.heap.size w wr) (λ_ iv _=>ws.length - (intOf iv).toNat)
 case atStart=>exact ⟨0,[],none,0,zAK _,rfl,rfl,rfl,rfl,⟨by simp,.inl ⟨rfl,rfl⟩⟩,zAA _ _⟩
 case round=>
  obtain ⟨k,l,A1,c1,hk,rfl,rfl,hn,hlk,row,hbw⟩:=hrel
  have HN:=zL hn
  have HLK:=zL hlk
  have ROW:=zL row
  have zw:=hbw.size
  have hl3:l.length<=1000000:=zO
  clear hn row hlk
  by_cases hlt:k<ws.length
  ·obtain ⟨b,o,rfl,hb,d0⟩:=RdB.get (h.below hbw) hlt
   obtain ⟨s,hse⟩:∃s,s=ws[k]:=⟨_,rfl⟩
   have hsz:=HSS.o ws[k] (zd hlt)
   have hst:=aoS hlt HN.o
   rw [<-hse] at d0 hsz hst
   have HST:=zL hst
   have HNB:=zL (ahF s S wr B (zAB hB zw) (hS.below (hbw.mono hB)) hsz)
   have q1:(0:Int)<=(k:Int):=zO
   have q2:(k:Int)<(ws.length:Int):=zO
   clear hse hst hsz
   cases hnw:numW s.data.toList with
   |none=>
    have HR:=zM (numsW ws=none) (aoT (k:=k+1) (by rw [HST.o,hnw]))
    rw [hnw] at HNB
    clear hnw
    go_wp2_with fail
    refine (HNB.o).mono ?_
    rintro e w1 ⟨⟨m,rfl,-⟩,k1⟩
    have hbf:(none:Option Int).isSome=false:=rfl
    rw [hbf]
    clear hbf d0
    go_wp2_with fail
    go_ret2
    rw [HR.o]
    exact ⟨none,0,0,rfl,(λl hl=>by cases hl),hbw.trans (k1.mono zw)⟩
   |some n=>
    rw [hnw] at HNB HST
    clear hnw
    go_wp2_with fail
    refine (HNB.o).mono ?_
    rintro e w1 ⟨⟨m,rfl,hm⟩,k1⟩
    obtain rfl:=hm n rfl
    have hbf:(some m:Option Int).isSome=true:=rfl
    rw [hbf]
    have k1':=hbw.trans (k1.mono zw)
    have ROW1:=zL (own_below ROW.o k1 (zD _))
    have z1:w.heap.size<=w1.heap.size:=k1'.size
    have M1:=zM (l.length+[m].length<=maxLen) zA8
    have M2:=zM ((l.length+[m].length)*8<=140737488355328) zBF
    have HNW:=zM (Rd (w1.alloc (.cells #[.int .i64 m] 3)) (w1.heap.size+1) 1 iCs (some ⟨w1.heap.size,0,none⟩) [m]) (Rd.zU rfl zO yJ)
    clear hbf d0 hm HNB
    go_wp2_with (at_builtin;refine qd _ iCs rfl (.tmp 21) (.tmp 23) 27 rfl w.heap.size 3 i1 (.int .i64 0) 1 8 Tryz.underlying27 hi1 hy0 hy1 hy2 rfl zO yJ acF (.slice A1 l.length c1) l.length (l.flatMap iCs) rfl (ROW1.o.alloc _) (w1.heap.size+1) (some ⟨w1.heap.size,0,none⟩) 1 [m] rfl HNW.o M1.o M2.o (qG z1 _) ?_;intro v4 w4 row4 g4 at4;obtain ⟨A6,c6,hv6,row5⟩:=qI row4 zO;subst hv6;have ROW4:=zL row5;have k4:=ql (k1'.alloc z1 _) (ROW1.o.alloc _) g4 (zD _) (qG z1 _);clear row4 row5 at4)
    have HL4:=zM ((l++[m]).length=k+1) (by rw [zAP,HLK.o];rfl)
    go_roundw
    case rel=>exact ⟨k+1,l++[m],A6,c6,hlt,by first |rfl|simp,by go_num,HST.o,HL4.o,ROW4.o,k4⟩
    case measure=>simp [intOf];omega
  ·obtain rfl:k=ws.length:=by omega
   have HR:=zM (numsW ws=some l) (by have:=HN.o;rwa [List.take_length] at this)
   go_wp2_with fail
   go_ret2
   rw [HR.o]
   exact ⟨A1,c1,l.length,rfl,(λl' hl'=>by injection hl' with hl';subst hl';exact ⟨rfl,ROW.o⟩),hbw⟩
theorem akK (v:Value) (w:World):Calls Tryz.prog 94 #[v] w λe w'=>e=.returned (.tuple #[.string okT,v])/\w'=w:=by
 go_enter Tryz.func94,Tryz.ntmps94
 go_wp2_with fail
 go_ret2
 exact ⟨rfl,rfl⟩
section
variable (F:Nat->Prop) (pb:Nat) (s:Sc) (S:Nat->Addr) (w:World) (B:Nat) (hpB:B<=pb) (hB:B<=w.heap.size) (hS:SX w B S) (hm:jD F w pb s) (hF:∀b,F b->b<w.heap.size)
include hpB hB hS hm hF
set_option maxHeartbeats 4000000 in
theorem ac8 (Ac An:Option Addr) (cc cn:Nat) (cs:List (List Ln)) (K:ByteArray) (per:Int) (ns:List Int) (hcc:cs.length<=cc) (hcs:ak6 F w pb Ac cs) (hns:RdI w w.heap.size An ns) (hnb:0<ns.length->ul F pb An) (hl:∀l∈cs,l.length<=9223372036854775807) (hl':ns.length<=9223372036854775807):
 Calls Tryz.prog 67 #[.pointer (some ⟨pb,0,none⟩),.agg #[.slice Ac cs.length cc,.string K,.int .i64 per,.slice An ns.length cn]] w (aeK F pb S (yC s ⟨cs,K,per,ns,s.p⟩) w):=by
 have bW:Below w.heap.size w (w.alloc (.cells #[.slice Ac cs.length cc,.string K,.int .i64 per,.slice An ns.length cn] 66)):=(zAA _ _).alloc (zD _) _
 have xW:Blk (w.alloc (.cells #[.slice Ac cs.length cc,.string K,.int .i64 per,.slice An ns.length cn] 66)) w.heap.size 66 #[.slice Ac cs.length cc,.string K,.int .i64 per,.slice An ns.length cn]:=Blk.new _ _ _
 have HCK:=zL (uZ Ac An cc cn cs K per ns S _ w.heap.size bW.size (hcs.ll.below bW) (Rd.below hns bW) ((hS.gs.more hB).below bW) hl hl')
 have BW:=zL bW
 have XW:=zL xW
 have HM:=zL hm
 have _hp:=hpB
 clear _hp
 have HF:=zL hF
 clear hF
 have HC:=zL hcs
 have HNS:=zL hns
 clear bW xW hcs hns
 by_cases hg:(qF cs (qg K) per ns).1=0
 ·have HR:=zM (yC s ⟨cs,K,per,ns,s.p⟩=((0,okT),⟨cs,K,per,ns,s.p⟩)) (zp hg)
  have HG:=zL hg
  clear hg
  go_enter Tryz.func67,Tryz.ntmps67
  go_wp2_with fail
  refine (HCK.o).mono ?_
  rintro e w1 ⟨v,rfl,hv,k1⟩
  obtain rfl:=hv.qK HG.o
  have k1':=BW.o.trans (k1.mono BW.o.size)
  have x1:=XW.o.below k1 XW.o.lt
  have c0:=x1.cell 0
  have c1:=x1.cell 1
  have c2:=x1.cell 2
  have c3:=x1.cell 3
  simp only [zc,zE,zj] at c0 c1 c2 c3
  obtain ⟨Ac0,cc0,An0,cn0,Ap,cp,h1,-,-,-,-,h6,h7⟩:=HM.o.but k1'
  have d0:=h1.cell 0
  have d1:=h1.cell 1
  have d2:=h1.cell 2
  have d3:=h1.cell 3
  have z0:=h1.frozen 0
  have z1:=h1.frozen 1
  have z2:=h1.frozen 2
  have z3:=h1.frozen 3
  simp only [zc,zE,zj] at d0 d1 d2 d3
  have hb2:But pb w ((((w1.setCell ⟨pb,0,none⟩ (.slice Ac cs.length cc)).setCell ⟨pb,1,none⟩ (.string K)).setCell ⟨pb,2,none⟩ (.int .i64 per)).setCell ⟨pb,3,none⟩ (.slice An ns.length cn)):=((((But.of_below (g:=pb) k1').qi 0 _).qi 1 _).qi 2 _).qi 3 _
  have hb1:But pb w1 ((((w1.setCell ⟨pb,0,none⟩ (.slice Ac cs.length cc)).setCell ⟨pb,1,none⟩ (.string K)).setCell ⟨pb,2,none⟩ (.int .i64 per)).setCell ⟨pb,3,none⟩ (.slice An ns.length cn)):=((((But.refl pb w1).qi 0 _).qi 1 _).qi 2 _).qi 3 _
  have HPM:=zM (jD F ((((w1.setCell ⟨pb,0,none⟩ (.slice Ac cs.length cc)).setCell ⟨pb,1,none⟩ (.string K)).setCell ⟨pb,2,none⟩ (.int .i64 per)).setCell ⟨pb,3,none⟩ (.slice An ns.length cn)) pb ⟨cs,K,per,ns,s.p⟩) (⟨Ac,cc,An,cn,Ap,cp,(((h1.qi 0 _).qi 1 _).qi 2 _).qi 3 _,hcc,HC.o.but hb2,Rd.but HNS.o hb2 hnb,hnb,Rd.but h6 hb1 h7,h7⟩)
  have HB2:=zL hb2
  clear hv k1 k1' x1 h1 h6 h7 hb2 hb1 HCK
  go_wp2_with fail
  refine (akK _ _).mono ?_
  rintro e w3 ⟨rfl,rfl⟩
  clear c0 c1 c2 c3 d0 d1 d2 d3 z0 z1 z2 z3
  exact zEW
 ·have HR:=zM (yC s ⟨cs,K,per,ns,s.p⟩=(((qF cs (qg K) per ns).1,okT),s)) (z6 hg)
  have HG:=zL hg
  clear hg
  go_enter Tryz.func67,Tryz.ntmps67
  go_wp2_with fail
  refine (HCK.o).mono ?_
  rintro e w1 ⟨v,rfl,hv,k1⟩
  have HV:=zL hv
  obtain ⟨T,ad,rfl⟩:=hv.qW HG.o
  have K1:=zL (BW.o.trans (k1.mono BW.o.size))
  clear hv k1 HCK
  exact zEU
end
def row8 (n:Nat):List Value:=List.replicate n (.int .i64 1)++List.replicate (8 - n) (.int .i64 0)
theorem avQ {w2:World} {base:Nat} {xs:List Value} (h:w2.ownsRow base 3 1 (.slice (some ⟨base,0,none⟩) 8 8) 8 xs) (hx:xs=List.replicate 8 (.int .i64 0)):w2.heap[base]?=some (.cells (row8 0).toArray 3 (0,0)):=by
 obtain ⟨hl,⟨h1,h2⟩|⟨g,cap,cur,hv,hg,hh,hn,hc,hs,ht⟩⟩:=h
 ·cases h1
 ·simp only [zAp,zAC,zAS,and_true,true_and] at hv
  obtain ⟨rfl,rfl⟩:=hv
  have e:cur=(row8 0).toArray:=by
   rw [hx,Nat.mul_one,zAZ (by rw [Array.length_toList];omega)] at ht
   show cur=(List.replicate 0 (Value.int .i64 1)++List.replicate 8 (Value.int .i64 0)).toArray
   rw [List.replicate_zero,zAa,<-ht]
  rw [<-e]
  exact hh
theorem aeW {w:World} {g n:Nat} (h:w.heap[g]?=some (.cells (row8 n).toArray 3 (0,0))) (hn:n<=8) {j:Nat} (hj:j<n):w.cell? ⟨g,j,none⟩=some (.int .i64 1):=by
 unfold World.cell?
 simp only [h]
 simp only [zc]
 unfold row8
 rw [List.getElem?_append_left (by rw [List.length_replicate];exact hj),List.getElem?_replicate,zp hj]
 rfl
theorem avP {w:World} {base g:Nat} (h:w.heap[g]?=some (.cells (row8 8).toArray 3 (0,0))) (hb:base<=g):w.ownsRow base 3 1 (.slice (some ⟨g,0,none⟩) (List.replicate 8 (1:Int)).length 8) (List.replicate 8 (1:Int)).length ((List.replicate 8 (1:Int)).flatMap iCs):=
 ⟨rfl,.inr ⟨g,8,_,rfl,hb,h,zD _,by simp [maxLen],rfl,rfl⟩⟩
set_option maxHeartbeats 8000000 in
theorem an8 (b:Nat) (w:World) (hb:w.cell? ⟨b,0,none⟩=some (.int .i64 1)) (hbl:b<w.heap.size):
 Calls Tryz.prog 66 #[.slice (some ⟨b,0,none⟩) 1 1,.int .i64 8] w (vI iCs 1 3 (List.replicate 8 1) w):=by
 obtain ⟨i1,hi1,hy0,hy1,hy2⟩:=info_parts wO
 go_enter Tryz.func66,Tryz.ntmps66
 have HMUL:=zL (Tryz.bits_Mul 1 8 zO zO w)
 go_wp2_with fail
 refine (show Calls Tryz.prog 92 #[.int .u64 1,.int .u64 8] w _ from HMUL.o).mono ?_
 rintro e w1 ⟨rfl,rfl⟩
 have e1:((1*8 / 18446744073709551616:Nat):Int)=0:=rfl
 have e2:((1*8 % 18446744073709551616:Nat):Int)=8:=rfl
 rw [e1,e2]
 clear e1 e2 HMUL
 go_upto_region 7 with (at_make;refine wpList_make_full _ rfl (.tmp 29) (.tmp 29) 27 rfl w1.heap.size 3 i1 (.int .i64 0) 1 Tryz.underlying27 hi1 hy0 hy1 .i64 .i64 8 8 8 rfl rfl rfl rfl (by rw [hy2];omega) zA2 (zD _) ?_;intro w2 row2 g2;have hg2:w2.heap[w1.heap.size]?=some (.cells (row8 0).toArray 3 (0,0)):=avQ row2 (intRow_new 8);have k2:Below w1.heap.size w1 w2:=(zAA _ _).grown g2 (zD _) zA1;have hb2:w2.cell? ⟨b,0,none⟩=some (.int .i64 1):=(k2.cell (p:=⟨b,0,none⟩) hbl).trans hb;have H2:=zL hg2;clear row2 g2 hg2)
 obtain ⟨g,hg⟩:∃g,g=w1.heap.size:=⟨_,rfl⟩
 have HGE:=zL hg
 rw [<-hg] at H2 ⊢
 have K2:=zM (Below g w1 w2) (by rw [hg];exact k2)
 have hbg:b<g:=by rw [hg];exact hbl
 have hc2:∀j v,[Value.int .i64 1][j]?=some v->w2.cell? (Addr.add ⟨b,0,none⟩ j)=some v:=λj v hv=>by
  cases j with
  |zero=>simp at hv;subst hv;exact hb2
  |succ j=>simp at hv
 clear hg k2
 obtain ⟨w3,hw3⟩:∃w3,w3=w2.setRow g ((row8 0).toArray.toList.take 0++([Value.int .i64 1]++(row8 0).toArray.toList.drop (0+1))).toArray:=⟨_,rfl⟩
 have hrun:∀ty,(Builtin.copy_ #[27,27] ty #[.slice (some ⟨g,0,none⟩) 8 8,.slice (some ⟨b,0,none⟩) 1 1]).run Tryz.prog w2=.ok (.int .i64 1) w3:=λty=>by
  rw [hw3]
  exact run_copy_row (P:=Tryz.prog) w2 27 27 ty 3 g 0 8 8 ⟨b,0,none⟩ 1 1 (row8 0).toArray 3 [Value.int .i64 1] Tryz.underlying27 zC1 H2.o rfl hc2 zA4 zCg
 have H3:=zM (w3.heap[g]?=some (.cells (row8 1).toArray 3 (0,0))) (by rw [hw3];exact setRow_heap w2 g _ _ _ _ H2.o)
 have K3:=zM (Below g w1 w3) (by rw [hw3];exact below_setRow K2.o (zD _) _)
 clear hc2 hb2 hw3
 go_wp2_with fail
 go_loopw [8] (λnv wr=>∃n:Nat,(n=1\/n=2\/n=4\/n=8)/\nv=.int .i64 n/\wr.heap[g]?=some (.cells (row8 n).toArray 3 (0,0))/\Below g w1 wr) (λnv _=>8 - (intOf nv).toNat)
 case atStart=>exact ⟨1,by omega,rfl,H3.o,K3.o⟩
 case round=>
  obtain ⟨n,hn,rfl,hrow,hbw⟩:=hrel
  have HG:=zL hrow
  have HB:=zL hbw
  clear hrow hbw
  rcases hn with hn|hn|hn|hn
  ·obtain rfl:n=1:=hn
   have hg9:wr.drew.heap[g]?=some (.cells (row8 1).toArray 3 (0,0)):=HG.o
   have hc9:∀j v,(List.replicate 1 (Value.int .i64 1))[j]?=some v->wr.drew.cell? (Addr.add ⟨g,0,none⟩ j)=some v:=λj v hv=>by
    rw [List.getElem?_replicate] at hv
    by_cases hj:j<1
    ·rw [zp hj] at hv
     exact zET
    ·rw [z6 hj] at hv;cases hv
   obtain ⟨w4,hw4⟩:∃w4,w4=wr.drew.setRow g ((row8 1).toArray.toList.take 1++((List.replicate 1 (Value.int .i64 1))++(row8 1).toArray.toList.drop (1+1))).toArray:=⟨_,rfl⟩
   have hrun:∀ty,(Builtin.copy_ #[27,27] ty #[.slice (some ⟨g,1,none⟩) 7 7,.slice (some ⟨g,0,none⟩) 1 8]).run Tryz.prog wr.drew=.ok (.int .i64 1) w4:=λty=>by
    rw [hw4]
    exact run_copy_row (P:=Tryz.prog) wr.drew 27 27 ty 3 g 1 7 7 ⟨g,0,none⟩ 1 8 (row8 1).toArray 3 (List.replicate 1 (Value.int .i64 1)) Tryz.underlying27 zC1 hg9 rfl hc9 zA4 zCg
   have H4:=zM (w4.heap[g]?=some (.cells (row8 2).toArray 3 (0,0))) zB7
   have K4:=zM (Below g w1 w4) zCA
   clear hg9 hc9 hw4
   go_wp2_with fail
   go_region
   all_goals
    go_wp2_with fail
    go_roundw
    case rel=>exact ⟨2,by omega,rfl,H4.o,K4.o⟩
    case measure=>simp [intOf]
  ·obtain rfl:n=2:=hn
   have hg9:wr.drew.heap[g]?=some (.cells (row8 2).toArray 3 (0,0)):=HG.o
   have hc9:∀j v,(List.replicate 2 (Value.int .i64 1))[j]?=some v->wr.drew.cell? (Addr.add ⟨g,0,none⟩ j)=some v:=λj v hv=>by
    rw [List.getElem?_replicate] at hv
    by_cases hj:j<2
    ·rw [zp hj] at hv
     exact zET
    ·rw [z6 hj] at hv;cases hv
   obtain ⟨w4,hw4⟩:∃w4,w4=wr.drew.setRow g ((row8 2).toArray.toList.take 2++((List.replicate 2 (Value.int .i64 1))++(row8 2).toArray.toList.drop (2+2))).toArray:=⟨_,rfl⟩
   have hrun:∀ty,(Builtin.copy_ #[27,27] ty #[.slice (some ⟨g,2,none⟩) 6 6,.slice (some ⟨g,0,none⟩) 2 8]).run Tryz.prog wr.drew=.ok (.int .i64 2) w4:=λty=>by
    rw [hw4]
    exact run_copy_row (P:=Tryz.prog) wr.drew 27 27 ty 3 g 2 6 6 ⟨g,0,none⟩ 2 8 (row8 2).toArray 3 (List.replicate 2 (Value.int .i64 1)) Tryz.underlying27 zC1 hg9 rfl hc9 zA4 zCg
   have H4:=zM (w4.heap[g]?=some (.cells (row8 4).toArray 3 (0,0))) zB7
   have K4:=zM (Below g w1 w4) zCA
   clear hg9 hc9 hw4
   go_wp2_with fail
   go_region
   all_goals
    go_wp2_with fail
    go_roundw
    case rel=>exact ⟨4,by omega,rfl,H4.o,K4.o⟩
    case measure=>simp [intOf]
  ·obtain rfl:n=4:=hn
   have hg9:wr.drew.heap[g]?=some (.cells (row8 4).toArray 3 (0,0)):=HG.o
   have hc9:∀j v,(List.replicate 4 (Value.int .i64 1))[j]?=some v->wr.drew.cell? (Addr.add ⟨g,0,none⟩ j)=some v:=λj v hv=>by
    rw [List.getElem?_replicate] at hv
    by_cases hj:j<4
    ·rw [zp hj] at hv
     exact zET
    ·rw [z6 hj] at hv;cases hv
   obtain ⟨w4,hw4⟩:∃w4,w4=wr.drew.setRow g ((row8 4).toArray.toList.take 4++((List.replicate 4 (Value.int .i64 1))++(row8 4).toArray.toList.drop (4+4))).toArray:=⟨_,rfl⟩
   have hrun:∀ty,(Builtin.copy_ #[27,27] ty #[.slice (some ⟨g,4,none⟩) 4 4,.slice (some ⟨g,0,none⟩) 4 8]).run Tryz.prog wr.drew=.ok (.int .i64 4) w4:=λty=>by
    rw [hw4]
    exact run_copy_row (P:=Tryz.prog) wr.drew 27 27 ty 3 g 4 4 4 ⟨g,0,none⟩ 4 8 (row8 4).toArray 3 (List.replicate 4 (Value.int .i64 1)) Tryz.underlying27 zC1 hg9 rfl hc9 zA4 zCg
   have H4:=zM (w4.heap[g]?=some (.cells (row8 8).toArray 3 (0,0))) zB7
   have K4:=zM (Below g w1 w4) zCA
   clear hg9 hc9 hw4
   go_wp2_with fail
   go_region
   all_goals
    go_wp2_with fail
    go_roundw
    case rel=>exact ⟨8,by omega,rfl,H4.o,K4.o⟩
    case measure=>simp [intOf]
  ·subst hn
   go_wp2_with fail
   go_ret
   have hr:=HG.o
   have hb9:=HB.o
   rw [HGE.o] at hr hb9
   rw [HGE.o]
   exact ⟨_,8,rfl,avP hr (zD _),hb9⟩
theorem Sc.ok.ll {s:Sc} (h:s.ok):s.cs.length=8/\∀l∈s.cs,l.length<=9223372036854775807:=by
 obtain ⟨h8,hc,-,-⟩:=xL h.1
 refine ⟨h8,λl hl=>?_⟩
 rcases hc l hl with h9|h9
 ·rw [h9];exact zAK _
 ·have:=(crvErr_ok h9).2.1;omega
section
variable (F:Nat->Prop) (pb:Nat) (s:Sc) (S:Nat->Addr) (w:World) (B:Nat) (hpB:B<=pb) (hB:B<=w.heap.size) (hS:SX w B S) (hm:jD F w pb s) (hF:∀b,F b->b<w.heap.size) (hok:s.ok)
include hpB hB hS hm hF hok
set_option maxHeartbeats 4000000 in
theorem awF (K:ByteArray) (per:Int):Calls Tryz.prog 39 #[.pointer (some ⟨pb,0,none⟩),.string K,.int .i64 per] w (aeK F pb S (aaX s K per) w):=by
 obtain ⟨h8,hll⟩:=hok.ll
 have hm':=hm
 obtain ⟨Ac,cc,An,cn,Ap,cp,h1,h2,h3,h4,h5,h6,h7⟩:=hm'
 have c0:=h1.cell 0
 have c1:=h1.cell 1
 have c2:=h1.cell 2
 have c3:=h1.cell 3
 simp only [zc,zE,zj] at c0 c1 c2 c3
 obtain ⟨X,hX⟩:∃X:World,X=w.alloc (.cells #[.slice Ac s.cs.length cc,.string s.K,.int .i64 s.per,.slice An s.ns.length cn] 66):=⟨_,rfl⟩
 obtain ⟨gb,hgb⟩:∃gb,gb=w.heap.size:=⟨_,rfl⟩
 have bX:Below w.heap.size w X:=zBA
 have xX:Blk X gb 66 #[.slice Ac s.cs.length cc,.string s.K,.int .i64 s.per,.slice An s.ns.length cn]:=by rw [hX,hgb];exact Blk.new _ _ _
 obtain ⟨X2,hX2⟩:∃X2:World,X2=((X.setCell ⟨gb,1,none⟩ (.string K)).setCell ⟨gb,2,none⟩ (.int .i64 per)).setCell ⟨gb,3,none⟩ (.slice none 0 0):=⟨_,rfl⟩
 have hge:w.heap.size<=gb:=by rw [hgb];exact zD _
 have bX2:Below w.heap.size w X2:=by rw [hX2];exact ((bX.setCell (p:=⟨gb,1,none⟩) hge _).setCell (p:=⟨gb,2,none⟩) hge _).setCell (p:=⟨gb,3,none⟩) hge _
 have xX2:Blk X2 gb 66 #[.slice Ac s.cs.length cc,.string K,.int .i64 per,.slice none 0 0]:=by rw [hX2];exact ((xX.qi 1 _).qi 2 _).qi 3 _
 have d1:=xX.cell 1
 have d2:=xX.cell 2
 have d3:=xX.cell 3
 have z1:=xX.frozen 1
 have z2:=xX.frozen 2
 have z3:=xX.frozen 3
 simp only [zc,zE,zj] at d1 d2 d3
 have HX:=zL hX
 have HX2:=zL hX2
 have HGB:=zL hgb
 have BX2:=zL bX2
 have XX2:=zL xX2
 have HM:=zL hm
 have HF:=zL hF
 clear hF
 have HL:=zL hll
 have HC:=zL h3
 clear hX hX2 hgb bX bX2 xX xX2 hll h1 h4 h5 h6 h7 hok h8 hm h3
 go_enter Tryz.func39,Tryz.ntmps39
 go_upto_region 2 with fail
 rw [<-HGB.o]
 rw [HGB.o,<-HX.o,<-HGB.o]
 clear c0 c1 c2 c3
 go_upto_region 3 with fail
 rw [<-HX2.o]
 clear d1 d2 d3 z1 z2 z3
 have e0:=XX2.o.cell 0
 have e1:=XX2.o.cell 1
 have e2:=XX2.o.cell 2
 have e3:=XX2.o.cell 3
 simp only [zc,zE,zj] at e0 e1 e2 e3
 rcases bfifo_cases K with ⟨s0,hn⟩|⟨s0,hn⟩
 ·have HR:=zM (aaX s K per=yC s ⟨s.cs,K,per,[],s.p⟩) (by unfold aaX;rw [zp hn])
  have HBC:=zL (ac8 F pb s S X2 B hpB (zAB hB BX2.o.size) (hS.below (BX2.o.mono hB)) (HM.o.but BX2.o) (λb h9=>zAG (HF.o b h9) BX2.o.size) Ac none cc 0 s.cs K per [] h2 (HC.o.but (But.of_below BX2.o)) Rd.ui (λ_=>ul.none_ F pb) HL.o zA1)
  clear hn
  go_wp2_with fail
  refine (HBC.o).mono ?_
  rintro e w3 ⟨t,v,a,rfl,hv,ht,hpm,hbt⟩
  have HV:=zL hv
  have HT:=zL ht
  have HP:=zL hpm
  have HB3:=zL hbt
  clear hv ht hpm hbt e0 e1 e2 e3 HBC
  exact zE8
 ·have HR:=zM (aaX s K per=yC s ⟨s.cs,K,per,List.replicate 8 1,s.p⟩) (by unfold aaX;rw [z6 hn])
  have z3:=XX2.o.frozen 3
  have kY:Below w.heap.size w (X2.alloc (.cells #[.int .i64 1] 3)):=BX2.o.alloc BX2.o.size _
  have xY:Blk (X2.alloc (.cells #[.int .i64 1] 3)) gb 66 #[.slice Ac s.cs.length cc,.string K,.int .i64 per,.slice none 0 0]:=XX2.o.below ((zAA _ _).alloc (zD _) _) XX2.o.lt
  have HRP:=zL (an8 X2.heap.size (X2.alloc (.cells #[.int .i64 1] 3)) ((Blk.new X2 3 #[.int .i64 1]).cell 0) zA1)
  have KY:=zL kY
  have XY:=zL xY
  clear hn kY xY
  go_wp2_with fail
  refine (HRP.o).mono ?_
  rintro e w3 ⟨Ar,cr,rfl,or,k3⟩
  have k3':=KY.o.trans (k3.mono KY.o.size)
  have x3:=XY.o.below k3 XY.o.lt
  have y0:=x3.cell 0
  have y1:=x3.cell 1
  have y2:=x3.cell 2
  have y3:=x3.cell 3
  have yz:=x3.frozen 3
  simp only [zc,zE,zj] at y0 y1 y2 y3
  obtain ⟨W4,hW4⟩:∃W4:World,W4=w3.setCell ⟨gb,3,none⟩ (.slice Ar 8 cr):=⟨_,rfl⟩
  have b4:Below w.heap.size w W4:=by rw [hW4];exact k3'.setCell (p:=⟨gb,3,none⟩) hge _
  have x4:Blk W4 gb 66 #[.slice Ac s.cs.length cc,.string K,.int .i64 per,.slice Ar 8 cr]:=by rw [hW4];exact x3.qi 3 _
  have hgbl:=XX2.o.lt
  have r4:RdI W4 W4.heap.size Ar (List.replicate 8 1):=Rd.qA (show W4.ownsRow _ _ _ _ _ _ by rw [hW4];exact zY or λb hb=>zAF w3 ⟨gb,3,none⟩ _ b (λe=>by have h9:b=gb:=e;have:=zH or b hb;simp at this;omega)) zO yJ
  have hpl:pb<w.heap.size:=by
   obtain ⟨_,_,_,_,_,_,h9,-⟩:=HM.o
   exact h9.lt
  have nb:ul F pb Ar:=kJ or (by have:=KY.o.size;omega) (λb h9=>zAG (HF.o b h9) KY.o.size)
  have HBC:=zL (ac8 F pb s S W4 B hpB (zAB hB b4.size) (hS.below (b4.mono hB)) (HM.o.but b4) (λb h9=>zAG (HF.o b h9) b4.size) Ac Ar cc cr s.cs K per (List.replicate 8 1) h2 (HC.o.but (But.of_below b4)) r4 (λ_=>nb) HL.o zA1)
  have HW4:=zL hW4
  have B4:=zL b4
  have X4:=zL x4
  clear or k3 k3' x3 hW4 b4 x4 r4 nb HRP e0 e1 e2 e3 z3
  go_upto_region 5 with fail
  rw [<-HW4.o]
  clear y0 y1 y2 y3 yz
  have y0:=X4.o.cell 0
  have y1:=X4.o.cell 1
  have y2:=X4.o.cell 2
  have y3:=X4.o.cell 3
  simp only [zc,zE,zj] at y0 y1 y2 y3
  go_wp2_with fail
  refine (HBC.o).mono ?_
  rintro e w5 ⟨t,v,a,rfl,hv,ht,hpm,hbt⟩
  have HV:=zL hv
  have HT:=zL ht
  have HP:=zL hpm
  have HB3:=zL hbt
  clear hv ht hpm hbt y0 y1 y2 y3 HBC
  go_wp2_with fail
  go_ret2
  rw [HR.o]
  exact ⟨t,v,a,rfl,HV.o,HT.o,HP.o,(But.of_below B4.o).trans HB3.o⟩
end
theorem Sc.ok.pl {s:Sc} (h:s.ok):s.p.length<=300:=vg h.2
section
variable (F:Nat->Prop) (pb:Nat) (s:Sc) (S:Nat->Addr) (w:World) (B:Nat) (hpB:B<=pb) (hB:B<=w.heap.size) (hS:SX w B S) (hm:jD F w pb s) (hF:∀b,F b->b<w.heap.size) (hok:s.ok)
include hpB hB hS hm hF hok
set_option maxHeartbeats 8000000 in
theorem aoP (A':Option Addr) (c':Nat) (n:List Int) (hn3:n.length=3) (hr:RdI w w.heap.size A' n):
 Calls Tryz.prog 69 #[.pointer (some ⟨pb,0,none⟩),.slice A' n.length c'] w (aeK F pb S (vJ s n) w):=by
 have hm':=hm
 have hpl:=hok.pl
 obtain ⟨Ac,cc,An,cn,Ap,cp,h1,h2,h3,h4,h5,h6,h7⟩:=hm'
 have d4:=h1.cell 4
 simp only [zc,zE,zj] at d4
 obtain ⟨b,o,rfl,hb,e0⟩:=RdI.get hr (i:=0) zO
 obtain ⟨b9,o9,hA1,-,e1⟩:=RdI.get hr (i:=1) zO
 simp only [zAC,zAS,and_true] at hA1
 obtain ⟨rfl,rfl⟩:=hA1
 obtain ⟨b9,o9,hA1,-,e2⟩:=RdI.get hr (i:=2) zO
 simp only [zAC,zAS,and_true] at hA1
 obtain ⟨rfl,rfl⟩:=hA1
 have g0:n.getD 0 0=n[0]:=by simp [List.getD,show 0<n.length by omega]
 have g1:n.getD 1 0=n[1]:=by simp [List.getD,show 1<n.length by omega]
 have g2:n.getD 2 0=n[2]:=by simp [List.getD,show 2<n.length by omega]
 obtain ⟨x,hx⟩:∃x:Pk,x=⟨n.getD 0 0,n.getD 1 0,n.getD 2 0⟩:=⟨_,rfl⟩
 rw [show n[0]=x.f by rw [hx,g0]] at e0
 rw [show n[1]=x.s by rw [hx,g1]] at e1
 rw [show n[2]=x.a by rw [hx,g2]] at e2
 simp only [Nat.add_zero] at e0
 obtain ⟨q,hq⟩:∃q,q=s.p++[x]:=⟨_,rfl⟩
 have HPS:=zM (vJ s n=if (qj q).1=0 then ((0,okT),{s with p:=q}) else (((qj q).1,okT),s)) (by unfold vJ;rw [<-hx,<-hq])
 have hql:q.length<=301:=by rw [hq,zAP];simp;omega
 have hpbl:=h1.lt
 obtain ⟨i0,hi0,hz0,hz1,hz2⟩:=info_parts ahO
 have Hq5:=zM (∀W:World,Below w.heap.size w W->RdP W w.heap.size Ap s.p) (λW hW=>Rd.below h6 hW)
 have Hkeep:=zM (∀W:World,Below w.heap.size w W->W.cell? ⟨pb,4,none⟩=some (.slice Ap s.p.length cp)/\W.cell? ⟨b,o,none⟩=some (.int .i64 x.f)/\W.cell? ⟨b,o+1,none⟩=some (.int .i64 x.s)/\W.cell? ⟨b,o+2,none⟩=some (.int .i64 x.a)) (λW hW=>⟨(hW.cell (p:=⟨pb,4,none⟩) hpbl).trans d4,(hW.cell (p:=⟨b,o,none⟩) hb).trans e0,(hW.cell (p:=⟨b,o+1,none⟩) hb).trans e1,(hW.cell (p:=⟨b,o+2,none⟩) hb).trans e2⟩)
 have HM:=zL hm
 have _hp:=hpB
 clear _hp
 have HF:=zL hF
 clear hF
 have Hq:=zL hq
 have q4:s.p.length<=4294967296:=zO
 have q5:s.p.length+1<=maxLen:=zA2
 have q6:(s.p.length+1)*24<=140737488355328:=zO
 have three_pos:0<3:=zO
 rw [hn3]
 clear h1 h2 h3 h4 h5 h6 h7 g0 g1 g2 hx hq hn3 hr hm hok
 go_enter Tryz.func69,Tryz.ntmps69
 go_wp2_with fail
 go_region_held3 (λw'=>w'.cell? ⟨pb,4,none⟩=some (.slice Ap s.p.length cp)/\w'.cell? ⟨b,o,none⟩=some (.int .i64 x.f)/\w'.cell? ⟨b,o+1,none⟩=some (.int .i64 x.s)/\w'.cell? ⟨b,o+2,none⟩=some (.int .i64 x.a))
  (first
   |go_keep
   |exact Hkeep.o _ K9
   |exact Hkeep.o _ K10)
  (first
   |(go_at_call 96;(with_reducible show Calls _ _ _ w.drew _);refine (ab5 Ap cp s.p w.drew w.heap.size (zD _) (Hq5.o w.drew ((zAA _ _).drew)) q4).mono ?_;rintro e w9 ⟨A9,c9,rfl,o9,k9⟩;have K9:=aeE k9)
   |(go_at_call 96;(with_reducible show Calls _ _ _ (w.alloc _).drew _);refine (ab5 Ap cp s.p (World.drew (w.alloc _)) w.heap.size (aj8 _).size (Hq5.o _ ((aj8 _).drew)) q4).mono ?_;rintro e w9 ⟨A9,c9,rfl,o9,k9⟩;have K9:=a3E k9)
   |((with_reducible show (if _ then Oper.wp _ _ _ (w9.alloc (.cells #[.int .i64 x.f,.int .i64 x.s,.int .i64 x.a] 53)) _ _ else _));have _t:=aeE k9;refine yx (w9.alloc (.cells #[.int .i64 x.f,.int .i64 x.s,.int .i64 x.a] 53)) Pk.cs zB8 (.tmp 12) (.tmp 23) 46 zB8 _ 53 i0 (.agg #[.int .i64 0,.int .i64 0,.int .i64 0]) 3 24 Tryz.underlying46 hi0 hz0 hz1 hz2 zB8 three_pos Pk.qw Pk.qV (.slice A9 s.p.length c9) s.p.length (s.p.flatMap Pk.cs) zB8 (o9.alloc _) _ (some ⟨w9.heap.size,0,none⟩) 1 [x] zB8 (RdP.zU x) q5 q6 (qG k9.size _) ?_;intro v10 w10 o10 g10 h10;have K10:Below w.heap.size w w10:=ql (K9.alloc K9.size _) (o9.alloc _) g10 (zD _) (qG K9.size _);obtain ⟨A10,c10,hv10,o10⟩:=qI o10 three_pos;rw [<-Hq.o] at hv10 o10;rw [hv10];clear hv10)
   |((with_reducible show (if _ then Oper.wp _ _ _ w9 _ _ else _));have _t:Below (w.heap.size+1) (w.alloc (.cells #[.int .i64 x.f,.int .i64 x.s,.int .i64 x.a] 53)) w9:=af8 k9;refine yx w9 Pk.cs zB8 (.tmp 12) (.tmp 23) 46 zB8 _ 53 i0 (.agg #[.int .i64 0,.int .i64 0,.int .i64 0]) 3 24 Tryz.underlying46 hi0 hz0 hz1 hz2 zB8 three_pos Pk.qw Pk.qV (.slice A9 s.p.length c9) s.p.length (s.p.flatMap Pk.cs) zB8 o9 _ (some ⟨w.heap.size,0,none⟩) 1 [x] zB8 ((RdP.zU x).below _t) q5 q6 k9.size ?_;intro v10 w10 o10 g10 h10;have K10:Below w.heap.size w w10:=ql K9 o9 g10 (Nat.le_of_lt (al3 _ _)) K9.size;obtain ⟨A10,c10,hv10,o10⟩:=qI o10 three_pos;rw [<-Hq.o] at hv10 o10;rw [hv10];clear hv10)
   |fail "no arm")
 all_goals
  have RQ:=RdP.qA o10
  have NB:ul F pb A10:=kJ o10 (by first |exact hpbl|exact zAG hpbl (qG (zD _) _)) (λb h9=>by have:=HF.o b h9;first |exact this|exact zAG this (qG (zD _) _))
  have SN:Snt w10 w10.heap.size S [2,5]:=((hS.gs.s.below (K10.mono hB)).more (zAB hB K10.size)).sub zA1
  have HCK:=zL (vk A10 c10 q S w10 w10.heap.size (zD _) RQ SN zO)
  have KK:=zL K10
  have HRQ:=zL RQ
  clear K10 RQ SN o10 o9 k9 K9 _t g10 h10 d4 e0 e1 e2
  go_wp2_with fail
  refine (HCK.o).mono ?_
  rintro e w11 ⟨v,rfl,hv,k11⟩
  have k11':=KK.o.trans (k11.mono KK.o.size)
  by_cases hg:(qj q).1=0
  ·obtain rfl:=hv.qK hg
   have HR:=zM (vJ s n=((0,okT),{s with p:=q})) (by rw [HPS.o,zp hg])
   obtain ⟨Ac1,cc1,An1,cn1,Ap1,cp1,h1,h2,h3,h4,h5,h6,h7⟩:=HM.o.but k11'
   have d4:=h1.cell 4
   have z4:=h1.frozen 4
   simp only [zc,zE,zj] at d4
   have hb1:But pb w11 (w11.setCell ⟨pb,4,none⟩ (.slice A10 q.length c10)):=But.set1 w11 4 _
   have hb2:But pb w (w11.setCell ⟨pb,4,none⟩ (.slice A10 q.length c10)):=(But.of_below (g:=pb) k11').trans hb1
   have HPM:=zM (jD F (w11.setCell ⟨pb,4,none⟩ (.slice A10 q.length c10)) pb {s with p:=q}) (⟨Ac1,cc1,An1,cn1,A10,c10,h1.qi 4 _,h2,h3.but hb1,Rd.but h4 hb1 h5,h5,Rd.but (HRQ.o.below k11 |>.more k11.size) hb1 (λ_=>NB),λ_=>NB⟩)
   have HB2:=zL hb2
   clear hv k11 k11' h1 h2 h3 h4 h5 h6 h7 hb1 hb2 HCK hg
   go_wp2_with fail
   refine (akK _ _).mono ?_
   rintro e w3 ⟨rfl,rfl⟩
   clear d4 z4
   exact zEW
  ·have HR:=zM (vJ s n=(((qj q).1,okT),s)) (by rw [HPS.o,z6 hg])
   have HG:=zL hg
   have HV:=zL hv
   obtain ⟨T,ad,rfl⟩:=hv.qW hg
   have K1:=zL k11'
   clear hv k11 k11' HCK hg
   exact zEU
end
theorem ax4 (l:List Ln) (t:Int):0<=jM l t/\jM l t<=109951162797600:=by
 unfold jM
 split
 ·rename_i h
  unfold jC at h
  split at h
  ·rename_i h1;exact zAv h h1
  ·rename_i h1
   split at h
   ·cases h
   ·rename_i h2
    obtain ⟨h3,h4,h5,-⟩:=crvErr_ok (Classical.byContradiction h1)
    have:=acS h3 h5 (show 0<=t by omega)
    exact ⟨by omega,agS h3 h5 zO zO⟩
 ·exact ⟨by omega,by omega⟩
section
variable (F:Nat->Prop) (pb:Nat) (s:Sc) (S:Nat->Addr) (w:World) (B:Nat) (hpB:B<=pb) (hB:B<=w.heap.size) (hS:SX w B S) (hm:jD F w pb s) (hF:∀b,F b->b<w.heap.size) (hok:s.ok)
include hpB hB hS hm hF hok
set_option maxHeartbeats 4000000 in
theorem ay8 (A':Option Addr) (c':Nat) (n:List Int) (hn2:n.length=2) (hn0:0<=n.getD 0 0) (hr:RdI w w.heap.size A' n):
 Calls Tryz.prog 70 #[.pointer (some ⟨pb,0,none⟩),.slice A' n.length c'] w (aeK F pb S (afJ s n) w):=by
 obtain ⟨h8,hll⟩:=hok.ll
 have hm':=hm
 obtain ⟨Ac,cc,An,cn,Ap,cp,h1,h2,h3,h4,h5,h6,h7⟩:=hm'
 have d0:=h1.cell 0
 simp only [zc,zE,zj] at d0
 obtain ⟨b,o,rfl,hb,e0⟩:=RdI.get hr (i:=0) zO
 obtain ⟨b9,o9,hA1,-,e1⟩:=RdI.get hr (i:=1) zO
 simp only [zAC,zAS,and_true] at hA1
 obtain ⟨rfl,rfl⟩:=hA1
 have g0:n.getD 0 0=n[0]:=by simp [List.getD,show 0<n.length by omega]
 have g1:n.getD 1 0=n[1]:=by simp [List.getD,show 1<n.length by omega]
 obtain ⟨y,hy⟩:∃y,y=n.getD 0 0:=⟨_,rfl⟩
 obtain ⟨t,ht⟩:∃t,t=n.getD 1 0:=⟨_,rfl⟩
 rw [show n[0]=y by rw [hy,g0]] at e0
 rw [show n[1]=t by rw [ht,g1]] at e1
 simp only [Nat.add_zero] at e0
 have HPS:=zM (afJ s n=if 8<=y then ((1,okT),s) else (((jC (s.cs.getD y.toNat []) t).1,itT (jM (s.cs.getD y.toNat []) t)),s)) (by unfold afJ;rw [<-hy,<-ht])
 have y0:0<=y:=by rw [hy];exact hn0
 have HM:=zL hm
 have _hp:=hpB
 clear _hp
 have HF:=zL hF
 clear hF
 rw [hn2]
 by_cases hy8:8<=y
 ·have HR:=zM (afJ s n=((1,okT),s)) (by rw [HPS.o,zp hy8])
  have s1:=(hS.s1 1 zA1).2.2
  simp only [G,sv] at s1
  clear hll h1 h2 h3 h4 h5 h6 h7 g0 g1 hy ht hr hm hok h8 e1 d0
  go_enter Tryz.func70,Tryz.ntmps70
  exact zDy
 ·obtain ⟨k,rfl⟩:=Int.eq_ofNat_of_zero_le y0
  have hk8:k<s.cs.length:=zO
  have HR:=zL (show afJ s n=(((jC s.cs[k] t).1,itT (jM s.cs[k] t)),s) by
   rw [HPS.o,z6 hy8,zAX,show s.cs.getD k []=s.cs[k] by simp [List.getD,hk8]])
  obtain ⟨v0,v1⟩:=ax4 s.cs[k] t
  obtain ⟨bc,oc,a,c,rfl,hbc,f0,f1,f2⟩:=h3.2 k hk8
  obtain ⟨l,hl⟩:∃l,l=s.cs[k]:=⟨_,rfl⟩
  rw [<-hl] at HR v0 v1 f0 f1
  have hll2:=hll l (by rw [hl];exact zd hk8)
  have HAT:=zL (λW (hb:Below w.heap.size w W)=>a10 a c l t S W w.heap.size hb.size (Rd.below f1 hb) (((hS.gs.s.below (hb.mono hB)).more hB).sub zA1) hll2)
  have hcl:(k:Int)<8:=zO
  rw [h8] at d0
  have hpbl:=h1.lt
  have Hkeep:=zM (∀W:World,Below w.heap.size w W->W.cell? ⟨pb,0,none⟩=some (.slice (some ⟨bc,oc,none⟩) 8 cc)/\W.cell? ⟨b,o,none⟩=some (.int .i64 (k:Int))/\W.cell? ⟨b,o+1,none⟩=some (.int .i64 t)/\W.cell? ⟨bc,oc+k,none⟩=some (.slice a l.length c)) (λW hW=>⟨(hW.cell (p:=⟨pb,0,none⟩) hpbl).trans d0,(hW.cell (p:=⟨b,o,none⟩) hb).trans e0,(hW.cell (p:=⟨b,o+1,none⟩) hb).trans e1,(hW.cell (p:=⟨bc,oc+k,none⟩) hbc).trans f0⟩)
  clear hll h1 h2 h3 h4 h5 h6 h7 g0 g1 hy ht hr hm hok f1 f2 hl hll2
  go_enter Tryz.func70,Tryz.ntmps70
  go_wp2_with fail
  go_region_held3 (λw'=>w'.cell? ⟨pb,0,none⟩=some (.slice (some ⟨bc,oc,none⟩) 8 cc)/\w'.cell? ⟨b,o,none⟩=some (.int .i64 (k:Int))/\w'.cell? ⟨b,o+1,none⟩=some (.int .i64 t)/\w'.cell? ⟨bc,oc+k,none⟩=some (.slice a l.length c))
   (first
    |go_keep
    |exact Hkeep.o _ K9)
   (first
    |(go_at_call 98;refine (HAT.o w.drew ((zAA _ _).drew)).mono ?_;rintro e w9 ⟨v9,rfl,e9,k9⟩;have K9:Below w.heap.size w w9:=((zAA _ _).drew).trans k9)
    |fail "no arm")
  all_goals
   clear d0 e0 e1 f0
   go_wp2_with fail
   refine (Tryz.strconv_Itoa (jM l t) zO zO w9 (hS.below (K9.mono hB)).tab).mono ?_
   rintro e w2 ⟨rfl,k2,os,rfl⟩
   go_wp2_with fail
   go_ret2
   rw [HR.o]
   have KS:=jA w9 k2 os
   exact ⟨_,_,_,rfl,(e9.below KS).more KS.size,λh9=>rfl,HM.o.but (K9.trans (KS.mono K9.size)),But.of_below (K9.trans (KS.mono K9.size))⟩
end
end Go.Proofs.YtoomffajodheaaaGreatDoor
