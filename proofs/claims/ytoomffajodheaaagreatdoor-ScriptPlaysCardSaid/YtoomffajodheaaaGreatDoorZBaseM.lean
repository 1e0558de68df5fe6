/- The proof of ScriptPlays, part BaseM. Conditions: in each statement. -/
import Derived.Lib.Hide
import Derived.Test.YtoomffajodheaaaGreatDoorProg
import Derived.Deep.AppendLies
import Derived.WalkSmall
set_option linter.all false
theorem Go.RowKit.Hid.o{p:Prop}(h:Go.RowKit.Hid p):p:=h.out
namespace Go.Proofs.YtoomffajodheaaaGreatDoor
theorem zL{p:Prop}(h:p):Go.RowKit.Hid p:=h
theorem zM(p:Prop)(h:p):Go.RowKit.Hid p:=h
def zD:=@Nat.le_refl
def zE:=@List.getElem?_cons_zero
def zc:=@List.getElem?_toArray
def zd:=@List.getElem_mem
def zj:=@List.getElem?_cons_succ
def zp:=@if_pos
def z6:=@if_neg
def zAA:=@Go.RowKit.Below.refl
def zAB:=@Nat.le_trans
def zAC:=@Option.some.injEq
def zAD:=@List.mem_cons_self
def zAE:=@List.drop_eq_getElem_cons
def zAF:=@Go.RowKit.Below.heap_setCell
def zAG:=@Nat.lt_of_lt_of_le
def zAH:=@decide_eq_false
def zAI:=@decide_eq_true
def zAJ:=@List.mem_cons_of_mem
def zAK:=@Nat.zero_le
def zAL:=@List.length_cons
def zAM:=@List.mem_cons
def zAN:=@List.take_succ_eq_append_getElem
def zAO:=@List.drop_eq_nil_of_le
def zAP:=@List.length_append
def zAQ:=@List.mem_append
def zAR:=@List.getElem?_eq_getElem
def zAS:=@Addr.mk.injEq
def zAT:=@List.mem_map
def zAU:=@World.block_lt_of_cell?
def zAV:=@Int.le_refl
def zAW:=@List.mem_singleton
def zAX:=@Int.toNat_natCast
def zAY:=@Int.mul_nonneg
def zAZ:=@List.take_of_length_le
def zAa:=@List.nil_append
def zAb:=@World.cell?_of_block
def zAc:=@Int.mul_le_mul_of_nonneg_right
def zAd:=@List.pairwise_cons
def zAe:=@decide_eq_true_iff
def zAf:=@Int.natCast_nonneg
def zAg:=@List.length_nil
def zAh:=@List.length_take
def zAi:=@List.append_assoc
def zAj:=@List.getElem?_eq_some_iff
def zAk:=@run_callFunc_extern
def zAl:=@Int.mul_comm
def zAm:=@List.eq_nil_of_length_eq_zero
def zAn:=@Nat.lt_succ_iff_lt_or_eq
def zAo:=@List.append_nil
def zAp:=@Value.slice.injEq
def zAq:=@Array.getElem?_setIfInBounds
def zAr:=@Go.RowKit.Below.heap_alloc
def zAs:=@results_cell_row
def zAt:=@bodyPost_ret
def zAu:=@congrArg
def zAv:=@absurd
open Go.RowKit
theorem zO{p:Prop}(h:p:=by omega):p:=h
theorem zA1{p:Prop}(h:p:=by simp):p:=h
theorem zA7{p:Prop}(h:p:=by simp;omega):p:=h
theorem zCK{p:Prop}(h:p:=by obtain ⟨tc,h,h1,h2⟩:=h;exact ⟨tc,h,h1,λk hk=>by rw [<-hd k hk];exact h2 k hk⟩):p:=h
theorem zCi{p:Prop}(h:p:=by rw [Nat.mul_comm,Nat.mul_add_div hsz,Nat.div_eq_of_lt hjlt,Nat.add_zero]):p:=h
theorem zC7{p:Prop}(h:p:=by obtain ⟨tc,h,_,h2⟩:=h;exact (h.cell k).trans (h2 k hk)):p:=h
theorem zC8{p:Prop}(h:p:=by obtain ⟨tc,h,h1,h2⟩:=h;exact ⟨tc,h.same hs,h1,h2⟩):p:=h
theorem zD4{p:Prop}(h:p:=by
 obtain ⟨_,⟨h1,_⟩|⟨g',cap,cur,hv,hg,hh,hn,hc,hs,ht⟩⟩:=h
 ·simp at h1
 ·simp only [zAp,zAC,zAS,and_true,true_and] at hv
  obtain ⟨rfl,rfl⟩:=hv
  refine ⟨hg,cur,hh,by omega,λk hk=>?_⟩
  have h2:(cur.toList.take (n*1))[k]?=some u:=by rw [ht,List.getElem?_replicate,zp hk]
  rw [List.getElem?_take,zp zO] at h2
  simpa using h2):p:=h
theorem zEM{p:Prop}(h:p:=by
 obtain ⟨tc,h,h1,h2⟩:=h
 refine ⟨_,h.qi k u,by rw [Array.size_setIfInBounds];exact h1,λj hj=>?_⟩
 rw [hd j hj,zAq]
 by_cases hjk:k=j
 ·subst hjk
  rw [zp rfl,zp rfl,zp zO]
 ·rw [z6 hjk,z6 (λe=>hjk e.symm)]
  exact h2 j hj):p:=h
def Rd {α:Type} (w:World) (B sz:Nat) (f:α->List Value) (A:Option Addr) (l:List α):Prop:=
 0<l.length->∃b o,A=some ⟨b,o,none⟩/\b<B/\∀(i:Nat) (x:α),l[i]?=some x->∀(j:Nat) (v:Value),(f x)[j]?=some v->w.cell? ⟨b,o+i*sz+j,none⟩=some v
section
variable {α:Type} {w w':World} {B B' sz:Nat} {f:α->List Value} {A:Option Addr} {l:List α}
theorem Rd.ui:Rd w B sz f A []:=λh=>zAv h zA1
theorem Rd.keep (h:Rd w B sz f A l) (hk:∀p:Addr,p.block<B->w'.cell? p=w.cell? p):Rd w' B sz f A l:=λh0=>by
 obtain ⟨b,o,e,hb,hc⟩:=h h0
 exact ⟨b,o,e,hb,λi x hx j v hv=>(hk _ hb).trans (hc i x hx j v hv)⟩
theorem Rd.below (h:Rd w B sz f A l) (hb:Below B w w'):Rd w' B sz f A l:=h.keep λ_ hp=>hb.cell hp
theorem Rd.more (h:Rd w B sz f A l) (hB:B<=B'):Rd w B' sz f A l:=λh0=>by
 obtain ⟨b,o,e,hb,hc⟩:=h h0
 exact ⟨b,o,e,by omega,hc⟩
theorem Rd.at_ (h:Rd w B sz f A l) {i:Nat} (hi:i<l.length):
 ∃b o,A=some ⟨b,o,none⟩/\b<B/\∀(j:Nat) (v:Value),(f l[i])[j]?=some v->w.cell? ⟨b,o+i*sz+j,none⟩=some v:=by
 obtain ⟨b,o,e,hb,hc⟩:=h zO
 exact ⟨b,o,e,hb,hc i _ (zAR hi)⟩
end
theorem uK {w:World} {b:Nat} {cs:Array Value} {T:TypeId} {z:Nat × Nat} (h:w.heap[b]?=some (.cells cs T z)) (i:Nat):w.cell? ⟨b,i,none⟩=cs[i]?:=by
 unfold World.cell?
 rw [h]
 rfl
theorem akL {w w':World} {o:Obj} (hb:Below (w.alloc o).heap.size (w.alloc o) w'):w'.heap[w.heap.size]?=some o:=(hb.block w.heap.size zA1).trans (heap_alloc_new w o)
theorem qN (w:World) (o1 o2:Obj):((w.alloc o1).alloc o2).heap[w.heap.size+1]?=some o2:=by
 have h:=heap_alloc_new (w.alloc o1) o2
 have e:(w.alloc o1).heap.size=w.heap.size+1:=zA1
 rw [e] at h
 exact h
structure Ln where
 b:Int
 r:Int
deriving DecidableEq
structure Pk where
 f:Int
 s:Int
 a:Int
deriving DecidableEq
structure Sn where
 p:Int
 f:Int
 t:Int
deriving DecidableEq
def iv (n:Int):Value:=.int .i64 n
def Ln.cs (x:Ln):List Value:=[.int .i64 x.b,.int .i64 x.r]
def Pk.cs (x:Pk):List Value:=[.int .i64 x.f,.int .i64 x.s,.int .i64 x.a]
def Sn.cs (x:Sn):List Value:=[.int .i64 x.p,.int .i64 x.f,.int .i64 x.t]
def Ln.v (x:Ln):Value:=.agg #[.int .i64 x.b,.int .i64 x.r]
abbrev RdL (w:World) (B:Nat) (A:Option Addr) (l:List Ln):Prop:=Rd w B 2 Ln.cs A l
abbrev RdP (w:World) (B:Nat) (A:Option Addr) (l:List Pk):Prop:=Rd w B 3 Pk.cs A l
abbrev RdS (w:World) (B:Nat) (A:Option Addr) (l:List Sn):Prop:=Rd w B 3 Sn.cs A l
abbrev RdI (w:World) (B:Nat) (A:Option Addr) (l:List Int):Prop:=Rd w B 1 (λn=>[.int .i64 n]) A l
theorem RdL.get {w:World} {B:Nat} {A:Option Addr} {l:List Ln} (h:RdL w B A l) {i:Nat} (hi:i<l.length):
 ∃b o,A=some ⟨b,o,none⟩/\b<B/\w.cell? ⟨b,o+i*2,none⟩=some (.int .i64 l[i].b)/\w.cell? ⟨b,o+i*2+1,none⟩=some (.int .i64 l[i].r):=by
 obtain ⟨b,o,e,hb,hc⟩:=h.at_ hi
 exact ⟨b,o,e,hb,hc 0 _ rfl,hc 1 _ rfl⟩
theorem vL {a b:Bool} (h:a=b):Ending.returned (.bool a)=.returned (.bool b):=by rw [h]
theorem yh {a b:Int} (h:a=b):Ending.returned (.int .i64 a)=.returned (.int .i64 b):=by rw [h]
def G:Nat->Nat
 |1=>1
 |2=>0
 |3=>2
 |4=>3
 |5=>4
 |6=>5
 |7=>6
 |8=>7
 |9=>8
  |_=>1000000
def sv (S:Nat->Addr) (k:Nat):Value:=.iface 242 (.pointer (some (S k)))
def Snt (w:World) (B:Nat) (S:Nat->Addr) (ks:List Nat):Prop:=∀k∈ks,G k<B/\(S k).block<B/\w.cell? ⟨G k,0,none⟩=some (sv S k)
theorem Snt.below {w w':World} {B:Nat} {S:Nat->Addr} {ks:List Nat} (h:Snt w B S ks) (hb:Below B w w'):Snt w' B S ks:=λk hk=>by
 obtain ⟨h1,h2,h3⟩:=h k hk
 exact ⟨h1,h2,(hb.cell h1).trans h3⟩
theorem Snt.more {w:World} {B B':Nat} {S:Nat->Addr} {ks:List Nat} (h:Snt w B S ks) (hB:B<=B'):Snt w B' S ks:=λk hk=>by
 obtain ⟨h1,h2,h3⟩:=h k hk
 exact ⟨by omega,by omega,h3⟩
theorem Snt.sub {w:World} {B:Nat} {S:Nat->Addr} {ks ks':List Nat} (h:Snt w B S ks) (hs:∀k∈ks',k∈ks):Snt w B S ks':=λk hk=>h k (hs k hk)
inductive Er (w:World) (B:Nat) (S:Nat->Addr):Value->Nat->Int->Prop
 |nil:Er w B S .nilIface 0 (-1)
 |bare (k:Nat) (h1:1<=k) (h9:k<=9):Er w B S (sv S k) k (-1)
 |fault (k:Nat) (h1:1<=k) (h9:k<=9) (b:Nat) (at_:Int) (hb:b<B) (hk:w.heap[b]?=some (.cells #[.int .i64 at_,sv S k] 99 (0,0))):
  Er w B S (.iface 95 (.pointer (some ⟨b,0,none⟩))) k at_
theorem Er.below {w w':World} {B:Nat} {S:Nat->Addr} {v:Value} {k:Nat} {a:Int} (h:Er w B S v k a) (hb:Below B w w'):Er w' B S v k a:=by
 cases h with
 |nil=>exact .nil
 |bare k h1 h9=>exact .bare _ h1 h9
 |fault k h1 h9 b a hlt hk=>exact .fault _ h1 h9 b a hlt ((hb.block b hlt).trans hk)
theorem Er.more {w:World} {B B':Nat} {S:Nat->Addr} {v:Value} {k:Nat} {a:Int} (h:Er w B S v k a) (hB:B<=B'):Er w B' S v k a:=by
 cases h with
 |nil=>exact .nil
 |bare k h1 h9=>exact .bare _ h1 h9
 |fault k h1 h9 b a hlt hk=>exact .fault _ h1 h9 b a zO hk
theorem Er.qK {w:World} {B:Nat} {S:Nat->Addr} {v:Value} {k:Nat} {a:Int} (h:Er w B S v k a) (hk:k=0):v=.nilIface:=by
 cases h with
 |nil=>rfl
 |bare k h1 h9=>omega
 |fault k h1 h9 b a hlt hk=>omega
theorem Er.qW {w:World} {B:Nat} {S:Nat->Addr} {v:Value} {k:Nat} {a:Int} (h:Er w B S v k a) (hk:k≠0):∃T a,v=.iface T (.pointer (some a)):=by
 cases h with
 |nil=>omega
 |bare k h1 h9=>exact ⟨_,_,rfl⟩
 |fault k h1 h9 b a hlt hk=>exact ⟨_,_,rfl⟩
def aiH (S:Nat->Addr) (k:Nat) (a:Int) (w:World) (e:Ending) (w':World):Prop:=∃v,e=.returned v/\Er w' w'.heap.size S v k a/\Below w.heap.size w w'
def adA (x:Value) (S:Nat->Addr) (k:Nat) (a:Int) (w:World) (e:Ending) (w':World):Prop:=∃v,e=.returned (.tuple #[x,v])/\Er w' w'.heap.size S v k a/\Below w.heap.size w w'
theorem flat_get {α:Type} (f:α->List Value) (sz:Nat) (hsz:0<sz) (hf:∀x,(f x).length=sz) (l:List α) (j:Nat):
 (l.flatMap f)[j]?=(l[j / sz]?).bind λx=>(f x)[j % sz]?:=by
 induction l generalizing j with
 |nil=>simp
 |cons x r ih=>
  rw [List.flatMap_cons]
  by_cases hj:j<sz
  ·rw [List.getElem?_append_left (by rw [hf];exact hj),Nat.div_eq_of_lt hj,Nat.mod_eq_of_lt hj]
   rfl
  ·have hj':sz<=j:=by omega
   rw [List.getElem?_append_right (by rw [hf];exact hj'),hf,ih]
   have e1:j / sz=(j - sz) / sz+1:=by rw [Nat.div_eq_sub_div hsz hj']
   have e2:j % sz=(j - sz) % sz:=Nat.mod_eq_sub_mod hj'
   rw [e1,e2,zj]
theorem vE {α:Type} (f:α->List Value) (sz:Nat) (hf:∀x,(f x).length=sz) (l:List α):(l.flatMap f).length=l.length*sz:=by
 induction l with
 |nil=>simp
 |cons x r ih=>rw [List.flatMap_cons,zAP,hf,ih,zAL,Nat.succ_mul,Nat.add_comm]
section
variable {α:Type} {w w':World} {B sz:Nat} {f:α->List Value} {A:Option Addr} {l:List α}
theorem jK (b o n:Nat):(⟨b,o,none⟩:Addr).add n=⟨b,o+n,none⟩:=by
 unfold Addr.add
 split
 ·rename_i h;rw [h];rfl
 ·rfl
theorem Rd.flat (h:Rd w B sz f A l) (hsz:0<sz) (hf:∀x,(f x).length=sz) (h0:0<l.length):
 ∃b o,A=some ⟨b,o,none⟩/\b<B/\∀(j:Nat) (v:Value),(l.flatMap f)[j]?=some v->w.cell? ((⟨b,o,none⟩:Addr).add j)=some v:=by
 obtain ⟨b,o,e,hb,hc⟩:=h h0
 refine ⟨b,o,e,hb,λj v hv=>?_⟩
 rw [flat_get f sz hsz hf] at hv
 rw [jK]
 cases hx:l[j / sz]? with
 |none=>rw [hx] at hv;cases hv
 |some x=>
  rw [hx] at hv
  have:=hc _ x hx (j % sz) v hv
  have e2:o+j / sz*sz+j % sz=o+j:=by have:=Nat.div_add_mod j sz;rw [Nat.mul_comm] at this;omega
  rw [e2] at this
  exact this
theorem Rd.qA {base:Nat} {e:TypeId} {c:Nat} (h:w.ownsRow base e sz (.slice A l.length c) l.length (l.flatMap f)) (hsz:0<sz) (hf:∀x,(f x).length=sz):Rd w w.heap.size sz f A l:=λh0=>by
 obtain ⟨g,cap,hv,_,hlt⟩:=h.form h0
 have hA:A=some ⟨g,0,none⟩:=by injection hv
 subst hA
 refine ⟨g,0,rfl,hlt,λi x hx j v hv=>?_⟩
 have hjlt:j<sz:=by
  have:=(zAj.1 hv).1
  rw [hf] at this;exact this
 have:=h.cells (g:=g) rfl (i*sz+j) v (by
  rw [flat_get f sz hsz hf]
  have e1:(i*sz+j) / sz=i:=zCi
  have e2:(i*sz+j) % sz=j:=by rw [Nat.mul_comm,Nat.mul_add_mod,Nat.mod_eq_of_lt hjlt]
  rw [e1,e2,hx];exact hv)
 rw [jK] at this
 rw [Nat.add_assoc]
 exact this
end
section
variable {P:Program} (w:World) {α:Type} (f:α->List Value)
theorem adH (base:Nat) (t ty e:TypeId) (i:TypeInfo) (size:Nat) (ht:P.underlying t=some (.slice e)) (hi:P.info? e=some i)
 (v:Value) (n:Nat) (xs:List Value) (hown:w.ownsRow base e size v n xs) (c:Nat):(Builtin.append_ #[t,t] ty #[v,.slice none 0 c]).run P w=.ok v w:=by
 rcases hown.2 with ⟨rfl,rfl⟩|⟨g,cap,cur,rfl,_,_,hnc,_⟩
 ·simp [Builtin.append_,run_underlying ht,sizeOf,typeInfo,hi,Builtin.lenOf,Builtin.firstCells]
 ·simp [Builtin.append_,run_underlying ht,sizeOf,typeInfo,hi,Builtin.lenOf,Builtin.firstCells,hnc,storeCells]
theorem aiL (base:Nat) (t ty e:TypeId) (i:TypeInfo) (z:Value) (size bytes:Nat) (ht:P.underlying t=some (.slice e)) (hi:P.info? e=some i) (hz:i.zero=some z)
 (hsize:i.size=size) (hby:i.bytes=bytes) (hzs:z.cells.size=size) (hsz:0<size) (hf:∀x,(f x).length=size) (h1:∀x,∀u∈f x,u.oneCell'=true)
 (v:Value) (n:Nat) (xs:List Value) (hown:w.ownsRow base e size v n xs)
 (B:Nat) (A:Option Addr) (c:Nat) (l:List α) (hr:Rd w B size f A l)
 (h63:n+l.length<=maxLen) (hbytes:(n+l.length)*bytes<=140737488355328) (hbase:base<=w.heap.size):
 ∃v' w',(Builtin.append_ #[t,t] ty #[v,.slice A l.length c]).run P w=.ok v' w'/\w'.ownsRow base e size v' (n+l.length) (xs++l.flatMap f)/\w.grownBy w' v.ownBlock/\
  (v'.ownBlock=v.ownBlock\/v'.ownBlock=some w.heap.size):=by
 rcases A with _|ad
 ·have hn:l=[]:=by
   rcases l with _|⟨x,r⟩
   ·rfl
   ·obtain ⟨b,o,h,_⟩:=hr zA1
    cases h
  subst hn
  exact ⟨v,w,adH w base t ty e i size ht hi v n xs hown c,by simpa using hown,World.grownBy.refl w _,.inl rfl⟩
 ·have hcells:∀j u,(l.flatMap f)[j]?=some u->w.cell? (ad.add j)=some u:=by
   intro j u hu
   rcases l with _|⟨x,r⟩
   ·simp at hu
   ·obtain ⟨b,o,h,_,hc⟩:=hr.flat hsz hf zA1
    injection h with h
    subst h
    exact hc j u hu
  have hone:∀u∈l.flatMap f,u.oneCell'=true:=λu hu=>by
   obtain ⟨x,_,hx⟩:=List.mem_flatMap.1 hu
   exact h1 x u hx
  obtain ⟨v',w',hrun,h2,h3,_,h5⟩:=run_append_own_at (P:=P) w base t ty e i z size bytes ht hi hz hsize hby hzs hsz v n xs hown ad l.length c (l.flatMap f) (vE f size hf l) hcells hone h63 hbytes hbase
  exact ⟨v',w',hrun,h2,h3,h5⟩
theorem adC {o:Oper} {a:Act} {K:Act->World->Prop} {Q:Exit->Act->World->Prop} (s x:Operand) (t:TypeId)
 (ho:o.op=.call {callee:=.builtin .append,args:=#[s,x],argTypes:=#[t,t]})
 (base:Nat) (e:TypeId) (i:TypeInfo) (z:Value) (size bytes:Nat) (ht:P.underlying t=some (.slice e)) (hi:P.info? e=some i) (hz:i.zero=some z)
 (hsize:i.size=size) (hby:i.bytes=bytes) (hzs:z.cells.size=size) (hsz:0<size) (hf:∀x,(f x).length=size) (h1:∀x,∀u∈f x,u.oneCell'=true)
 (v:Value) (n:Nat) (xs:List Value) (hs:a.eval s=v) (hown:w.ownsRow base e size v n xs)
 (B:Nat) (A:Option Addr) (c:Nat) (l:List α) (hx:a.eval x=.slice A l.length c) (hr:Rd w B size f A l)
 (h63:n+l.length<=maxLen) (hbytes:(n+l.length)*bytes<=140737488355328) (hbase:base<=w.heap.size)
 (h:∀v' w',w'.ownsRow base e size v' (n+l.length) (xs++l.flatMap f)->w.grownBy w' v.ownBlock->(v'.ownBlock=v.ownBlock\/v'.ownBlock=some w.heap.size)->K (a.put o.dst v') w'):o.wp P a w K Q:=by
 obtain ⟨v',w',hrun,h2,h3,h4⟩:=aiL (P:=P) w f base t o.type e i z size bytes ht hi hz hsize hby hzs hsz hf h1 v n xs hown B A c l hr h63 hbytes hbase
 unfold Oper.wp execOp
 simp only [ho,resolve,invoke,builtin,Sem.run_bind,Sem.run_pure,Result.andThen_ok,List.map_toArray,List.map_cons,List.map_nil,hs,hx,hrun]
 exact h v' w' h2 h3 h4
theorem qd {ops:Array Oper} {rest:List Oper} {o:Oper} {a:Act} {Q:Exit->Act->World->Prop} (hgd:o.guard=none) (s x:Operand) (t:TypeId)
 (ho:o.op=.call {callee:=.builtin .append,args:=#[s,x],argTypes:=#[t,t]})
 (base:Nat) (e:TypeId) (i:TypeInfo) (z:Value) (size bytes:Nat) (ht:P.underlying t=some (.slice e)) (hi:P.info? e=some i) (hz:i.zero=some z)
 (hsize:i.size=size) (hby:i.bytes=bytes) (hzs:z.cells.size=size) (hsz:0<size) (hf:∀x,(f x).length=size) (h1:∀x,∀u∈f x,u.oneCell'=true)
 (v:Value) (n:Nat) (xs:List Value) (hs:a.eval s=v) (hown:w.ownsRow base e size v n xs)
 (B:Nat) (A:Option Addr) (c:Nat) (l:List α) (hx:a.eval x=.slice A l.length c) (hr:Rd w B size f A l)
 (h63:n+l.length<=maxLen) (hbytes:(n+l.length)*bytes<=140737488355328) (hbase:base<=w.heap.size)
 (h:∀v' w',w'.ownsRow base e size v' (n+l.length) (xs++l.flatMap f)->w.grownBy w' v.ownBlock->(v'.ownBlock=v.ownBlock\/v'.ownBlock=some w.heap.size)->wpList P ops Q rest (a.put o.dst v') w'):wpList P ops Q (o::rest) a w:=
 wpList_plain hgd λ_ hK=>adC w f s x t ho base e i z size bytes ht hi hz hsize hby hzs hsz hf h1 v n xs hs hown B A c l hx hr h63 hbytes hbase λv' w' h2 h3 h4=>hK _ _ (h v' w' h2 h3 h4)
theorem yx {P:Program} {α:Type} (w:World) (f:α->List Value) {ops:Array Oper} {o:Oper} {a:Act} {K:Act->World->Prop} {Q:Exit->Act->World->Prop} {E:Prop} (hgd:o.guard=none) (s x:Operand) (t:TypeId)
 (ho:o.op=.call {callee:=.builtin .append,args:=#[s,x],argTypes:=#[t,t]})
 (base:Nat) (e:TypeId) (i:TypeInfo) (z:Value) (size bytes:Nat) (ht:P.underlying t=some (.slice e)) (hi:P.info? e=some i) (hz:i.zero=some z)
 (hsize:i.size=size) (hby:i.bytes=bytes) (hzs:z.cells.size=size) (hsz:0<size) (hf:∀x,(f x).length=size) (h1:∀x,∀u∈f x,u.oneCell'=true)
 (v:Value) (n:Nat) (xs:List Value) (hs:a.eval s=v) (hown:w.ownsRow base e size v n xs)
 (B:Nat) (A:Option Addr) (c:Nat) (l:List α) (hx:a.eval x=.slice A l.length c) (hr:Rd w B size f A l)
 (h63:n+l.length<=maxLen) (hbytes:(n+l.length)*bytes<=140737488355328) (hbase:base<=w.heap.size)
 (h:∀v' w',w'.ownsRow base e size v' (n+l.length) (xs++l.flatMap f)->w.grownBy w' v.ownBlock->(v'.ownBlock=v.ownBlock\/v'.ownBlock=some w.heap.size)->K (a.put o.dst v') w'):
 if Region.wanted o (yielded ops a.tmps)=true then Oper.wp P o a w K Q else E:=by
 have hw:Region.wanted o (yielded ops a.tmps)=true:=by simp [Region.wanted,hgd]
 rw [zp hw]
 exact adC w f s x t ho base e i z size bytes ht hi hz hsize hby hzs hsz hf h1 v n xs hs hown B A c l hx hr h63 hbytes hbase h
theorem Rd.of_block {α:Type} {w:World} {B sz g:Nat} {f:α->List Value} {l:List α} {cs:Array Value} {T:TypeId} {z:Nat × Nat} (h:w.heap[g]?=some (.cells cs T z)) (hcs:cs.toList=l.flatMap f) (hB:g<B) (hsz:0<sz) (hf:∀x,(f x).length=sz):
 Rd w B sz f (some ⟨g,0,none⟩) l:=λ_=>by
 refine ⟨g,0,rfl,hB,λi x hx j v hv=>?_⟩
 have hjlt:j<sz:=by
  have:=(zAj.1 hv).1
  rw [hf] at this;exact this
 have e:(l.flatMap f)[i*sz+j]?=some v:=by
  rw [flat_get f sz hsz hf]
  have e1:(i*sz+j) / sz=i:=zCi
  have e2:(i*sz+j) % sz=j:=by rw [Nat.mul_comm,Nat.mul_add_mod,Nat.mod_eq_of_lt hjlt]
  rw [e1,e2,hx];exact hv
 rw [<-hcs] at e
 unfold World.cell?
 rw [h]
 simp only [Option.isSome_none,Bool.false_eq_true,if_false,Nat.zero_add]
 simpa using e
theorem yl {w:World} {base:Nat} {e:TypeId} {size:Nat} {v:Value} {n:Nat} {xs:List Value} (h:w.ownsRow base e size v n xs) (_hs:0<size):∃A c,v=.slice A n c:=by
 obtain ⟨hl,h|⟨g,cap,cur,hv,_⟩⟩:=h
 ·obtain ⟨rfl,rfl⟩:=h
  exact ⟨none,0,rfl⟩
 ·exact ⟨_,_,hv⟩
theorem zH {w:World} {base:Nat} {e:TypeId} {size:Nat} {v:Value} {n:Nat} {xs:List Value} (h:w.ownsRow base e size v n xs):∀k,v.ownBlock=some k->base<=k:=by
 intro k hk
 rcases h.2 with ⟨rfl,_⟩|⟨g,cap,cur,rfl,hg,_⟩
 ·simp [Value.ownBlock] at hk
 ·have:g=k:=by simpa [Value.ownBlock] using hk
  omega
theorem ql {w w1 w2:World} {B base:Nat} {e:TypeId} {size:Nat} {v:Value} {n:Nat} {xs:List Value} (hb:Below B w w1) (h:w1.ownsRow base e size v n xs) (hg:w1.grownBy w2 v.ownBlock) (hB:B<=base) (hs:B<=w1.heap.size):Below B w w2:=
 hb.grown hg hs λk hk=>zAB hB (zH h k hk)
theorem qO {w:World} {base base':Nat} {e:TypeId} {size:Nat} {v:Value} {n:Nat} {xs:List Value} (h:w.ownsRow base e size v n xs) (hb:base'<=base):w.ownsRow base' e size v n xs:=by
 obtain ⟨h1,h2⟩:=h
 refine ⟨h1,?_⟩
 rcases h2 with h2|⟨g,cap,cur,hv,hg,r⟩
 ·exact .inl h2
 ·exact .inr ⟨g,cap,cur,hv,zAB hb hg,r⟩
theorem qI {α:Type} {w:World} {base:Nat} {e:TypeId} {size:Nat} {v:Value} {f:α->List Value} {l l':List α} (h:w.ownsRow base e size v (l.length+l'.length) (l.flatMap f++l'.flatMap f)) (hs:0<size):
 ∃A c,v=.slice A (l++l').length c/\w.ownsRow base e size (.slice A (l++l').length c) (l++l').length ((l++l').flatMap f):=by
 rw [<-zAP,<-List.flatMap_append] at h
 obtain ⟨A,c,rfl⟩:=yl h hs
 exact ⟨A,c,rfl,h⟩
def vI {α:Type} (f:α->List Value) (sz e:Nat) (l:List α) (w:World) (en:Ending) (w':World):Prop:=
 ∃A c,en=.returned (.slice A l.length c)/\w'.ownsRow w.heap.size e sz (.slice A l.length c) l.length (l.flatMap f)/\Below w.heap.size w w'
theorem Ln.qw (x:Ln):x.cs.length=2:=rfl
theorem Pk.qw (x:Pk):x.cs.length=3:=rfl
theorem Sn.qw (x:Sn):x.cs.length=3:=rfl
theorem Ln.qV (x:Ln):∀u∈x.cs,u.oneCell'=true:=by simp [Ln.cs,Value.oneCell']
theorem Pk.qV (x:Pk):∀u∈x.cs,u.oneCell'=true:=by simp [Pk.cs,Value.oneCell']
theorem Sn.qV (x:Sn):∀u∈x.cs,u.oneCell'=true:=by simp [Sn.cs,Value.oneCell']
theorem Rd.zU {α:Type} {w:World} {sz:Nat} {f:α->List Value} {l:List α} {cs:Array Value} {T:TypeId} (hcs:cs.toList=l.flatMap f) (hsz:0<sz) (hf:∀x,(f x).length=sz):
 Rd (w.alloc (.cells cs T)) (w.heap.size+1) sz f (some ⟨w.heap.size,0,none⟩) l:=Rd.of_block (heap_alloc_new _ _) hcs (Nat.lt_succ_self _) hsz hf
theorem RdL.zU {w:World} {T:TypeId} (x:Ln):RdL (w.alloc (.cells #[.int .i64 x.b,.int .i64 x.r] T)) (w.heap.size+1) (some ⟨w.heap.size,0,none⟩) [x]:=Rd.zU rfl zO Ln.qw
theorem RdP.zU {w:World} {T:TypeId} (x:Pk):RdP (w.alloc (.cells #[.int .i64 x.f,.int .i64 x.s,.int .i64 x.a] T)) (w.heap.size+1) (some ⟨w.heap.size,0,none⟩) [x]:=Rd.zU rfl zO Pk.qw
theorem RdS.zU {w:World} {T:TypeId} (x:Sn):RdS (w.alloc (.cells #[.int .i64 x.p,.int .i64 x.f,.int .i64 x.t] T)) (w.heap.size+1) (some ⟨w.heap.size,0,none⟩) [x]:=Rd.zU rfl zO Sn.qw
theorem aaV {w w3:World} {o o2:Obj} {row:Option Nat} (g:((w.alloc o).alloc o2).grownBy w3 row) (hr:∀k,row=some k->k<w.heap.size):w3.heap[w.heap.size]?=some o:=by
 rw [g.block w.heap.size zA7 (λe=>by have:=hr _ e.symm;omega),zAr (w.alloc o) o2 _ zA1]
 exact heap_alloc_new _ _
theorem qG {B:Nat} {w:World} (h:B<=w.heap.size) (o:Obj):B<=(w.alloc o).heap.size:=zA7
theorem RdL.qA {w:World} {A:Option Addr} {base c:Nat} {e:TypeId} {l:List Ln} (h:w.ownsRow base e 2 (.slice A l.length c) l.length (l.flatMap Ln.cs)):RdL w w.heap.size A l:=Rd.qA h zO Ln.qw
theorem RdP.qA {w:World} {A:Option Addr} {base c:Nat} {e:TypeId} {l:List Pk} (h:w.ownsRow base e 3 (.slice A l.length c) l.length (l.flatMap Pk.cs)):RdP w w.heap.size A l:=Rd.qA h zO Pk.qw
theorem RdS.qA {w:World} {A:Option Addr} {base c:Nat} {e:TypeId} {l:List Sn} (h:w.ownsRow base e 3 (.slice A l.length c) l.length (l.flatMap Sn.cs)):RdS w w.heap.size A l:=Rd.qA h zO Sn.qw
end
def Blk (w:World) (g:Nat) (t:TypeId) (cs:Array Value):Prop:=w.heap[g]?=some (.cells cs t (0,0))
section
variable {w w':World} {g:Nat} {t:TypeId} {cs:Array Value}
theorem Blk.lt (h:Blk w g t cs):g<w.heap.size:=lt_of_block h
theorem Blk.cell (h:Blk w g t cs) (i:Nat):w.cell? ⟨g,i,none⟩=cs[i]?:=uK h i
theorem Blk.frozen (h:Blk w g t cs) (i:Nat):w.frozen? ⟨g,i,none⟩=false:=by
 unfold Blk at h
 simp [World.frozen?,h]
theorem Blk.new (w:World) (t:TypeId) (cs:Array Value):Blk (w.alloc (.cells cs t)) w.heap.size t cs:=heap_alloc_new w _
theorem Blk.drewN (h:Blk w g t cs) (n:Nat):Blk (w.drewN n) g t cs:=h
theorem Blk.alloc (h:Blk w g t cs) (o:Obj):Blk (w.alloc o) g t cs:=(zAr w o g h.lt).trans h
theorem Blk.qi (h:Blk w g t cs) (i:Nat) (u:Value):Blk (w.setCell ⟨g,i,none⟩ u) g t (cs.setIfInBounds i u):=by
 unfold Blk at h ⊢
 simp [World.setCell,Array.getElem?_modify,h]
theorem Blk.far (h:Blk w g t cs) {p:Addr} (hp:g≠p.block) (u:Value):Blk (w.setCell p u) g t cs:=(zAF w p u g hp).trans h
theorem Blk.below {B:Nat} (h:Blk w g t cs) (hb:Below B w w') (hg:g<B):Blk w' g t cs:=(hb.block g hg).trans h
theorem Blk.grown {row:Option Nat} (h:Blk w g t cs) (hb:w.grownBy w' row) (hg:some g≠row):Blk w' g t cs:=(hb.block g h.lt hg).trans h
theorem Blk.same (h:Blk w g t cs) (hb:w'.heap[g]?=w.heap[g]?):Blk w' g t cs:=hb.trans h
theorem zf (w:World) (a:Addr) (u:Value):(w.setCell a u).heap.size=w.heap.size:=by simp [World.setCell]
end
set_option maxRecDepth 100000
theorem avY {w:World} {base e g n:Nat} {u:Value} (h:w.ownsRow base e 1 (.slice (some ⟨g,0,none⟩) n n) n (List.replicate n u)):base<=g/\∃tc,Blk w g e tc/\tc.size=n/\∀k,k<n->tc[k]?=some u:=zD4
def Arw (w:World) (g:Nat) (T:TypeId) (n:Nat) (d:Nat->Value):Prop:=∃tc,Blk w g T tc/\tc.size=n/\∀k,k<n->tc[k]?=some (d k)
section
variable {w w':World} {g n:Nat} {T:TypeId} {d d':Nat->Value}
theorem Arw.lt (h:Arw w g T n d):g<w.heap.size:=by obtain ⟨tc,h,_⟩:=h;exact h.lt
theorem Arw.cell (h:Arw w g T n d) {k:Nat} (hk:k<n):w.cell? ⟨g,k,none⟩=some (d k):=zC7
theorem Arw.frozen (h:Arw w g T n d) (k:Nat):w.frozen? ⟨g,k,none⟩=false:=by obtain ⟨tc,h,_⟩:=h;exact h.frozen k
theorem Arw.same (h:Arw w g T n d) (hs:w'.heap[g]?=w.heap[g]?):Arw w' g T n d:=zC8
theorem Arw.congr (h:Arw w g T n d) (hd:∀k,k<n->d k=d' k):Arw w g T n d':=zCK
theorem Arw.qi (h:Arw w g T n d) {k:Nat} (u:Value) (hd:∀j,j<n->d' j=if j=k then u else d j):Arw (w.setCell ⟨g,k,none⟩ u) g T n d':=zEM
theorem Arw.far (h:Arw w g T n d) {p:Addr} (hp:g≠p.block) (u:Value):Arw (w.setCell p u) g T n d:=h.same (zAF w p u g hp)
theorem Arw.alloc (h:Arw w g T n d) (o:Obj):Arw (w.alloc o) g T n d:=h.same (zAr w o g h.lt)
theorem Arw.grown {row:Option Nat} (h:Arw w g T n d) (hb:w.grownBy w' row) (hg:some g≠row):Arw w' g T n d:=h.same (hb.block g h.lt hg)
theorem Arw.drewN (h:Arw w g T n d) (m:Nat):Arw (w.drewN m) g T n d:=h
theorem Arw.qA {base:Nat} {u:Value} (h:w.ownsRow base T 1 (.slice (some ⟨g,0,none⟩) n n) n (List.replicate n u)) (hd:∀k,k<n->d k=u):Arw w g T n d:=by
 obtain ⟨_,tc,h1,h2,h3⟩:=avY h
 exact ⟨tc,h1,h2,λk hk=>by rw [hd k hk];exact h3 k hk⟩
end
structure qU (g:Nat) (w w':World):Prop where
 bel:Below g w w'
 blk:∀b,b≠g->w'.heap[b]?=w.heap[b]?
theorem qU.refl (g:Nat) (w:World):qU g w w:=⟨zAA _ _,λ_ _=>rfl⟩
theorem qU.drewN {g:Nat} {w w':World} (h:qU g w w') (m:Nat):qU g w (w'.drewN m):=⟨below_drewN h.bel m,h.blk⟩
theorem qU.qi {g:Nat} {w w':World} (h:qU g w w') (i:Nat) (u:Value):qU g w (w'.setCell ⟨g,i,none⟩ u):=
 ⟨h.bel.setCell (p:=⟨g,i,none⟩) (zD _) u,λb hb=>(zAF w' ⟨g,i,none⟩ u b (λe=>hb e)).trans (h.blk b hb)⟩
theorem qU.trans {g:Nat} {w w1 w2:World} (h:qU g w w1) (k:qU g w1 w2):qU g w w2:=⟨h.bel.trans k.bel,λb hb=>(k.blk b hb).trans (h.blk b hb)⟩
def boolRow (d:Nat->Bool) (n:Nat):List Value:=(List.range n).map λj=>.bool (d j)
theorem jy (d:Nat->Bool) (n:Nat):(boolRow d n).length=n:=by simp [boolRow]
theorem aaL (d:Nat->Bool) {n j:Nat} (h:j<n):(boolRow d n)[j]?=some (.bool (d j)):=by simp [boolRow,h]
theorem boolRow_new (n:Nat):(madeCells (Value.cells (.bool false)) (n*1)).toList=boolRow (λ_=>false) n:=by
 rw [show Value.cells (.bool false)=#[.bool false] from rfl,toList_madeCells_one,Nat.mul_one]
 apply List.ext_getElem?
 intro j
 rw [List.getElem?_replicate]
 by_cases h:j<n
 ·rw [zp h,aaL _ h]
 ·rw [z6 h,List.getElem?_eq_none (by rw [jy];omega)]
theorem am6 (d:Nat->Bool) (n k:Nat):(boolRow d n).set k (.bool true)=boolRow (λj=>d j||k==j) n:=by
 apply List.ext_getElem?
 intro j
 rw [List.getElem?_set]
 by_cases h:j<n
 ·rw [aaL (λj=>d j||k==j) h,jy]
  by_cases hk:k=j
  ·subst hk
   rw [zp rfl,zp h];simp
  ·have:(k==j)=false:=by simpa using hk
   rw [z6 hk,aaL _ h,this,Bool.or_false]
 ·rw [List.getElem?_eq_none (l:=boolRow (λj=>d j||k==j) n) (by rw [jy];omega)]
  split
  ·rw [z6 (by rw [jy];omega)]
  ·exact List.getElem?_eq_none (by rw [jy];omega)
abbrev afP (w:World) (base tB g n:Nat) (d:Nat->Bool):Prop:=w.ownsRow base tB 1 (.slice (some ⟨g,0,none⟩) n n) n (boolRow d n)
theorem afP.cell {w:World} {base tB g n:Nat} {d:Nat->Bool} (h:afP w base tB g n d) {j:Nat} (hj:j<n):w.cell? ⟨g,j,none⟩=some (.bool (d j)):=(h.cellAt j zO).trans (aaL d hj)
theorem afP.qi {w:World} {base tB g n:Nat} {d:Nat->Bool} (h:afP w base tB g n d) (k:Nat):afP (w.setCell ⟨g,k,none⟩ (.bool true)) base tB g n (λj=>d j||k==j):=by
 have:=(h.stored k (.bool true)).1
 rw [am6] at this
 exact this
theorem afP.drewN {w:World} {base tB g n:Nat} {d:Nat->Bool} (h:afP w base tB g n d) (m:Nat):afP (w.drewN m) base tB g n d:=h
theorem afP.ge {w:World} {base tB g n:Nat} {d:Nat->Bool} (h:afP w base tB g n d):base<=g:=zH h g rfl
end Go.Proofs.YtoomffajodheaaaGreatDoor
