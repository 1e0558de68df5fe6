/- The proof of ScriptPlays, part LdO. Conditions: in each statement. -/
import Derived.Test.YtoomffajodheaaaGreatDoorZLdM
import Derived.Test.YtoomffajodheaaaGreatDoorZScMa
import Derived.Test.YtoomffajodheaaaGreatDoorZOpen
import Derived.HandedShaped
set_option linter.all false
namespace Go.Proofs.YtoomffajodheaaaGreatDoor
open Go.ChangeShapes Go.WideShapes Go.RowKit
set_option maxRecDepth 100000
namespace LaidS
theorem aeP {s:ByteArray} {k:Nat} {l:List UInt8} (h:s.data.toList=l) (hl:l=(abN k).data.toList):s=abN k:=toList_inj (h.trans hl)
theorem a0W {r:List (String × DataW Unit)} {W:World} (m:laidMet Tryz.prog (("internal/strconv.uint64pow10",Rows.laid_internal_strconv_uint64pow10)::r) W):Lib.TabIs Tryz.prog W "internal/strconv.uint64pow10" .u64 Lib.pow10Tab:=
 Lib.tabIs_of_head (t:=246) (e:=201) (n:=20) a0X zK Tryz.underlying246 Tryz.underlying201 zK zK m
theorem sx {W:World} (h:laidMetH Tryz.prog [("math/bits.deBruijn32tab",Rows.laid_math_bits_deBruijn32tab),("math/bits.deBruijn64tab",Rows.laid_math_bits_deBruijn64tab),("internal/strconv.uint64pow10",Rows.laid_internal_strconv_uint64pow10),("unicode/utf8.acceptRanges",Rows.laid_unicode_utf8_acceptRanges),("errors.errorType",Rows.laid_errors_errorType),("floodgate/api.ErrText",Rows.laid_floodgate_api_ErrText),("floodgate/api.ErrBound",Rows.laid_floodgate_api_ErrBound),("floodgate/api.ErrShape",Rows.laid_floodgate_api_ErrShape),("floodgate/api.ErrNone",Rows.laid_floodgate_api_ErrNone),("floodgate/api.ErrOld",Rows.laid_floodgate_api_ErrOld),("floodgate/api.ErrKind",Rows.laid_floodgate_api_ErrKind),("strconv.ErrRange",Rows.laid_strconv_ErrRange),("strconv.ErrSyntax",Rows.laid_strconv_ErrSyntax),("unicode/utf8.first",Rows.laid_unicode_utf8_first)] W) (hsh:W.ShapedOpen Tryz.prog):∃S,SX W W.heap.size S:=by
 have h':laidMet Tryz.prog [("math/bits.deBruijn32tab",Rows.laid_math_bits_deBruijn32tab),("math/bits.deBruijn64tab",Rows.laid_math_bits_deBruijn64tab),("internal/strconv.uint64pow10",Rows.laid_internal_strconv_uint64pow10),("unicode/utf8.acceptRanges",Rows.laid_unicode_utf8_acceptRanges),("floodgate/api.ErrText",Rows.laid_floodgate_api_ErrText),("floodgate/api.ErrBound",Rows.laid_floodgate_api_ErrBound),("floodgate/api.ErrShape",Rows.laid_floodgate_api_ErrShape),("floodgate/api.ErrNone",Rows.laid_floodgate_api_ErrNone),("floodgate/api.ErrOld",Rows.laid_floodgate_api_ErrOld),("floodgate/api.ErrKind",Rows.laid_floodgate_api_ErrKind),("strconv.ErrRange",Rows.laid_strconv_ErrRange),("strconv.ErrSyntax",Rows.laid_strconv_ErrSyntax),("unicode/utf8.first",Rows.laid_unicode_utf8_first)] W/\handlesMet Tryz.prog [("errors.errorType",Rows.laid_errors_errorType)] W:=h
 obtain ⟨m,hd⟩:=h'
 obtain ⟨name,u,ty,e1,e2,e3,e4,e5⟩:=hd _ (zAW.2 rfl)
 have en:name=[101,114,114,111,114]:=(Option.some.inj e1).symm
 subst en
 obtain rfl:=Option.some.inj (LaidAll.rt.symm.trans e2)
 have hm:ty∈(List.range 351).filter λt=>Tryz.prog.rowNamed t [101,114,114,111,114]:=List.mem_filter.2 ⟨List.mem_range.2 (by rw [<-LaidAll.size];exact e3),e4⟩
 rw [LaidAll.a08] at hm
 obtain rfl:=zAW.1 hm
 rw [LaidAll.hh] at e5
 have hg:W.cell? ⟨9,0,none⟩=some (.iface 170 (.agg #[.pointer (some ⟨23,34,none⟩)])):=by simpa using World.var?_cell LaidAll.et e5 0
 replace m:=m.tail.tail
 have htab:Lib.TabIs Tryz.prog W "internal/strconv.uint64pow10" .u64 Lib.pow10Tab:=a0W m
 replace m:=m.tail.tail
 obtain ⟨a1,s1,g1,c1,x1,b1⟩:=LaidAll.uy m (g:=1) zK zK
 replace m:=m.tail
 obtain ⟨a2,s2,g2,c2,x2,b2⟩:=LaidAll.uy m (g:=0) zK zK
 replace m:=m.tail
 obtain ⟨a3,s3,g3,c3,x3,b3⟩:=LaidAll.uy m (g:=2) zK zK
 replace m:=m.tail
 obtain ⟨a4,s4,g4,c4,x4,b4⟩:=LaidAll.uy m (g:=3) zK zK
 replace m:=m.tail
 obtain ⟨a5,s5,g5,c5,x5,b5⟩:=LaidAll.uy m (g:=4) zK zK
 replace m:=m.tail
 obtain ⟨a9,s9,g9,c9,x9,b9⟩:=LaidAll.uy m (g:=8) zK zK
 replace m:=m.tail
 obtain ⟨ar,sr,gr,-,-,-⟩:=LaidAll.uy m (g:=12) zK zK
 replace m:=m.tail
 obtain ⟨ay,sy,gy,-,-,-⟩:=LaidAll.uy m (g:=11) zK zK
 obtain ⟨mm,hmm⟩:=Tryz.awI.s1_3 W hsh
 let S:Nat->Addr:=λk=>match k with |1=>a1|2=>a2|3=>a3|4=>a4|5=>a5|_=>a9
 have hsx:SX W W.heap.size S:=by
  refine ⟨⟨λk hk=>?_,zAU W _ hg,hg⟩,λk hk=>?_,λk hk=>?_,zAU W _ (htab.cell a0X 0 zA4),htab,zAU W _ hmm,⟨mm,hmm⟩,zAU W _ gy.2.2,⟨_,_,gy.2.2⟩,zAU W _ gr.2.2,⟨_,_,gr.2.2⟩⟩
  ·simp only [zAM,List.mem_nil_iff,or_false] at hk
   rcases hk with rfl|rfl|rfl|rfl|rfl
   ·exact g2
   ·exact g3
   ·exact g4
   ·exact g5
   ·exact g9
  ·simp only [zAM,List.mem_nil_iff,or_false] at hk
   subst hk
   exact g1
  ·simp only [zAM,List.mem_nil_iff,or_false] at hk
   rcases hk with rfl|rfl|rfl|rfl|rfl|rfl
   ·exact c1.trans (by rw [aeP (k:=1) x1 rfl])
   ·exact c2.trans (by rw [aeP (k:=2) x2 rfl])
   ·exact c3.trans (by rw [aeP (k:=3) x3 rfl])
   ·exact c4.trans (by rw [aeP (k:=4) x4 rfl])
   ·exact c5.trans (by rw [aeP (k:=5) x5 rfl])
   ·exact c9.trans (by rw [aeP (k:=9) x9 rfl])
 exact ⟨S,hsx⟩
end LaidS
open Go.RowKit Go.ChangeShapes Go.WideShapes Go.Deep
section
variable {H:Type} {enc:TypeId × Value->H} {w:World} {base:Nat} {spare:Nat->Bool} {held:Bool}
theorem abS {a:Assume} {C:Checked} {os:Os} {f:FuncId} {fn:Func} {s:ChangeSpec} {conds:List PathCond} {apart fresh handsOn again:Bool} {X:World->Array Value->Prop}
 (hX:∀(w w':World) (args:Array Value),w.heap=w'.heap->X w args->X w' args)
 (own:ownKnob C.prog.godebug=none) (started:os.Started) (noInit:C.prog.inits.idxOf? f=none) (hfn:C.prog.funcs[f]?=some fn)
 (witness:∃(w:World) (tape:Tape) (i:Input),w.os=os/\(w.forCall tape i).Shaped C.prog/\i.vars=[]/\Input.okWide C.prog (w.forCall tape i) .any w.heap.size f i/\
  ((s.pre enc C.prog fn conds apart (w.forCall tape i).memory i.args/\X (w.forCall tape i).memory i.args)/\sizedMet enc C.prog fn (OpenSpec.ofChange s) apart (w.forCall tape i).memory i.args)/\a.holds C.prog (lone (Frame.enter C.prog f i.args .normal) [] (w.forCall tape i)))
 (contract:∀(W:World) (base:Nat) (args:Array Value) (ds gs:List (DataW H)) (before:List MemPlace),
  (∀(j:Nat) t v,fn.params[j]?=some t->args[j]?=some v->Value.okWide C.prog W .any base t v)→
  DataW.Whole enc C.prog fn.params.toList s.vars apart W args.toList ds gs before→
  X W args->W.ShapedOpen C.prog→
  Calls C.prog f args W λe W'=>∃v,e=.returned v/\s.post enc C.prog fn apart fresh handsOn again W args v W'):
 ReturnsInHanded a C os f .any (λw args=>(s.pre enc C.prog fn conds apart w args/\X w args)/\sizedMet enc C.prog fn (OpenSpec.ofChange s) apart w args) (s.post enc C.prog fn apart fresh handsOn again):=by
 refine returnsInHanded_of_calls own started noInit witness ?_
 intro w tape i _ hsh _ hok hpre _
 obtain ⟨_,_,_,fn',hfn',_,_,_,_,hval⟩:=hok
 have e:fn'=fn:=Option.some.inj (hfn'.symm.trans hfn)
 subst e
 obtain ⟨⟨⟨ds,gs,before,hw,_⟩,hx⟩,_⟩:=hpre
 have hw':=DataW.Whole.of_heap (w':=w.forCall tape i) zB8 hw
 refine (contract (w.forCall tape i) w.heap.size i.args ds gs before hval hw' (hX _ _ _ zB8 hx) hsh).mono λe W' ⟨v,he,hp⟩=>?_
 subst he
 exact ChangeSpec.post_blind hp
end
end Go.Proofs.YtoomffajodheaaaGreatDoor
