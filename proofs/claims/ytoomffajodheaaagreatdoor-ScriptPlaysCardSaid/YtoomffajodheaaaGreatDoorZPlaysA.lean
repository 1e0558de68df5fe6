/- The proof of ScriptPlays, part PlaysA. Conditions: in each statement. -/
import Derived.Test.YtoomffajodheaaaGreatDoorZOpenC
import Derived.Test.YtoomffajodheaaaGreatDoorTie
import Derived.Test.YtoomffajodheaaaGreatDoorCards
import Derived.Lib.SmallJoins
import Derived.Lay
set_option linter.all false
namespace Go.Proofs.YtoomffajodheaaaGreatDoor.scriptPlays
open Go.ChangeShapes Go.WideShapes Go.ChangeAt Go.WideMaps Go.WideElems Go.RowKit Go.Joins
set_option linter.unusedVariables false
set_option maxRecDepth 100000
def kH:List (String × DataW Unit):=[("math/bits.deBruijn32tab",Rows.laid_math_bits_deBruijn32tab),("math/bits.deBruijn64tab",Rows.laid_math_bits_deBruijn64tab),("internal/strconv.uint64pow10",Rows.laid_internal_strconv_uint64pow10),("unicode/utf8.acceptRanges",Rows.laid_unicode_utf8_acceptRanges),("floodgate/api.ErrText",Rows.laid_floodgate_api_ErrText),("floodgate/api.ErrBound",Rows.laid_floodgate_api_ErrBound),("floodgate/api.ErrShape",Rows.laid_floodgate_api_ErrShape),("floodgate/api.ErrNone",Rows.laid_floodgate_api_ErrNone),("floodgate/api.ErrOld",Rows.laid_floodgate_api_ErrOld),("floodgate/api.ErrKind",Rows.laid_floodgate_api_ErrKind),("strconv.ErrRange",Rows.laid_strconv_ErrRange),("strconv.ErrSyntax",Rows.laid_strconv_ErrSyntax),("unicode/utf8.first",Rows.laid_unicode_utf8_first)]
noncomputable def amT (os:Os):World:=(World.doorLaid Tryz.prog 250 os).layVars Tryz.prog kH
theorem fits (os:Os):(World.doorLaid Tryz.prog 250 os).layFits Tryz.prog kH []=true:=zK
theorem ifs (os:Os):(World.doorLaid Tryz.prog 250 os).layIfaces Tryz.prog kH (amT os)=true:=zK
theorem asO (os:Os) (args:Array Value):laidMet Tryz.prog kH ((amT os).forCall (λ_ _=>0) ⟨#[],args,[]⟩).memory:=by
 have e1:(kH.filter λx=>(kH.map (·.1)).contains x.1)=kH:=List.filter_eq_self.2 λx hx=>List.contains_iff_mem.2 (zAT.2 ⟨x,hx,rfl⟩)
 have e2:(kH.filter λx=> !(kH.map (·.1)).contains x.1)=[]:=List.filter_eq_nil_iff.2 λx hx=>by rw [List.contains_iff_mem.2 (zAT.2 ⟨x,hx,rfl⟩)];simp
 have h:laidMet Tryz.prog kH (amT os):=laidMet_layVars (w0:=World.doorLaid Tryz.prog 250 os) (kH.map (·.1)) [] (by rw [e1];rfl) (by rw [e1];exact fits os) (by rw [e1];exact ifs os) (by rw [e2];exact LaidIn.none)
 exact h.of_heap (by simp [World.memory,World.forCall,Input.heap])
theorem axE (os:Os) (args:Array Value):laidMetH Tryz.prog [("math/bits.deBruijn32tab",Rows.laid_math_bits_deBruijn32tab),("math/bits.deBruijn64tab",Rows.laid_math_bits_deBruijn64tab),("internal/strconv.uint64pow10",Rows.laid_internal_strconv_uint64pow10),("unicode/utf8.acceptRanges",Rows.laid_unicode_utf8_acceptRanges),("errors.errorType",Rows.laid_errors_errorType),("floodgate/api.ErrText",Rows.laid_floodgate_api_ErrText),("floodgate/api.ErrBound",Rows.laid_floodgate_api_ErrBound),("floodgate/api.ErrShape",Rows.laid_floodgate_api_ErrShape),("floodgate/api.ErrNone",Rows.laid_floodgate_api_ErrNone),("floodgate/api.ErrOld",Rows.laid_floodgate_api_ErrOld),("floodgate/api.ErrKind",Rows.laid_floodgate_api_ErrKind),("strconv.ErrRange",Rows.laid_strconv_ErrRange),("strconv.ErrSyntax",Rows.laid_strconv_ErrSyntax),("unicode/utf8.first",Rows.laid_unicode_utf8_first)] ((amT os).forCall (λ_ _=>0) ⟨#[],args,[]⟩).memory:=
 laidMetH_of_parts3 (fuel:=8) (asO os args) zK zK
theorem lifted (os:Os) (started:os.Started) (H:Type) (enc:TypeId × Value->H):
 ReturnsInHanded {} Tryz.checked os 3 .any (λw args=>(Rows.scriptPlaysSpec.pre enc Tryz.prog Tryz.f3 [] false w args/\laidMetH Tryz.prog [("math/bits.deBruijn32tab",Rows.laid_math_bits_deBruijn32tab),("math/bits.deBruijn64tab",Rows.laid_math_bits_deBruijn64tab),("internal/strconv.uint64pow10",Rows.laid_internal_strconv_uint64pow10),("unicode/utf8.acceptRanges",Rows.laid_unicode_utf8_acceptRanges),("errors.errorType",Rows.laid_errors_errorType),("floodgate/api.ErrText",Rows.laid_floodgate_api_ErrText),("floodgate/api.ErrBound",Rows.laid_floodgate_api_ErrBound),("floodgate/api.ErrShape",Rows.laid_floodgate_api_ErrShape),("floodgate/api.ErrNone",Rows.laid_floodgate_api_ErrNone),("floodgate/api.ErrOld",Rows.laid_floodgate_api_ErrOld),("floodgate/api.ErrKind",Rows.laid_floodgate_api_ErrKind),("strconv.ErrRange",Rows.laid_strconv_ErrRange),("strconv.ErrSyntax",Rows.laid_strconv_ErrSyntax),("unicode/utf8.first",Rows.laid_unicode_utf8_first)] w)/\sizedMet enc Tryz.prog Tryz.f3 (OpenSpec.ofChange Rows.scriptPlaysSpec) false w args)
  (Rows.scriptPlaysSpec.post enc Tryz.prog Tryz.f3 false true false false):=by
 refine abS (C:=Tryz.checked) (X:=λw _=>laidMetH Tryz.prog [("math/bits.deBruijn32tab",Rows.laid_math_bits_deBruijn32tab),("math/bits.deBruijn64tab",Rows.laid_math_bits_deBruijn64tab),("internal/strconv.uint64pow10",Rows.laid_internal_strconv_uint64pow10),("unicode/utf8.acceptRanges",Rows.laid_unicode_utf8_acceptRanges),("errors.errorType",Rows.laid_errors_errorType),("floodgate/api.ErrText",Rows.laid_floodgate_api_ErrText),("floodgate/api.ErrBound",Rows.laid_floodgate_api_ErrBound),("floodgate/api.ErrShape",Rows.laid_floodgate_api_ErrShape),("floodgate/api.ErrNone",Rows.laid_floodgate_api_ErrNone),("floodgate/api.ErrOld",Rows.laid_floodgate_api_ErrOld),("floodgate/api.ErrKind",Rows.laid_floodgate_api_ErrKind),("strconv.ErrRange",Rows.laid_strconv_ErrRange),("strconv.ErrSyntax",Rows.laid_strconv_ErrSyntax),("unicode/utf8.first",Rows.laid_unicode_utf8_first)] w) (λ_ _ _ hh h=>h.of_heap hh) Laid.own started zK Tryz.func3
  (ChangeSpec.witness_shaped (enc:=enc) (C:=Tryz.checked) (os:=os) (X:=λw _=>laidMetH Tryz.prog [("math/bits.deBruijn32tab",Rows.laid_math_bits_deBruijn32tab),("math/bits.deBruijn64tab",Rows.laid_math_bits_deBruijn64tab),("internal/strconv.uint64pow10",Rows.laid_internal_strconv_uint64pow10),("unicode/utf8.acceptRanges",Rows.laid_unicode_utf8_acceptRanges),("errors.errorType",Rows.laid_errors_errorType),("floodgate/api.ErrText",Rows.laid_floodgate_api_ErrText),("floodgate/api.ErrBound",Rows.laid_floodgate_api_ErrBound),("floodgate/api.ErrShape",Rows.laid_floodgate_api_ErrShape),("floodgate/api.ErrNone",Rows.laid_floodgate_api_ErrNone),("floodgate/api.ErrOld",Rows.laid_floodgate_api_ErrOld),("floodgate/api.ErrKind",Rows.laid_floodgate_api_ErrKind),("strconv.ErrRange",Rows.laid_strconv_ErrRange),("strconv.ErrSyntax",Rows.laid_strconv_ErrSyntax),("unicode/utf8.first",Rows.laid_unicode_utf8_first)] w) false (amT os) #[.slice none 0 0] 8 (World.layVars_os _ _ _) (World.shaped_of_ZipB zK zK) zK zK zK (axE os _)) ?_
 intro W base args ds gs before hval0 hW hL hsh
 have hval:∀(j:Nat) t v,Tryz.f3.params[j]?=some t->args[j]?=some v->Value.okWide Tryz.prog W .any base t v:=hval0
 have hW':=hW
 obtain ⟨p,q,hA0,hV,rfl,hfz,hnd⟩:=hW
 have hA:DataW.TrodAll enc Tryz.prog W 0 (λ_=>true) true Tryz.f3.params.toList args.toList ds p:=hA0
 rw [Tryz.params3] at hA hval
 obtain ⟨v0,vs0,d0,ds0,p0,q0,hargs,rfl,rfl,h0,r0⟩:=trodAll_cons hA
 obtain ⟨rfl,rfl,rfl⟩:=trodAll_nil r0
 obtain rfl:args=#[v0]:=by cases args;simp_all
 obtain ⟨rfl,rfl⟩:=trodVars_none hV
 obtain ⟨S,hS⟩:=LaidS.sx hL hsh
 obtain ⟨a0,len0,cap0,rfl⟩:=okWide_slice Tryz.underlying22 (hval 0 22 v0 rfl rfl)
 have k0:=h0
 have lt0:∀x∈p0,x.block<W.heap.size:=by obtain ⟨m,hm⟩:=k0;exact DataW.trod_lt m _ _ _ hm
 obtain ⟨l0,hlen0,hrd0,hwf0,hcap0⟩:∃l:List Cm,l.length=len0/\RdC W a0 l/\(∀c∈l,∀x∈c.n,i64 x)/\len0<=maxLen:=by
  obtain ⟨fuel,hf⟩:=h0
  exact asY hf
 obtain rfl:=hlen0
 clear hA0 hval0
 refine (asN a0 cap0 l0 S W hrd0 hS hwf0 (zAB hcap0 (by simp [maxLen]))).mono λe W' ⟨he,bel⟩=>?_
 subst he
 exact ⟨_,rfl,_,_,_,[],_,[],hW',trodAll_mk1 (shut_bool Tryz.underlying4 _),(trodAll_mk1 (Below.trod Laid.laidOut zK (of_decide_eq_true zK) k0 bel lt0)),rfl,bel.frame _,λh=>by cases h⟩
end Go.Proofs.YtoomffajodheaaaGreatDoor.scriptPlays
