/- The law ScriptAgain of floodgatelaw3 is true for every input: the tied card. Proved from the walk again_any. No condition of ours. -/
import Derived.Test.YtoomffajodheaaaGreatDoorQLdO
import Derived.Test.YtoomffajodheaaaGreatDoorQOpenC
import Derived.Test.YtoomffajodheaaaGreatDoorRows
import Derived.Test.YtoomffajodheaaaGreatDoorTie
import Derived.Test.YtoomffajodheaaaGreatDoorCards
import Derived.Test.YtoomffajodheaaaGreatDoorQLdM
import Derived.Test.YtoomffajodheaaaGreatDoorQOpen
import Derived.Test.YtoomffajodheaaaGreatDoorQScY
import Derived.ProofKit
import Derived.LaidMore
import Derived.OpenShut
import Derived.Stop.Joined
import Derived.Stop.LaidErr
import Derived.Carry
import Derived.ChangeOld
import Derived.Lib.SmallJoins
import Derived.SevenTiedAt
import Derived.Lay
set_option linter.all false
namespace Go.Proofs.YtoomffajodheaaaGreatDoor.scriptAgain
open Go.ChangeShapes Go.WideShapes Go.ChangeAt Go.WideMaps Go.WideElems Go.RowKit Go.Joins
set_option linter.unusedVariables false
set_option maxRecDepth 100000
def plainL : List (String × DataW Unit) := [("math/bits.deBruijn32tab", Rows.laid_math_bits_deBruijn32tab), ("math/bits.deBruijn64tab", Rows.laid_math_bits_deBruijn64tab), ("internal/strconv.uint64pow10", Rows.laid_internal_strconv_uint64pow10), ("unicode/utf8.acceptRanges", Rows.laid_unicode_utf8_acceptRanges), ("floodgate/api.ErrText", Rows.laid_floodgate_api_ErrText), ("floodgate/api.ErrBound", Rows.laid_floodgate_api_ErrBound), ("floodgate/api.ErrShape", Rows.laid_floodgate_api_ErrShape), ("floodgate/api.ErrNone", Rows.laid_floodgate_api_ErrNone), ("floodgate/api.ErrOld", Rows.laid_floodgate_api_ErrOld), ("floodgate/api.ErrKind", Rows.laid_floodgate_api_ErrKind), ("strconv.ErrRange", Rows.laid_strconv_ErrRange), ("strconv.ErrSyntax", Rows.laid_strconv_ErrSyntax), ("unicode/utf8.first", Rows.laid_unicode_utf8_first)]
noncomputable def doorW (os : Os) : World := (World.doorLaid Tryz.prog 250 os).layVars Tryz.prog plainL
theorem fits (os : Os) : (World.doorLaid Tryz.prog 250 os).layFits Tryz.prog plainL [] = true := by kernel_rfl
theorem ifs (os : Os) : (World.doorLaid Tryz.prog 250 os).layIfaces Tryz.prog plainL (doorW os) = true := by kernel_rfl
theorem plain_met (os : Os) (args : Array Value) : laidMet Tryz.prog plainL ((doorW os).forCall (fun _ _ => 0) ⟨#[], args, []⟩).memory := by
  have e1 : (plainL.filter fun x => (plainL.map (·.1)).contains x.1) = plainL := List.filter_eq_self.2 fun x hx => List.contains_iff_mem.2 (List.mem_map.2 ⟨x, hx, rfl⟩)
  have e2 : (plainL.filter fun x => !(plainL.map (·.1)).contains x.1) = [] := List.filter_eq_nil_iff.2 fun x hx => by rw [List.contains_iff_mem.2 (List.mem_map.2 ⟨x, hx, rfl⟩)]; simp
  have h : laidMet Tryz.prog plainL (doorW os) := laidMet_layVars (w0 := World.doorLaid Tryz.prog 250 os) (plainL.map (·.1)) [] (by rw [e1]; rfl) (by rw [e1]; exact fits os) (by rw [e1]; exact ifs os) (by rw [e2]; exact LaidIn.none)
  exact h.of_heap (by simp [World.memory, World.forCall, Input.heap])
theorem door_met (os : Os) (args : Array Value) : laidMetH Tryz.prog [("math/bits.deBruijn32tab", Rows.laid_math_bits_deBruijn32tab), ("math/bits.deBruijn64tab", Rows.laid_math_bits_deBruijn64tab), ("internal/strconv.uint64pow10", Rows.laid_internal_strconv_uint64pow10), ("unicode/utf8.acceptRanges", Rows.laid_unicode_utf8_acceptRanges), ("errors.errorType", Rows.laid_errors_errorType), ("floodgate/api.ErrText", Rows.laid_floodgate_api_ErrText), ("floodgate/api.ErrBound", Rows.laid_floodgate_api_ErrBound), ("floodgate/api.ErrShape", Rows.laid_floodgate_api_ErrShape), ("floodgate/api.ErrNone", Rows.laid_floodgate_api_ErrNone), ("floodgate/api.ErrOld", Rows.laid_floodgate_api_ErrOld), ("floodgate/api.ErrKind", Rows.laid_floodgate_api_ErrKind), ("strconv.ErrRange", Rows.laid_strconv_ErrRange), ("strconv.ErrSyntax", Rows.laid_strconv_ErrSyntax), ("unicode/utf8.first", Rows.laid_unicode_utf8_first)] ((doorW os).forCall (fun _ _ => 0) ⟨#[], args, []⟩).memory :=
  laidMetH_of_parts3 (fuel := 8) (plain_met os args) (by kernel_rfl) (by kernel_rfl)
theorem lifted (os : Os) (started : os.Started) (H : Type) (enc : TypeId × Value → H) :
    ReturnsInHanded {} Tryz.checked os 5 .any (fun w args => (Rows.scriptAgainSpec.pre enc Tryz.prog Tryz.f5 [] false w args ∧ laidMetH Tryz.prog [("math/bits.deBruijn32tab", Rows.laid_math_bits_deBruijn32tab), ("math/bits.deBruijn64tab", Rows.laid_math_bits_deBruijn64tab), ("internal/strconv.uint64pow10", Rows.laid_internal_strconv_uint64pow10), ("unicode/utf8.acceptRanges", Rows.laid_unicode_utf8_acceptRanges), ("errors.errorType", Rows.laid_errors_errorType), ("floodgate/api.ErrText", Rows.laid_floodgate_api_ErrText), ("floodgate/api.ErrBound", Rows.laid_floodgate_api_ErrBound), ("floodgate/api.ErrShape", Rows.laid_floodgate_api_ErrShape), ("floodgate/api.ErrNone", Rows.laid_floodgate_api_ErrNone), ("floodgate/api.ErrOld", Rows.laid_floodgate_api_ErrOld), ("floodgate/api.ErrKind", Rows.laid_floodgate_api_ErrKind), ("strconv.ErrRange", Rows.laid_strconv_ErrRange), ("strconv.ErrSyntax", Rows.laid_strconv_ErrSyntax), ("unicode/utf8.first", Rows.laid_unicode_utf8_first)] w) ∧ sizedMet enc Tryz.prog Tryz.f5 (OpenSpec.ofChange Rows.scriptAgainSpec) false w args)
      (Rows.scriptAgainSpec.post enc Tryz.prog Tryz.f5 false true false false) := by
  refine returnsIn_and_shaped (C := Tryz.checked) (X := fun w _ => laidMetH Tryz.prog [("math/bits.deBruijn32tab", Rows.laid_math_bits_deBruijn32tab), ("math/bits.deBruijn64tab", Rows.laid_math_bits_deBruijn64tab), ("internal/strconv.uint64pow10", Rows.laid_internal_strconv_uint64pow10), ("unicode/utf8.acceptRanges", Rows.laid_unicode_utf8_acceptRanges), ("errors.errorType", Rows.laid_errors_errorType), ("floodgate/api.ErrText", Rows.laid_floodgate_api_ErrText), ("floodgate/api.ErrBound", Rows.laid_floodgate_api_ErrBound), ("floodgate/api.ErrShape", Rows.laid_floodgate_api_ErrShape), ("floodgate/api.ErrNone", Rows.laid_floodgate_api_ErrNone), ("floodgate/api.ErrOld", Rows.laid_floodgate_api_ErrOld), ("floodgate/api.ErrKind", Rows.laid_floodgate_api_ErrKind), ("strconv.ErrRange", Rows.laid_strconv_ErrRange), ("strconv.ErrSyntax", Rows.laid_strconv_ErrSyntax), ("unicode/utf8.first", Rows.laid_unicode_utf8_first)] w) (fun _ _ _ hh h => h.of_heap hh) Laid.own started (by kernel_rfl) Tryz.func5
    (ChangeSpec.witness_shaped (enc := enc) (C := Tryz.checked) (os := os) (X := fun w _ => laidMetH Tryz.prog [("math/bits.deBruijn32tab", Rows.laid_math_bits_deBruijn32tab), ("math/bits.deBruijn64tab", Rows.laid_math_bits_deBruijn64tab), ("internal/strconv.uint64pow10", Rows.laid_internal_strconv_uint64pow10), ("unicode/utf8.acceptRanges", Rows.laid_unicode_utf8_acceptRanges), ("errors.errorType", Rows.laid_errors_errorType), ("floodgate/api.ErrText", Rows.laid_floodgate_api_ErrText), ("floodgate/api.ErrBound", Rows.laid_floodgate_api_ErrBound), ("floodgate/api.ErrShape", Rows.laid_floodgate_api_ErrShape), ("floodgate/api.ErrNone", Rows.laid_floodgate_api_ErrNone), ("floodgate/api.ErrOld", Rows.laid_floodgate_api_ErrOld), ("floodgate/api.ErrKind", Rows.laid_floodgate_api_ErrKind), ("strconv.ErrRange", Rows.laid_strconv_ErrRange), ("strconv.ErrSyntax", Rows.laid_strconv_ErrSyntax), ("unicode/utf8.first", Rows.laid_unicode_utf8_first)] w) false (doorW os) #[.slice none 0 0, .int .i64 0] 8 (World.layVars_os _ _ _) (World.shaped_of_ZipB (by kernel_rfl) (by kernel_rfl)) (by kernel_rfl) (by kernel_rfl) (by kernel_rfl) (door_met os _)) ?_
  intro W base args ds gs before hval0 hW hL hsh
  have hval : ∀ (j : Nat) t v, Tryz.f5.params[j]? = some t → args[j]? = some v → Value.okWide Tryz.prog W .any base t v := hval0
  have hW' := hW
  obtain ⟨p, q, hA0, hV, rfl, hfz, hnd⟩ := hW
  have hA : DataW.TrodAll enc Tryz.prog W 0 (fun _ => true) true Tryz.f5.params.toList args.toList ds p := hA0
  rw [Tryz.params5] at hA hval
  obtain ⟨v0, vs0, d0, ds0, p0, q0, hargs, rfl, rfl, h0, r0⟩ := trodAll_cons hA
  obtain ⟨v1, vs1, d1, ds1, p1, q1, rfl, rfl, rfl, h1, r1⟩ := trodAll_cons r0
  obtain ⟨rfl, rfl, rfl⟩ := trodAll_nil r1
  obtain rfl : args = #[v0, v1] := by cases args; simp_all
  obtain ⟨rfl, rfl⟩ := trodVars_none hV
  obtain ⟨S, hS⟩ := LaidS.sx hL hsh
  obtain ⟨a0, len0, cap0, rfl⟩ := okWide_slice Tryz.underlying22 (hval 0 22 v0 rfl rfl)
  have k0 := h0
  have lt0 : ∀ x ∈ p0, x.block < W.heap.size := by obtain ⟨m, hm⟩ := k0; exact DataW.trod_lt m _ _ _ hm
  obtain ⟨l0, hlen0, hrd0, hwf0, hcap0⟩ : ∃ l : List Cm, l.length = len0 ∧ RdC W a0 l ∧ (∀ c ∈ l, ∀ x ∈ c.n, i64 x) ∧ len0 ≤ maxLen := by
    obtain ⟨fuel, hf⟩ := h0
    exact open_cmds hf
  obtain rfl := hlen0
  obtain ⟨n1, rfl, rfl, rfl, wn1⟩ := open_int Tryz.underlying3 (hval 1 3 v1 rfl rfl) h1
  clear hA0 hval0
  refine (again_any a0 cap0 l0 n1 S W hrd0 hS hwf0 (Nat.le_trans hcap0 (by simp [maxLen]))).mono fun e W' ⟨he, bel⟩ => ?_
  subst he
  exact ⟨_, rfl, _, _, _, [], _, [], hW', trodAll_mk1 (shut_bool Tryz.underlying4 _), (trodAll_cons_mk (Below.trod Laid.laidOut (by kernel_rfl) (of_decide_eq_true (by kernel_rfl)) k0 bel lt0) (trodAll_cons_mk (shut_int Tryz.underlying3 wn1) trodAll_mk0)), rfl, bel.frame _, fun h => by cases h⟩
theorem said : Rows.ScriptAgainSaid :=
  OpenClaim.holds_of_wide 5 Tryz.f5 rfl rfl rfl rfl rfl rfl rfl ⟨rfl, rfl, rfl, rfl, rfl⟩ rfl rfl rfl rfl rfl (by kernel_rfl) Tryz.func5 (by kernel_rfl)
    (of_decide_eq_true (by kernel_rfl)) (by unfold Func.isWrapper; rw [if_neg (of_decide_eq_false (by kernel_rfl))]; exact ⟨rfl, rfl⟩)
    (fun os started H enc _ => lifted os started H enc)
theorem proved : Rows.ScriptAgainCardSaid :=
  Claim7.holds_tied_plain_at .later [] [.data, .data, .data, .data, .handle, .sentinel, .sentinel, .sentinel, .sentinel, .sentinel, .sentinel, .sentinel, .sentinel, .pinned] true (true, "513b453fee6fd2bea73f63a70781aee9bb56883cc92da33e289269b9c0ba2bca") true
    said (fun _ h => by cases h) (by kernel_rfl) (fun _ h => by cases h) scriptAgain_row_tie rfl ⟨rfl, rfl⟩ (by kernel_rfl) rfl
    (fun f fn hf hfn => by
      obtain rfl : f = 5 := Option.some.inj ((show Tryz.prog.funcNamed "floodgate/floodgatelaw3.ScriptAgain" = some 5 by kernel_rfl).symm.trans hf) |>.symm
      obtain rfl : fn = Tryz.f5 := (Option.some.inj (Tryz.func5.symm.trans hfn)).symm
      exact ⟨by kernel_rfl, fun j t ht => by
        rw [Tryz.params5] at ht
        have hm : t ∈ [22, 3] := by have h9 := Array.mem_of_getElem? ht; simp at h9; first | simpa using h9 | (rcases h9 with h9 | h9 | h9 | h9 <;> simp [h9])
        have hall : ([22, 3].all fun u => !Tryz.prog.wantsStandIn u) = true := by kernel_rfl
        exact (show Tryz.prog.wantsStandIn t = false by simpa using List.all_eq_true.1 hall t hm)⟩)
    (by kernel_rfl)
end Go.Proofs.YtoomffajodheaaaGreatDoor.scriptAgain
