/- The law GateOpen of floodgatelaw3 is true for every input: the tied card. Proved from the walk gateOpen_any. No condition of ours. -/
import Derived.Test.YthgpbdlmadjndaaDoorLaidG
import Derived.Test.YthgpbdlmadjndaaDoorRows
import Derived.Test.YthgpbdlmadjndaaDoorTie
import Derived.Test.YthgpbdlmadjndaaDoorCards
import Derived.Test.YthgpbdlmadjndaaDoorLdM
import Derived.Test.YthgpbdlmadjndaaDoorOpM
import Derived.Test.YthgpbdlmadjndaaDoorGopL
import Derived.ProofKit
import Derived.LaidMore
import Derived.OpenShut
import Derived.Stop.Joined
import Derived.Stop.LaidErr
import Derived.Carry
import Derived.ChangeOld
import Derived.Lib.SmallJoins
import Derived.SevenTiedAt
namespace Go.Proofs.YthgpbdlmadjndaaDoor.gateOpen
open Go.ChangeShapes Go.WideShapes Go.ChangeAt Go.WideMaps Go.WideElems Go.RowKit Go.Joins
set_option linter.unusedVariables false
set_option maxRecDepth 100000
theorem door_met (os : Os) (args : Array Value) : laidMetH Tryd.prog [("errors.errorType", Rows.laid_errors_errorType), ("floodgate/api.ErrBound", Rows.laid_floodgate_api_ErrBound), ("floodgate/api.ErrShape", Rows.laid_floodgate_api_ErrShape), ("floodgate/api.ErrNone", Rows.laid_floodgate_api_ErrNone), ("floodgate/api.ErrOld", Rows.laid_floodgate_api_ErrOld), ("floodgate/api.ErrKind", Rows.laid_floodgate_api_ErrKind)] ((World.doorLaid Tryd.prog 187 os).forCall (fun _ _ => 0) ⟨#[], args, []⟩).memory :=
  laidMetH_of_parts3 (fuel := 8) (laidMet_of_run' 8 (by kernel_rfl) (by kernel_rfl)) (by kernel_rfl) (by kernel_rfl)
theorem lifted (os : Os) (started : os.Started) (H : Type) (enc : TypeId × Value → H) :
    ReturnsInHanded {} Tryd.checked os 6 .any (fun w args => (Rows.gateOpenSpec.pre enc Tryd.prog Tryd.f6 [] false w args ∧ laidMetH Tryd.prog [("errors.errorType", Rows.laid_errors_errorType), ("floodgate/api.ErrBound", Rows.laid_floodgate_api_ErrBound), ("floodgate/api.ErrShape", Rows.laid_floodgate_api_ErrShape), ("floodgate/api.ErrNone", Rows.laid_floodgate_api_ErrNone), ("floodgate/api.ErrOld", Rows.laid_floodgate_api_ErrOld), ("floodgate/api.ErrKind", Rows.laid_floodgate_api_ErrKind)] w) ∧ sizedMet enc Tryd.prog Tryd.f6 (OpenSpec.ofChange Rows.gateOpenSpec) false w args)
      (Rows.gateOpenSpec.post enc Tryd.prog Tryd.f6 false true false false) := by
  refine returnsInHanded_of_change_and (C := Tryd.checked) (X := fun w _ => laidMetH Tryd.prog [("errors.errorType", Rows.laid_errors_errorType), ("floodgate/api.ErrBound", Rows.laid_floodgate_api_ErrBound), ("floodgate/api.ErrShape", Rows.laid_floodgate_api_ErrShape), ("floodgate/api.ErrNone", Rows.laid_floodgate_api_ErrNone), ("floodgate/api.ErrOld", Rows.laid_floodgate_api_ErrOld), ("floodgate/api.ErrKind", Rows.laid_floodgate_api_ErrKind)] w) (fun _ _ _ hh h => h.of_heap hh) Laid.own started (by kernel_rfl) Tryd.func6
    (ChangeSpec.witness_shaped (enc := enc) (C := Tryd.checked) (os := os) (X := fun w _ => laidMetH Tryd.prog [("errors.errorType", Rows.laid_errors_errorType), ("floodgate/api.ErrBound", Rows.laid_floodgate_api_ErrBound), ("floodgate/api.ErrShape", Rows.laid_floodgate_api_ErrShape), ("floodgate/api.ErrNone", Rows.laid_floodgate_api_ErrNone), ("floodgate/api.ErrOld", Rows.laid_floodgate_api_ErrOld), ("floodgate/api.ErrKind", Rows.laid_floodgate_api_ErrKind)] w) false (World.doorLaid Tryd.prog 187 os) #[.slice none 0 0, .int .i64 0, .slice none 0 0] 8 rfl (World.shaped_of_RefB (by kernel_rfl) (by kernel_rfl)) (by kernel_rfl) (by kernel_rfl) (by kernel_rfl) (door_met os _)) ?_
  intro W base args ds gs before hval0 hW _ _ hL _
  have hval : ∀ (j : Nat) t v, Tryd.f6.params[j]? = some t → args[j]? = some v → Value.okWide Tryd.prog W .any base t v := hval0
  have hW' := hW
  obtain ⟨p, q, hA0, hV, rfl, hfz, hnd⟩ := hW
  have hA : DataW.TrodAll enc Tryd.prog W 0 (fun _ => true) true Tryd.f6.params.toList args.toList ds p := hA0
  rw [Tryd.params6] at hA hval
  obtain ⟨v0, vs0, d0, ds0, p0, q0, hargs, rfl, rfl, h0, r0⟩ := trodAll_cons hA
  obtain ⟨v1, vs1, d1, ds1, p1, q1, rfl, rfl, rfl, h1, r1⟩ := trodAll_cons r0
  obtain ⟨v2, vs2, d2, ds2, p2, q2, rfl, rfl, rfl, h2, r2⟩ := trodAll_cons r1
  obtain ⟨rfl, rfl, rfl⟩ := trodAll_nil r2
  obtain rfl : args = #[v0, v1, v2] := by cases args; simp_all
  obtain ⟨rfl, rfl⟩ := trodVars_none hV
  obtain ⟨S, hS⟩ := LaidG.gs hL
  obtain ⟨a0, len0, cap0, rfl⟩ := okWide_slice Tryd.underlying26 (hval 0 26 v0 rfl rfl)
  have k0 := h0
  have lt0 : ∀ x ∈ p0, x.block < W.heap.size := by obtain ⟨m, hm⟩ := k0; exact DataW.trod_lt m _ _ _ hm
  obtain ⟨l0, hlen0, hrd0, hwf0, hcap0⟩ : ∃ l : List Pk, l.length = len0 ∧ Rd W W.heap.size 3 Pk.cs a0 l ∧ (∀ x ∈ l, ∀ n, Value.int .i64 n ∈ Pk.cs x → wf64 n) ∧ len0 ≤ maxLen := by
    obtain ⟨fuel, hf⟩ := h0
    obtain ⟨c1, c2, c3⟩ := open_cells Tryd.underlying26 Tryd.underlying42 (by kernel_rfl) (by kernel_rfl) (by decide) (Laid.ints (by kernel_rfl)) hf
    obtain ⟨l, e1, e2, e3⟩ := list_of_cells Pk.cs Pk.cs_len mkPk c3
    exact ⟨l, e1, e2, e3, Nat.le_trans c1 c2⟩
  obtain rfl := hlen0
  obtain ⟨n1, rfl, rfl, rfl, wn1⟩ := open_int Tryd.underlying3 (hval 1 3 v1 rfl rfl) h1
  obtain ⟨a2, len2, cap2, rfl⟩ := okWide_slice Tryd.underlying22 (hval 2 22 v2 rfl rfl)
  have k2 := h2
  have lt2 : ∀ x ∈ p2, x.block < W.heap.size := by obtain ⟨m, hm⟩ := k2; exact DataW.trod_lt m _ _ _ hm
  obtain ⟨l2, hlen2, hrd2, hwf2, hcap2⟩ : ∃ l : List Int, l.length = len2 ∧ RdI W W.heap.size a2 l ∧ (∀ n ∈ l, wf64 n) ∧ len2 ≤ maxLen := by
    obtain ⟨fuel, hf⟩ := h2
    exact open_I Tryd.underlying22 Tryd.underlying3 (by kernel_rfl) hf
  obtain rfl := hlen2
  clear hA0 hval0
  refine (gateOpen_any a0 cap0 l0 n1 a2 cap2 l2 S W hrd0 hrd2 hS (Nat.le_trans hcap0 (by simp [maxLen])) (Nat.le_trans hcap2 (by simp [maxLen]))).mono fun e W' ⟨he, bel⟩ => ?_
  subst he
  exact ⟨_, rfl, _, _, _, [], _, [], hW', trodAll_mk1 (shut_bool Tryd.underlying4 _), (trodAll_cons_mk (Below.trod Laid.laidOut (by kernel_rfl) (of_decide_eq_true (by kernel_rfl)) k0 bel lt0) (trodAll_cons_mk (shut_int Tryd.underlying3 wn1) (trodAll_cons_mk (Below.trod Laid.laidOut (by kernel_rfl) (of_decide_eq_true (by kernel_rfl)) k2 bel lt2) trodAll_mk0))), rfl, bel.frame _, fun h => by cases h⟩
theorem said : Rows.GateOpenSaid :=
  OpenClaim.holds_of_wide 6 Tryd.f6 rfl rfl rfl rfl rfl rfl rfl ⟨rfl, rfl, rfl, rfl, rfl⟩ rfl rfl rfl rfl rfl (by kernel_rfl) Tryd.func6 (by kernel_rfl)
    (of_decide_eq_true (by kernel_rfl)) (by unfold Func.isWrapper; rw [if_neg (of_decide_eq_false (by kernel_rfl))]; exact ⟨rfl, rfl⟩)
    (fun os started H enc _ => lifted os started H enc)
theorem proved : Rows.GateOpenCardSaid :=
  Claim7.holds_tied_plain_at .later [] [.handle, .sentinel, .sentinel, .sentinel, .sentinel, .sentinel] true (true, "5176c2a989f8830cd982420b9e0a50362fa111e8a0388900ff391d33169bddc3") true
    said (fun _ h => by cases h) (by kernel_rfl) (fun _ h => by cases h) gateOpen_row_tie rfl ⟨rfl, rfl⟩ (by kernel_rfl) rfl
    (fun f fn hf hfn => by
      obtain rfl : f = 6 := Option.some.inj ((show Tryd.prog.funcNamed "floodgate/floodgatelaw3.GateOpen" = some 6 by kernel_rfl).symm.trans hf) |>.symm
      obtain rfl : fn = Tryd.f6 := (Option.some.inj (Tryd.func6.symm.trans hfn)).symm
      exact ⟨by kernel_rfl, fun j t ht => by
        rw [Tryd.params6] at ht
        have hm : t ∈ [26, 3, 22] := by have h9 := Array.mem_of_getElem? ht; simp at h9; first | simpa using h9 | (rcases h9 with h9 | h9 | h9 | h9 <;> simp [h9])
        have hall : ([26, 3, 22].all fun u => !Tryd.prog.wantsStandIn u) = true := by kernel_rfl
        exact (show Tryd.prog.wantsStandIn t = false by simpa using List.all_eq_true.1 hall t hm)⟩)
    (by kernel_rfl)
end Go.Proofs.YthgpbdlmadjndaaDoor.gateOpen
