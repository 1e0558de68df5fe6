/- The law GateRuns of floodgatelaw3 is true for every input: the tied card. Proved from the walk gateRuns_any. No condition of ours. -/
import Derived.Test.YthgpbdlmadjndaaGreatDoorLdM
import Derived.Test.YthgpbdlmadjndaaGreatDoorRows
import Derived.Test.YthgpbdlmadjndaaGreatDoorTie
import Derived.Test.YthgpbdlmadjndaaGreatDoorCards
import Derived.Test.YthgpbdlmadjndaaGreatDoorOpM
import Derived.Test.YthgpbdlmadjndaaGreatDoorGrl
import Derived.ProofKit
import Derived.LaidMore
import Derived.OpenShut
import Derived.Stop.Joined
import Derived.Stop.LaidErr
import Derived.Carry
import Derived.ChangeOld
import Derived.Lib.SmallJoins
import Derived.SevenTiedAt
namespace Go.Proofs.YthgpbdlmadjndaaGreatDoor.gateRuns
open Go.ChangeShapes Go.WideShapes Go.ChangeAt Go.WideMaps Go.WideElems Go.RowKit Go.Joins
set_option linter.unusedVariables false
set_option maxRecDepth 100000
theorem door_met (os : Os) (args : Array Value) : laidMetH Tryz.prog [("errors.errorType", Rows.laid_errors_errorType), ("floodgate/api.ErrText", Rows.laid_floodgate_api_ErrText), ("floodgate/api.ErrBound", Rows.laid_floodgate_api_ErrBound), ("floodgate/api.ErrShape", Rows.laid_floodgate_api_ErrShape), ("floodgate/api.ErrNone", Rows.laid_floodgate_api_ErrNone), ("floodgate/api.ErrOld", Rows.laid_floodgate_api_ErrOld), ("floodgate/api.ErrOver", Rows.laid_floodgate_api_ErrOver), ("floodgate/api.ErrIdle", Rows.laid_floodgate_api_ErrIdle), ("floodgate/api.ErrTurn", Rows.laid_floodgate_api_ErrTurn), ("floodgate/api.ErrKind", Rows.laid_floodgate_api_ErrKind)] ((World.doorLaid Tryz.prog 187 os).forCall (fun _ _ => 0) ⟨#[], args, []⟩).memory :=
  laidMetH_of_parts3 (fuel := 8) (laidMet_of_run' 8 (by kernel_rfl) (by kernel_rfl)) (by kernel_rfl) (by kernel_rfl)
theorem lifted (os : Os) (started : os.Started) (H : Type) (enc : TypeId × Value → H) :
    ReturnsInHanded {} Tryz.checked os 3 .any (fun w args => (Rows.gateRunsSpec.pre enc Tryz.prog Tryz.f3 [] false w args ∧ laidMetH Tryz.prog [("errors.errorType", Rows.laid_errors_errorType), ("floodgate/api.ErrText", Rows.laid_floodgate_api_ErrText), ("floodgate/api.ErrBound", Rows.laid_floodgate_api_ErrBound), ("floodgate/api.ErrShape", Rows.laid_floodgate_api_ErrShape), ("floodgate/api.ErrNone", Rows.laid_floodgate_api_ErrNone), ("floodgate/api.ErrOld", Rows.laid_floodgate_api_ErrOld), ("floodgate/api.ErrOver", Rows.laid_floodgate_api_ErrOver), ("floodgate/api.ErrIdle", Rows.laid_floodgate_api_ErrIdle), ("floodgate/api.ErrTurn", Rows.laid_floodgate_api_ErrTurn), ("floodgate/api.ErrKind", Rows.laid_floodgate_api_ErrKind)] w) ∧ sizedMet enc Tryz.prog Tryz.f3 (OpenSpec.ofChange Rows.gateRunsSpec) false w args)
      (Rows.gateRunsSpec.post enc Tryz.prog Tryz.f3 false true false false) := by
  refine returnsInHanded_of_change_and (C := Tryz.checked) (X := fun w _ => laidMetH Tryz.prog [("errors.errorType", Rows.laid_errors_errorType), ("floodgate/api.ErrText", Rows.laid_floodgate_api_ErrText), ("floodgate/api.ErrBound", Rows.laid_floodgate_api_ErrBound), ("floodgate/api.ErrShape", Rows.laid_floodgate_api_ErrShape), ("floodgate/api.ErrNone", Rows.laid_floodgate_api_ErrNone), ("floodgate/api.ErrOld", Rows.laid_floodgate_api_ErrOld), ("floodgate/api.ErrOver", Rows.laid_floodgate_api_ErrOver), ("floodgate/api.ErrIdle", Rows.laid_floodgate_api_ErrIdle), ("floodgate/api.ErrTurn", Rows.laid_floodgate_api_ErrTurn), ("floodgate/api.ErrKind", Rows.laid_floodgate_api_ErrKind)] w) (fun _ _ _ hh h => h.of_heap hh) Laid.own started (by kernel_rfl) Tryz.func3
    (ChangeSpec.witness_shaped (enc := enc) (C := Tryz.checked) (os := os) (X := fun w _ => laidMetH Tryz.prog [("errors.errorType", Rows.laid_errors_errorType), ("floodgate/api.ErrText", Rows.laid_floodgate_api_ErrText), ("floodgate/api.ErrBound", Rows.laid_floodgate_api_ErrBound), ("floodgate/api.ErrShape", Rows.laid_floodgate_api_ErrShape), ("floodgate/api.ErrNone", Rows.laid_floodgate_api_ErrNone), ("floodgate/api.ErrOld", Rows.laid_floodgate_api_ErrOld), ("floodgate/api.ErrOver", Rows.laid_floodgate_api_ErrOver), ("floodgate/api.ErrIdle", Rows.laid_floodgate_api_ErrIdle), ("floodgate/api.ErrTurn", Rows.laid_floodgate_api_ErrTurn), ("floodgate/api.ErrKind", Rows.laid_floodgate_api_ErrKind)] w) false (World.doorLaid Tryz.prog 187 os) #[.agg #[.slice none 0 0, .string ByteArray.empty, .int .i64 0, .slice none 0 0], .slice none 0 0] 8 rfl (World.shaped_of_RefB (by kernel_rfl) (by kernel_rfl)) (by kernel_rfl) (by kernel_rfl) (by kernel_rfl) (door_met os _)) ?_
  intro W base args ds gs before hval0 hW _ _ hL _
  have hval : ∀ (j : Nat) t v, Tryz.f3.params[j]? = some t → args[j]? = some v → Value.okWide Tryz.prog W .any base t v := hval0
  have hW' := hW
  obtain ⟨p, q, hA0, hV, rfl, hfz, hnd⟩ := hW
  have hA : DataW.TrodAll enc Tryz.prog W 0 (fun _ => true) true Tryz.f3.params.toList args.toList ds p := hA0
  rw [Tryz.params3] at hA hval
  obtain ⟨v0, vs0, d0, ds0, p0, q0, hargs, rfl, rfl, h0, r0⟩ := trodAll_cons hA
  obtain ⟨v1, vs1, d1, ds1, p1, q1, rfl, rfl, rfl, h1, r1⟩ := trodAll_cons r0
  obtain ⟨rfl, rfl, rfl⟩ := trodAll_nil r1
  obtain rfl : args = #[v0, v1] := by cases args; simp_all
  obtain ⟨rfl, rfl⟩ := trodVars_none hV
  obtain ⟨S, hS⟩ := LaidAll.all9 hL
  have k0 := h0
  have lt0 : ∀ x ∈ p0, x.block < W.heap.size := by obtain ⟨m, hm⟩ := k0; exact DataW.trod_lt m _ _ _ hm
  obtain ⟨ga0, gcap0, gcs0, gK0, gn0, gb0, gcapb0, gns0, hg0, hll0, hgi0, hgl0, hgc0, hgn0, hgk0, hgw0⟩ : ∃ (a : Option Addr) (cap : Nat) (cs : List (List Ln)) (K : ByteArray) (n : Int) (b : Option Addr) (capb : Nat) (ns : List Int), v0 = .agg #[.slice a cs.length cap, .string K, .int .i64 n, .slice b ns.length capb] ∧ RdLL W W.heap.size a cs ∧ RdI W W.heap.size b ns ∧ (∀ l ∈ cs, l.length ≤ maxLen) ∧ cs.length ≤ maxLen ∧ ns.length ≤ maxLen ∧ K.size ≤ maxLen ∧ wf64 n := by
    obtain ⟨c0, c1, c2, c3, y0, y1, y2, y3, m, e, _, _, hy0, hy1, hy2, hy3⟩ := open_agg4 Tryz.underlying25 (by kernel_rfl) (by kernel_rfl) (hval 0 25 v0 rfl rfl) h0
    rw [e]
    exact open_gate hy0 hy1 hy2 hy3
  subst hg0
  obtain ⟨a1, len1, cap1, rfl⟩ := okWide_slice Tryz.underlying26 (hval 1 26 v1 rfl rfl)
  have k1 := h1
  have lt1 : ∀ x ∈ p1, x.block < W.heap.size := by obtain ⟨m, hm⟩ := k1; exact DataW.trod_lt m _ _ _ hm
  obtain ⟨l1, hlen1, hrd1, hwf1, hcap1⟩ : ∃ l : List Pk, l.length = len1 ∧ Rd W W.heap.size 3 Pk.cs a1 l ∧ (∀ x ∈ l, ∀ n, Value.int .i64 n ∈ Pk.cs x → wf64 n) ∧ len1 ≤ maxLen := by
    obtain ⟨fuel, hf⟩ := h1
    obtain ⟨c1, c2, c3⟩ := open_cells Tryz.underlying26 Tryz.underlying58 (by kernel_rfl) (by kernel_rfl) (by decide) (Laid.ints (by kernel_rfl)) hf
    obtain ⟨l, e1, e2, e3⟩ := list_of_cells Pk.cs Pk.cs_len mkPk c3
    exact ⟨l, e1, e2, e3, Nat.le_trans c1 c2⟩
  obtain rfl := hlen1
  clear hA0 hval0
  refine (gateRuns_any ga0 gcap0 gcs0 gK0 gn0 gb0 gcapb0 gns0 a1 cap1 l1 S W hll0 hgi0 hrd1 hS (fun l hl => Nat.le_trans (hgl0 l hl) (by simp [maxLen])) (Nat.le_trans hgc0 (by simp [maxLen])) (Nat.le_trans hgn0 (by simp [maxLen])) (Nat.le_trans hgk0 (by simp [maxLen])) (Nat.le_trans hcap1 (by simp [maxLen]))).mono fun e W' ⟨he, bel⟩ => ?_
  subst he
  exact ⟨_, rfl, _, _, _, [], _, [], hW', trodAll_mk1 (shut_bool Tryz.underlying4 _), (trodAll_cons_mk (Below.trod Laid.laidOut (by kernel_rfl) (of_decide_eq_true (by kernel_rfl)) k0 bel lt0) (trodAll_cons_mk (Below.trod Laid.laidOut (by kernel_rfl) (of_decide_eq_true (by kernel_rfl)) k1 bel lt1) trodAll_mk0)), rfl, bel.frame _, fun h => by cases h⟩
theorem said : Rows.GateRunsSaid :=
  OpenClaim.holds_of_wide 3 Tryz.f3 rfl rfl rfl rfl rfl rfl rfl ⟨rfl, rfl, rfl, rfl, rfl⟩ rfl rfl rfl rfl rfl (by kernel_rfl) Tryz.func3 (by kernel_rfl)
    (of_decide_eq_true (by kernel_rfl)) (by unfold Func.isWrapper; rw [if_neg (of_decide_eq_false (by kernel_rfl))]; exact ⟨rfl, rfl⟩)
    (fun os started H enc _ => lifted os started H enc)
theorem proved : Rows.GateRunsCardSaid :=
  Claim7.holds_tied_plain_at .later [] [.handle, .sentinel, .sentinel, .sentinel, .sentinel, .sentinel, .sentinel, .sentinel, .sentinel, .sentinel] true (true, "74896e7520389d3802dcdbbf5c0a78b897be1185a5d51628a153cc3afb35c2fe") true
    said (fun _ h => by cases h) (by kernel_rfl) (fun _ h => by cases h) gateRuns_row_tie rfl ⟨rfl, rfl⟩ (by kernel_rfl) rfl
    (fun f fn hf hfn => by
      obtain rfl : f = 3 := Option.some.inj ((show Tryz.prog.funcNamed "floodgate/floodgatelaw3.GateRuns" = some 3 by kernel_rfl).symm.trans hf) |>.symm
      obtain rfl : fn = Tryz.f3 := (Option.some.inj (Tryz.func3.symm.trans hfn)).symm
      exact ⟨by kernel_rfl, fun j t ht => by
        rw [Tryz.params3] at ht
        have hm : t ∈ [25, 26] := by have h9 := Array.mem_of_getElem? ht; simp at h9; first | simpa using h9 | (rcases h9 with h9 | h9 | h9 | h9 <;> simp [h9])
        have hall : ([25, 26].all fun u => !Tryz.prog.wantsStandIn u) = true := by kernel_rfl
        exact (show Tryz.prog.wantsStandIn t = false by simpa using List.all_eq_true.1 hall t hm)⟩)
    (by kernel_rfl)
end Go.Proofs.YthgpbdlmadjndaaGreatDoor.gateRuns
