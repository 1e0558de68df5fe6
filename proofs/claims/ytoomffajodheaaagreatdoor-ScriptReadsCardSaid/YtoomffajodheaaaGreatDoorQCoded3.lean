/- floodgatelaw2's coded and faulted; floodgateref1's CurveFault, Fine, Bare, AtOf. Conditions written at each. -/
import Derived.Test.YtoomffajodheaaaGreatDoorQIsM
set_option linter.all false
namespace Go.Proofs.YtoomffajodheaaaGreatDoor
open Go.RowKit
set_option maxRecDepth 100000

theorem coded2_any (v : Value) (k : Nat) (a : Int) (S : Nat → Addr) (w : World) (B : Nat) (hB : B ≤ w.heap.size) (h : All9 w B S) (hv : Er w B S v k a) (ha : a = -1) :
    Calls Tryz.prog 12 #[v, .int .i64 k] w fun e w' => e = .returned (.bool true) ∧ Below w.heap.size w w' := by
  subst ha
  go_enter Tryz.func12, Tryz.ntmps12
  go_wp2_with fail
  refine (code_any v k (-1) S _ B hB h hv).mono ?_
  rintro e w1 ⟨rfl, k1⟩
  go_wp2_with fail
  go_ret
  exact ⟨by first | rfl | simp, k1⟩

end Go.Proofs.YtoomffajodheaaaGreatDoor
