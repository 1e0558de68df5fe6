/- floodgateref1.LineError. No condition. -/
import Derived.Test.YteeaipehkhldhaaDoorProg
import Derived.Test.YteeaipehkhldhaaDoorCv1
namespace Go.Proofs.YteeaipehkhldhaaDoor
open Go.RowKit
set_option maxRecDepth 100000
def lineErr (x : Ln) : Int := if lineB x.b x.r then 0 else 2
theorem lineErr_any (x : Ln) (w : World) :
    Calls Tryd.prog 16 #[.agg #[.int .i64 x.b, .int .i64 x.r]] w fun e w' => e = .returned (.int .i64 (lineErr x)) ∧ Below w.heap.size w w' := by
  obtain ⟨b, r⟩ := x
  go_enter Tryd.func16, Tryd.ntmps16
  go_wp2
  all_goals (go_ret; exact ⟨ret_int (by unfold lineErr lineB; symm; first | exact if_pos (decide_eq_true (by simp only; omega)) | exact if_neg (by rw [decide_eq_true_iff]; simp only; omega)), (Below.refl _ _).alloc (Nat.le_refl _) _⟩)
end Go.Proofs.YteeaipehkhldhaaDoor
