/- floodgateref1's Fault as a value; Bare, Fine. No condition. (The part of XCvRef that names no curve.) -/
import Derived.Test.YthgpbdlmadjndaaGreatDoorProg
import Derived.Test.YthgpbdlmadjndaaGreatDoorBaseM
import Derived.WalkKit
import Derived.WalkLawsBesides
import Derived.WalkSpells
import Derived.BigQuiet
import Derived.Deep.QuietTactic
namespace Go.Proofs.YthgpbdlmadjndaaGreatDoor
open Go.RowKit
set_option maxRecDepth 100000
def fv (k a : Int) : Value := .agg #[.int .i64 k, .int .i64 a]
theorem ret_fv {k a k' a' : Int} (h : k = k') (h2 : a = a') : Ending.returned (.agg #[.int .i64 k, .int .i64 a]) = .returned (fv k' a') := by rw [h, h2]; rfl
theorem infoFv : (Tryz.prog.info? 37).map (·.size) = some 2 := by kernel_rfl
theorem bare_any (k : Int) (w : World) : Calls Tryz.prog 31 #[.int .i64 k] w fun e w' => e = .returned (fv k (-1)) ∧ Below w.heap.size w w' := by
  go_enter Tryz.func31, Tryz.ntmps31
  go_wp2
  exact bodyPost_ret (v := fv k (-1)) (results_cell_row (p := 2) rfl _ _ w.heap.size 37 #[.int .i64 k, .int .i64 (-1)] (0, 0) _ rfl (heap_alloc_new _ _) Tryz.underlying37 rfl infoFv) rfl ⟨rfl, (Below.refl _ _).alloc (Nat.le_refl _) _⟩
theorem fine_any (w : World) : Calls Tryz.prog 35 #[] w fun e w' => e = .returned (fv 0 (-1)) ∧ Below w.heap.size w w' := by
  go_enter Tryz.func35, Tryz.ntmps35
  go_wp2
  exact bodyPost_ret (v := fv 0 (-1)) (results_cell_row (p := 0) rfl _ _ w.heap.size 37 #[.int .i64 0, .int .i64 (-1)] (0, 0) _ rfl (heap_alloc_new _ _) Tryz.underlying37 rfl infoFv) rfl ⟨rfl, (Below.refl _ _).alloc (Nat.le_refl _) _⟩
end Go.Proofs.YthgpbdlmadjndaaGreatDoor
