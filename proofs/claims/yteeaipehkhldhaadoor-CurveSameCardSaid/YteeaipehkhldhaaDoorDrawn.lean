/- floodgatelaw1.drawn returns true. Condition: the two sentinels that Check and At name lie in their variables. -/
import Derived.Test.YteeaipehkhldhaaDoorProg
import Derived.Test.YteeaipehkhldhaaDoorMem
import Derived.Test.YteeaipehkhldhaaDoorCv1
namespace Go.Proofs.YteeaipehkhldhaaDoor
open Go.RowKit
set_option maxRecDepth 100000
theorem drawn_any (S : Nat → Addr) (w : World) (B : Nat) (hB : B ≤ w.heap.size) (hS : Snt w B S [2, 3]) :
    Calls Tryd.prog 15 #[] w fun e w' => e = .returned (.bool true) ∧ Below w.heap.size w w' := by
  have Hv := Lib.hid (show atVal [⟨5, 500⟩] 3 = 6 by decide)
  have He := Lib.hid (show (atErr [⟨5, 500⟩] 3).1 = 0 by decide)
  have Hc := Lib.hid (show (crvErr [⟨1, 0⟩]).1 = 0 by decide)
  go_enter Tryd.func15, Tryd.ntmps15
  go_wp2_with fail
  refine (at_any (some ⟨w.heap.size, 0, none⟩) 1 [⟨5, 500⟩] 3 S _ (w.heap.size + 1) (by simp) (Rd.of_block (heap_alloc_new _ _) rfl (by omega) (by omega) Ln.cs_len) ((hS.below (((Below.refl _ _).alloc (Nat.le_refl _) _).mono hB)).more (by omega)) (by simp)).mono ?_
  rintro e w1 ⟨v, rfl, hv, hb1⟩
  obtain rfl := hv.nil_of He.out
  rw [Hv.out]
  have hz : w.heap.size + 1 ≤ w1.heap.size := by have := hb1.size; simpa using this
  have hb2 : Below w.heap.size w w1 := ((Below.refl _ _).alloc (Nat.le_refl _) _).trans (hb1.mono (by simp))
  go_wp2_with fail
  refine (check_any (some ⟨w1.heap.size, 0, none⟩) 1 [⟨1, 0⟩] S _ (w1.heap.size + 1) (by simp) (Rd.of_block (heap_alloc_new _ _) rfl (by omega) (by omega) Ln.cs_len) ((hS.below ((hb2.alloc (by omega) _).mono hB)).more (by omega)) (by simp)).mono ?_
  rintro e w2 ⟨v, rfl, hv2, hb3⟩
  obtain rfl := hv2.nil_of Hc.out
  go_wp2_with fail
  go_ret
  exact ⟨rfl, (hb2.alloc (by omega) _).trans (hb3.mono (by simp; omega))⟩
end Go.Proofs.YteeaipehkhldhaaDoor
