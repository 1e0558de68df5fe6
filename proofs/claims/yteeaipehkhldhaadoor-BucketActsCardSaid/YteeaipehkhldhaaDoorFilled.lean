/- floodgatelaw1.filled returns true. Condition: the sentinels that the calls name lie in their variables. -/
import Derived.Test.YteeaipehkhldhaaDoorBk2
import Derived.Test.YteeaipehkhldhaaDoorPkA
namespace Go.Proofs.YteeaipehkhldhaaDoor
open Go.RowKit
set_option maxRecDepth 100000
theorem filled_any (S : Nat → Addr) (w : World) (hS : Snt w w.heap.size S [2, 3, 4, 5]) :
    Calls Tryd.prog 28 #[] w fun e w' => e = .returned (.bool true) ∧ Below w.heap.size w w' := by
  have H1 := Lib.hid (show lookB (newB ⟨3, 500⟩) 0 3 = 0 ∧ takeB (newB ⟨3, 500⟩) 0 3 = true by decide)
  have H2 := Lib.hid (show lookB (tookB (newB ⟨3, 500⟩) 0 3) 1 1 = 0 ∧ takeB (tookB (newB ⟨3, 500⟩) 0 3) 1 1 = false by decide)
  have H3 := Lib.hid (show whenB (tookB (tookB (newB ⟨3, 500⟩) 0 3) 1 1) 1 1 = (0, 2) by decide)
  have hok : okLn ⟨3, 500⟩ := ⟨by decide, by decide, by decide, by decide⟩
  go_enter Tryd.func28, Tryd.ntmps28
  go_wp2_with fail
  refine (new_ok ⟨3, 500⟩ S w _ (Nat.le_refl _) (hS.sub (by simp)) hok).mono ?_
  rintro e w1 ⟨g, rfl, b1, hg, k1⟩
  have o0 := newB_ok hok
  go_wp2_with fail
  refine (take_any g _ 0 3 S w1 _ hg ((hS.below k1).sub (by simp)) b1 o0).mono ?_
  rintro e w2 ⟨v, rfl, hv, b2, on2⟩
  obtain rfl := hv.nil_of H1.out.1
  rw [H1.out.2]
  have k2 := k1.trans (on2.bel.mono hg)
  have o1 := tookB_ok o0 0 3
  go_wp2_with fail
  refine (take_any g _ 1 1 S w2 _ hg ((hS.below k2).sub (by simp)) b2 o1).mono ?_
  rintro e w3 ⟨v, rfl, hv, b3, on3⟩
  obtain rfl := hv.nil_of H2.out.1
  rw [H2.out.2]
  have k3 := k2.trans (on3.bel.mono hg)
  have o2 := tookB_ok o1 1 1
  go_wp2_with fail
  refine (when_any g _ 1 1 S w3 _ hg ((hS.below k3).sub (by simp)) b3 o2).mono ?_
  rintro e w4 ⟨v, rfl, hv, m, rfl⟩
  obtain rfl := hv.nil_of (by rw [H3.out])
  rw [H3.out]
  have k4 := below_drewN k3 m
  go_wp2_with fail
  refine (pcheck_any none 0 [] S _ w.heap.size k4.size Rd.nil_ ((hS.below k4).sub (by simp)) (by simp)).mono ?_
  rintro e w5 ⟨v, rfl, hv, k5⟩
  obtain rfl := hv.nil_of (by decide)
  go_wp2_with fail
  go_ret
  exact ⟨rfl, k4.trans (k5.mono k4.size)⟩
end Go.Proofs.YteeaipehkhldhaaDoor
