/- The law CurveAt returns true, whatever its arguments, and changes nothing that was there. Condition: the nine sentinels lie in their variables, apart; errors.errorType holds the type error. -/
import Derived.Test.YteeaipehkhldhaaDoorOwnL
import Derived.Test.YteeaipehkhldhaaDoorDrawn
import Derived.Test.YteeaipehkhldhaaDoorCvRef
import Derived.Test.YteeaipehkhldhaaDoorCoded1
import Derived.Deep.RegionHeld3
namespace Go.Proofs.YteeaipehkhldhaaDoor
open Go.RowKit
set_option maxRecDepth 100000
theorem below_undrew {w w1 : World} (h : Below w.drew.heap.size w.drew w1) : Below w.heap.size w w1 := ((Below.refl _ _).drew).trans h
theorem at_early (A : Option Addr) (c : Nat) (l : List Ln) (t : Int) (S : Nat → Addr) (w : World) (hS : All9 w w.heap.size S) (hl : l.length ≤ 9223372036854775807) (h30 : 30 < l.length) :
    Calls Tryd.prog 5 #[.slice A l.length c, .int .i64 t] w fun e w' => e = .returned (.bool true) ∧ Below w.heap.size w w' := by
  go_enter Tryd.func5, Tryd.ntmps5
  go_wp2_with fail
  refine (drawn_any S w _ (Nat.le_refl _) (hS.s.sub (by simp))).mono ?_
  rintro e w1 ⟨rfl, k1⟩
  go_wp2_with fail
  go_ret
  exact ⟨rfl, k1⟩
set_option maxHeartbeats 4000000 in
theorem at_main (A : Option Addr) (c : Nat) (l : List Ln) (t : Int) (S : Nat → Addr) (w : World) (h : RdL w w.heap.size A l) (hS : All9 w w.heap.size S) (h30 : l.length ≤ 30) :
    Calls Tryd.prog 5 #[.slice A l.length c, .int .i64 t] w fun e w' => e = .returned (.bool true) ∧ Below w.heap.size w w' := by
  have hl : l.length ≤ 4294967296 := by omega
  have hl' : l.length ≤ 9223372036854775807 := by omega
  obtain ⟨ck, hck⟩ : ∃ ck, ck = (crvErr l).1 := ⟨_, rfl⟩
  obtain ⟨ca, hca⟩ : ∃ ca, ca = (crvErr l).2 := ⟨_, rfl⟩
  have Hck := Lib.hid hck
  have Hca := Lib.hid hca
  clear hck hca
  go_enter Tryd.func5, Tryd.ntmps5
  go_wp2_with fail
  refine (drawn_any S w _ (Nat.le_refl _) (hS.s.sub (by simp))).mono ?_
  rintro e w1 ⟨rfl, k1⟩
  go_wp2_with fail
  refine (ownLines_any A c l w1 _ (h.below k1) hl).mono ?_
  rintro e w2 ⟨A2, c2, rfl, o2, k2⟩
  have r2 := RdL.of_own o2
  have k2' := k1.trans (k2.mono k1.size)
  go_wp2_with fail
  refine (at_any A2 c2 l t S w2 _ (Nat.le_refl _) r2 (((hS.s.below k2').more k2'.size).sub (by simp)) hl').mono ?_
  rintro e w3 ⟨v3, rfl, e3, k3⟩
  have k3' := k2'.trans (k3.mono k2'.size)
  go_wp2_with fail
  refine (curveFault_any A c l w3 _ k3'.size (h.below k3') hl').mono ?_
  rintro e w4 ⟨rfl, k4⟩
  have k4' := k3'.trans (k4.mono k3'.size)
  have e4 := (e3.below k4).more k4.size
  clear e3 r2 o2
  rw [← Hck.out, ← Hca.out]
  unfold fv
  go_wp2_with fail
  obtain ⟨w5, hw5⟩ : ∃ w5, w5 = w4.alloc (.cells #[.int .i64 ck, .int .i64 ca] 44) := ⟨_, rfl⟩
  have b5 : Blk w5 w4.heap.size 44 #[.int .i64 ck, .int .i64 ca] := by rw [hw5]; exact Blk.new _ _ _
  have k5 : Below w4.heap.size w4 w5 := by rw [hw5]; exact (Below.refl _ _).alloc (Nat.le_refl _) _
  have z5 : w4.heap.size < w5.heap.size := by rw [hw5]; simp
  rw [← hw5]
  clear hw5
  have k5' := k4'.trans (k5.mono k4'.size)
  have z4 := k4'.size
  have z55 := k5'.size
  have c0 : w5.cell? ⟨w4.heap.size, 0, none⟩ = some (.int .i64 ck) := b5.cell 0
  have c1 : w5.cell? ⟨w4.heap.size, 1, none⟩ = some (.int .i64 ca) := b5.cell 1
  have B5 := Lib.hid b5
  have E4 := Lib.hid e4
  clear b5 e4
  go_region_held3 (fun w' => w'.cell? ⟨w4.heap.size, 0, none⟩ = some (.int .i64 ck) ∧ w'.cell? ⟨w4.heap.size, 1, none⟩ = some (.int .i64 ca))
    (first
      | go_keep
      | exact ⟨(k6.cell (p := ⟨w4.heap.size, 0, none⟩) z5).trans c0, (k6.cell (p := ⟨w4.heap.size, 1, none⟩) z5).trans c1⟩
      | exact ⟨(k67.cell (p := ⟨w4.heap.size, 0, none⟩) z5).trans c0, (k67.cell (p := ⟨w4.heap.size, 1, none⟩) z5).trans c1⟩
      | exact ⟨(k678.cell (p := ⟨w4.heap.size, 0, none⟩) z5).trans c0, (k678.cell (p := ⟨w4.heap.size, 1, none⟩) z5).trans c1⟩)
    (first
     | (go_at_call 18; refine (ownLines_any A c l w5.drew w.heap.size (h.below k5'.drew) hl).mono ?_; rintro e w6 ⟨A6, a6, rfl, o6, k6d⟩; have k6 := below_undrew k6d; have k56 := k5'.trans (k6.mono z55); have s56 := k56.size)
     | (go_at_call 25; refine (check_any A6 a6 l S w6 w6.heap.size (Nat.le_refl _) (RdL.of_own o6) (((hS.s.below k56).more s56).sub (by simp)) hl').mono ?_; rintro e w7 ⟨v7, rfl, e7, k7⟩; have k67 := k6.trans (k7.mono k6.size); have k567 := k5'.trans (k67.mono z55); have s567 := k567.size)
     | (go_at_call 24; rw [Hck.out, Hca.out]; refine (faulted_any v7 (crvErr l).1 (crvErr l).2 (crvErr l).2 S w7 w7.heap.size (Nat.le_refl _) ((hS.below k567).more s567) e7 (.inr rfl)).mono ?_; rintro e w8 ⟨rfl, k8⟩; have k678 := k67.trans (k8.mono k67.size)))
  have x0 : w8.cell? ⟨w4.heap.size, 0, none⟩ = some (.int .i64 (crvErr l).1) := by rw [← Hck.out]; exact (k678.cell (p := ⟨w4.heap.size, 0, none⟩) z5).trans c0
  have x1 : w8.cell? ⟨w4.heap.size, 1, none⟩ = some (.int .i64 (crvErr l).2) := by rw [← Hca.out]; exact (k678.cell (p := ⟨w4.heap.size, 1, none⟩) z5).trans c1
  have b8 := B5.out.below k678 z5
  have y0 := b8.frozen 0
  have y1 := b8.frozen 1
  have B8 := Lib.hid b8
  have k8' := k5'.trans (k678.mono z55)
  have z8' := k8'.size
  have z48 : w4.heap.size < w8.heap.size := Nat.lt_of_lt_of_le z5 k678.size
  have e8 := E4.out.below (k5.trans (k678.mono (Nat.le_of_lt z5)))
  clear b8 c0 c1
  rename w8.cell? ⟨w4.heap.size, 0, none⟩ = some (.int .i64 (ck : Int)) ∧ w8.cell? ⟨w4.heap.size, 1, none⟩ = some (.int .i64 ca) => hs8
  clear hs8
  by_cases h0 : (crvErr l).1 = 0
  · obtain ⟨q1, q2, q3, q4⟩ := crvErr_ok h0
    rw [h0] at x0 ⊢
    rw [q4] at x1 ⊢
    by_cases ht : t < 0 ∨ 1099511627776 < t
    · have He := Lib.hid (show atErr l t = (2, -1) by unfold atErr; rw [if_neg (by omega), if_pos ht])
      have Hv := Lib.hid (show atVal l t = 0 by unfold atVal; rw [He.out]; rfl)
      have ht2 : t < 0 ∨ (0 ≤ t ∧ 1099511627776 < t) := by omega
      clear ht
      rw [Hv.out]
      rw [He.out] at e8
      rcases ht2 with ht | ⟨ht, ht'⟩
      all_goals
        go_wp2_with fail
        refine (bare_any 2 _).mono ?_
        rintro e w9 ⟨rfl, k9⟩
        have b9 := B8.out.below k9 z48
        have m0 : w9.cell? ⟨w4.heap.size, 0, none⟩ = some (.int .i64 0) := (k9.cell (p := ⟨w4.heap.size, 0, none⟩) z48).trans x0
        have m1 : w9.cell? ⟨w4.heap.size, 1, none⟩ = some (.int .i64 (-1)) := (k9.cell (p := ⟨w4.heap.size, 1, none⟩) z48).trans x1
        have n0 := b9.frozen 0
        have n1 := b9.frozen 1
        have k9' : Below w4.heap.size w8 ((w9.setCell ⟨w4.heap.size, 0, none⟩ (.int .i64 2)).setCell ⟨w4.heap.size, 1, none⟩ (.int .i64 (-1))) := ((k9.mono (Nat.le_of_lt z48)).setCell (p := ⟨w4.heap.size, 0, none⟩) (Nat.le_refl _) _).setCell (p := ⟨w4.heap.size, 1, none⟩) (Nat.le_refl _) _
        have B9 := Lib.hid b9
        clear b9
        unfold fv
        go_wp2_with fail
        refine (faulted_any v3 2 (-1) (-1) S _ w4.heap.size (Nat.le_trans (Nat.le_of_lt z48) k9'.size) ((hS.below (k8'.trans (k9'.mono z4))).more z4) (e8.below k9') (.inr rfl)).mono ?_
        rintro e w10 ⟨rfl, k10⟩
        go_wp2_with fail
        go_ret
        exact ⟨rfl, k8'.trans ((k9'.mono z4).trans (k10.mono (Nat.le_trans (Nat.le_trans z4 (Nat.le_of_lt z48)) k9'.size)))⟩
    · have He := Lib.hid (show atErr l t = (0, -1) by unfold atErr; rw [if_neg (by omega), if_neg ht])
      have Hv := Lib.hid (show atVal l t = valueL l t by unfold atVal; rw [He.out]; rfl)
      have ht1 : 0 ≤ t := by omega
      have ht2 : t ≤ 1099511627776 := by omega
      clear ht
      rw [Hv.out]
      obtain rfl := e8.nil_of (by rw [He.out])
      go_wp2_with fail
      refine (atOf_any A c l t _ _ (Nat.le_trans k8'.size (by simp)) (h.below k8') hl' (by omega) q3 ht1 ht2).mono ?_
      rintro e w9 ⟨rfl, k9⟩
      go_wp2_with fail
      go_ret
      exact ⟨by simp, k8'.trans (k9.mono z8')⟩
  · have He := Lib.hid (show atErr l t = crvErr l from if_pos h0)
    have Hv := Lib.hid (show atVal l t = 0 by unfold atVal; rw [He.out, if_neg h0])
    have h1 : ((crvErr l).1 : Int) ≠ 0 := by omega
    have h2 : (0 : Int) < ((crvErr l).1 : Int) := by omega
    have h3 : (((crvErr l).1 : Int) == 0) = false := beq_eq_false_iff_ne.2 h1
    clear h0 h1
    rw [Hv.out]
    rw [He.out] at e8
    go_wp2_with fail
    refine (faulted_any v3 (crvErr l).1 (crvErr l).2 (crvErr l).2 S _ w4.heap.size (Nat.le_of_lt z48) ((hS.below k8').more z4) e8 (.inr rfl)).mono ?_
    rintro e w10 ⟨rfl, k10⟩
    go_wp2_with fail
    go_ret
    exact ⟨rfl, k8'.trans (k10.mono z8')⟩
theorem curveAt_any (A : Option Addr) (c : Nat) (l : List Ln) (t : Int) (S : Nat → Addr) (w : World) (h : RdL w w.heap.size A l) (hS : All9 w w.heap.size S) (hl : l.length ≤ 9223372036854775807) :
    Calls Tryd.prog 5 #[.slice A l.length c, .int .i64 t] w fun e w' => e = .returned (.bool true) ∧ Below w.heap.size w w' := by
  by_cases h30 : l.length ≤ 30
  · exact at_main A c l t S w h hS h30
  · exact at_early A c l t S w hS hl (by omega)
end Go.Proofs.YteeaipehkhldhaaDoor
