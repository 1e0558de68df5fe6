/- The law CurveTidy returns true, whatever its arguments, and changes nothing that was there. Condition: the nine sentinels lie in their variables, apart; errors.errorType holds the type error. -/
import Derived.Test.YteeaipehkhldhaaDoorOwnL
import Derived.Test.YteeaipehkhldhaaDoorDrawn
import Derived.Test.YteeaipehkhldhaaDoorCvRef
import Derived.Test.YteeaipehkhldhaaDoorCoded1
import Derived.Test.YteeaipehkhldhaaDoorSumOf
import Derived.Test.YteeaipehkhldhaaDoorSameL
namespace Go.Proofs.YteeaipehkhldhaaDoor
open Go.RowKit
set_option maxRecDepth 100000
theorem ctidy_early (A A' : Option Addr) (c c' : Nat) (a b : List Ln) (S : Nat → Addr) (w : World) (hS : All9 w w.heap.size S) (hal : a.length ≤ 9223372036854775807) (hbl : b.length ≤ 9223372036854775807) (h30 : 30 < a.length ∨ (¬ 30 < a.length ∧ 30 < b.length)) :
    Calls Tryd.prog 14 #[.slice A a.length c, .slice A' b.length c'] w fun e w' => e = .returned (.bool true) ∧ Below w.heap.size w w' := by
  rcases h30 with h30 | ⟨h30, h31⟩
  all_goals
    go_enter Tryd.func14, Tryd.ntmps14
    go_wp2_with fail
    refine (drawn_any S w _ (Nat.le_refl _) (hS.s.sub (by simp))).mono ?_
    rintro e w1 ⟨rfl, k1⟩
    go_wp2_with fail
    go_ret
    exact ⟨rfl, k1⟩
theorem ctidy_sumE {a b : List Ln} (ha : (crvErr a).1 = 0) (hb : (crvErr b).1 = 0) : sumE a b = (sumErr a b, -1) ∧ sumV a b = sumL a b := by
  have h1 : sumE a b = (sumErr a b, -1) := by unfold sumE; rw [if_neg (by omega), if_neg (by omega)]
  refine ⟨h1, ?_⟩
  unfold sumV sumL
  rw [h1]
set_option maxHeartbeats 8000000 in
theorem ctidy_main (A A' : Option Addr) (c c' : Nat) (a b : List Ln) (S : Nat → Addr) (w : World) (h : RdL w w.heap.size A a) (h' : RdL w w.heap.size A' b) (hS : All9 w w.heap.size S) (hal : a.length ≤ 30) (hbl : b.length ≤ 30) :
    Calls Tryd.prog 14 #[.slice A a.length c, .slice A' b.length c'] w fun e w' => e = .returned (.bool true) ∧ Below w.heap.size w w' := by
  have hl : a.length ≤ 4294967296 := by omega
  have hl' : b.length ≤ 4294967296 := by omega
  have hm : a.length ≤ 9223372036854775807 := by omega
  have hm' : b.length ≤ 9223372036854775807 := by omega
  have HL := Lib.hid h
  have HL' := Lib.hid h'
  have HS := Lib.hid hS
  clear h h' hS
  go_enter Tryd.func14, Tryd.ntmps14
  go_wp2_with fail
  refine (drawn_any S w _ (Nat.le_refl _) (HS.out.s.sub (by simp))).mono ?_
  rintro e w1 ⟨rfl, k1⟩
  go_wp2_with fail
  refine (ownLines_any A c a w1 _ (HL.out.below k1) hl).mono ?_
  rintro e w2 ⟨A2, c2, rfl, o2, k2⟩
  have k2' := k1.trans (k2.mono k1.size)
  go_wp2_with fail
  refine (ctidy_any A2 c2 a S w2 _ (Nat.le_refl _) (RdL.of_own o2) (((HS.out.s.below k2').more k2'.size).sub (by simp)) hm).mono ?_
  rintro e w3 ⟨A3, c3, v3, rfl, o3, e3, k3⟩
  have k3' := k2'.trans (k3.mono k2'.size)
  have R3 := Lib.hid (RdL.of_own o3)
  have E3 := Lib.hid e3
  clear o2 o3 e3
  go_wp2_with fail
  refine (ownLines_any A c a w3 _ (HL.out.below k3') hl).mono ?_
  rintro e w4 ⟨A4, c4, rfl, o4, k4⟩
  have k4' := k3'.trans (k4.mono k3'.size)
  have R4 := Lib.hid (RdL.of_own o4)
  clear o4
  go_wp2_with fail
  refine (ownLines_any A' c' b w4 _ (HL'.out.below k4') hl').mono ?_
  rintro e w5 ⟨A5, c5, rfl, o5, k5⟩
  have k5' := k4'.trans (k5.mono k4'.size)
  have k45 := k4.trans (k5.mono k4.size)
  have R5 := Lib.hid (RdL.of_own o5)
  clear o5
  go_wp2_with fail
  refine (csum_any A4 A5 c4 c5 a b S w5 _ (Nat.le_refl _) ((R4.out.below k5).more k5.size) R5.out (((HS.out.s.below k5').more k5'.size).sub (by simp)) hm hm').mono ?_
  rintro e w6 ⟨A6, c6, v6, rfl, o6, e6, k6⟩
  have k6' := k5'.trans (k6.mono k5'.size)
  have k36 := k45.trans (k6.mono k45.size)
  have R6 := Lib.hid (RdL.of_own o6)
  have E6 := Lib.hid e6
  clear o6 e6
  go_wp2_with fail
  refine (curveFault_any A c a w6 _ k6'.size (HL.out.below k6') hm).mono ?_
  rintro e w7 ⟨rfl, k7⟩
  have k7' := k6'.trans (k7.mono k6'.size)
  have k37 := k36.trans (k7.mono k36.size)
  obtain ⟨gx, hgx⟩ : ∃ gx, gx = w7.heap.size := ⟨_, rfl⟩
  unfold fv
  go_upto_region 8 with fail
  rw [← hgx]
  obtain ⟨V, hV⟩ : ∃ V : World, V = (w7.alloc (.cells #[.int .i64 (crvErr a).1, .int .i64 (crvErr a).2] 44)).alloc (.cells #[.int .i64 (crvErr a).1, .int .i64 (crvErr a).2] 44) := ⟨_, rfl⟩
  have bx : Blk V gx 44 #[.int .i64 (crvErr a).1, .int .i64 (crvErr a).2] := by rw [hV, hgx]; exact (Blk.new _ _ _).alloc _
  have by_ : Blk V (gx + 1) 44 #[.int .i64 (crvErr a).1, .int .i64 (crvErr a).2] := by
    have h9 := Blk.new (w7.alloc (.cells #[.int .i64 (crvErr a).1, .int .i64 (crvErr a).2] 44)) 44 #[.int .i64 (crvErr a).1, .int .i64 (crvErr a).2]
    rw [show (w7.alloc (.cells #[.int .i64 (crvErr a).1, .int .i64 (crvErr a).2] 44)).heap.size = w7.heap.size + 1 by simp] at h9
    rw [hV, hgx]; exact h9
  have kV : Below w7.heap.size w7 V := by rw [hV]; exact ((Below.refl _ _).alloc (Nat.le_refl _) _).alloc (by simp) _
  have gx6 : w6.heap.size ≤ gx := by rw [hgx]; exact k7.size
  have gxw : w.heap.size ≤ gx := by rw [hgx]; exact k7'.size
  have gx3 : w3.heap.size ≤ gx := by rw [hgx]; exact k37.size
  rw [← hV]
  clear hV
  have kV' := k7'.trans (kV.mono k7'.size)
  have kV3 := k37.trans (kV.mono k37.size)
  have kV6 := k7.trans (kV.mono k7.size)
  have zx := bx.lt
  have zy := by_.lt
  have HSV := Lib.hid ((HS.out.below kV').more gxw)
  have E3V := Lib.hid ((E3.out.below kV3).more gx3)
  have E6V := Lib.hid ((E6.out.below kV6).more gx6)
  have LV := Lib.hid (HL.out.below kV')
  have LV' := Lib.hid (HL'.out.below kV')
  have R3V := Lib.hid ((R3.out.below kV3).more gx3)
  have R6V := Lib.hid ((R6.out.below kV6).more gx6)
  have KV := Lib.hid kV'
  have zwV := kV'.size
  clear hgx kV kV' kV3 kV6 k1 k2 k3 k4 k5 k6 k7 k2' k3' k4' k5' k6' k7' k45 k36 k37 HS HL HL' E3 E6 R3 R4 R5 R6
  by_cases ha : (crvErr a).1 = 0
  · obtain ⟨q1, q2, q3, q4⟩ := crvErr_ok ha
    have HVA := Lib.hid (show tidyV a = tidyRef a from if_pos ha)
    have HA := Lib.hid ha
    have HOK := Lib.hid q3
    have e3 := E3V.out
    rw [ha] at e3 bx by_ ⊢
    rw [q4] at bx by_
    obtain rfl := e3.nil_of rfl
    rw [HVA.out]
    have r3 := R3V.out
    rw [HVA.out] at r3
    have R3W := Lib.hid r3
    have x0 : V.cell? ⟨gx, 0, none⟩ = some (.int .i64 0) := bx.cell 0
    have y0 : V.cell? ⟨gx + 1, 0, none⟩ = some (.int .i64 0) := by_.cell 0
    have BX := Lib.hid bx
    have BY := Lib.hid by_
    clear ha q3 q4 e3 bx by_ r3 R3V E3V HVA
    go_wp2_with fail
    refine (curveFault_any A' c' b V w.heap.size zwV LV'.out hm').mono ?_
    rintro e w8 ⟨rfl, k8⟩
    have b8 := BY.out.below k8 zy
    have a8 := BX.out.below k8 zx
    have m0 : w8.cell? ⟨gx + 1, 0, none⟩ = some (.int .i64 0) := b8.cell 0
    have m1 : w8.cell? ⟨gx + 1, 1, none⟩ = some (.int .i64 (-1)) := b8.cell 1
    have n0 := b8.frozen 0
    have n1 := b8.frozen 1
    have B8 := Lib.hid b8
    have A8 := Lib.hid a8
    clear a8 b8 x0 y0
    unfold fv
    go_upto_region 10 with fail
    obtain ⟨Z, hZ⟩ : ∃ Z : World, Z = (w8.setCell ⟨gx + 1, 0, none⟩ (.int .i64 (crvErr b).1)).setCell ⟨gx + 1, 1, none⟩ (.int .i64 (crvErr b).2) := ⟨_, rfl⟩
    have bz : Blk Z (gx + 1) 44 #[.int .i64 (crvErr b).1, .int .i64 (crvErr b).2] := by rw [hZ]; exact (B8.out.set_ 0 _).set_ 1 _
    have kZ : Below gx V Z := by rw [hZ]; exact ((k8.mono (Nat.le_of_lt zx)).setCell (p := ⟨gx + 1, 0, none⟩) (Nat.le_succ _) _).setCell (p := ⟨gx + 1, 1, none⟩) (Nat.le_succ _) _
    have kZ1 : Below (gx + 1) V Z := by rw [hZ]; exact ((k8.mono (Nat.le_of_lt zy)).setCell (p := ⟨gx + 1, 0, none⟩) (Nat.le_refl _) _).setCell (p := ⟨gx + 1, 1, none⟩) (Nat.le_refl _) _
    have x0 : Z.cell? ⟨gx, 0, none⟩ = some (.int .i64 0) := (BX.out.below kZ1 (Nat.lt_succ_self _)).cell 0
    have zz : gx + 1 < Z.heap.size := bz.lt
    rw [← hZ]
    have BZ := Lib.hid bz
    clear hZ m0 m1 n0 n1 bz
    go_wp2_with fail
    refine (tidyOf_any A c a Z w.heap.size (Nat.le_trans gxw (by omega)) (LV.out.below (kZ.mono gxw)) (by omega) HOK.out).mono ?_
    rintro e w9 ⟨A9, c9, rfl, o9, k9⟩
    have kZ9 := kZ.trans (k9.mono (by omega))
    have R9 := Lib.hid (RdL.of_own o9)
    clear o9
    have z9 := k9.size
    have B9 := Lib.hid (BZ.out.below k9 zz)
    clear x0
    obtain ⟨tl, htl⟩ : ∃ tl, tl = tidyRef a := ⟨_, rfl⟩
    have htn : tl.length ≤ 9223372036854775807 := by have := tidy_len (l := a) fun y hy => (HOK.out y hy).2.2.1; rw [htl]; omega
    rw [← htl]
    have r9 := R9.out
    have r3 := (R3W.out.below kZ9).more (Nat.le_trans (Nat.le_of_lt (Nat.lt_of_succ_lt zz)) z9)
    rw [← htl] at r9 r3
    clear htl
    go_wp2_with fail
    refine (sameLn_any A3 A9 c3 c9 tl tl w9 w9.heap.size r3 r9 htn htn).mono ?_
    rintro e w10 ⟨rfl, nq, rfl⟩
    rw [show decide (tl = tl) = true by simp]
    obtain ⟨X, hX⟩ : ∃ X : World, X = w9.drewN nq := ⟨_, rfl⟩
    have kX : Below gx V X := by rw [hX]; exact below_drewN kZ9 nq
    have bX : Blk X (gx + 1) 44 #[.int .i64 (crvErr b).1, .int .i64 (crvErr b).2] := by rw [hX]; exact B9.out.drewN nq
    rw [← hX]
    clear hX r9 r3 htn R3W R9
    have zX := bX.lt
    have y0 : X.cell? ⟨gx + 1, 0, none⟩ = some (.int .i64 (crvErr b).1) := bX.cell 0
    have y1 : X.cell? ⟨gx + 1, 1, none⟩ = some (.int .i64 (crvErr b).2) := bX.cell 1
    by_cases hb : (crvErr b).1 = 0
    · obtain ⟨HE, HV⟩ := ctidy_sumE HA.out hb
      obtain ⟨p1, p2, p3, p4⟩ := crvErr_ok hb
      have HOB := Lib.hid p3
      have e6 := E6V.out
      have r6 := R6V.out
      rw [HE] at e6
      rw [HV] at r6 ⊢
      rw [hb] at y0
      have E6W := Lib.hid e6
      have R6W := Lib.hid r6
      clear hb p3 p4 e6 r6 E6V R6V HE HV y1
      go_wp2_with fail
      refine (sumOf_any A A' c c' a b X w.heap.size (Nat.le_trans gxw (by omega)) (LV.out.below (kX.mono gxw)) (LV'.out.below (kX.mono gxw)) q2 p2 HOK.out HOB.out).mono ?_
      rintro e w11 ⟨A11, c11, rfl, o11, k11⟩
      have k11' := kX.trans (k11.mono (by omega))
      have R11 := Lib.hid (RdL.of_own o11)
      clear o11
      go_wp2_with fail
      refine (coded_any v6 (sumErr a b) (-1) S w11 gx (Nat.le_trans (by omega) k11.size) (HSV.out.below k11') (E6W.out.below k11') rfl).mono ?_
      rintro e w12 ⟨rfl, k12⟩
      have k12' := k11'.trans (k12.mono (Nat.le_trans (by omega) k11.size))
      have hsl : (sumL a b).length ≤ 9223372036854775807 := by
        by_cases h0 : sumErr a b = 0
        · obtain ⟨-, g2, g3⟩ := sum_ok h0
          rw [g3]; omega
        · unfold sumL; rw [if_neg h0]; simp
      go_wp2_with fail
      refine (sameLn_any A6 A11 c6 c11 (sumL a b) (sumL a b) w12 w11.heap.size ((R6W.out.below k12').more (Nat.le_trans (by omega) k11.size)) (R11.out.below k12) hsl hsl).mono ?_
      rintro e w13 ⟨rfl, nq2, rfl⟩
      rw [show decide (sumL a b = sumL a b) = true by simp]
      go_wp2_with fail
      go_ret
      exact ⟨by first | rfl | simp, below_drewN (KV.out.trans (k12'.mono gxw)) nq2⟩
    · have HE := Lib.hid (show sumE a b = crvErr b by unfold sumE; rw [if_neg (by rw [HA.out]; simp), if_pos hb])
      have HV := Lib.hid (show sumV a b = [] by unfold sumV; rw [HE.out]; exact if_neg hb)
      have e6 := E6V.out
      rw [HE.out] at e6
      have E6W := Lib.hid e6
      have h2 : (0 : Int) < ((crvErr b).1 : Int) := by omega
      rw [HV.out]
      clear hb e6 E6V
      go_wp2_with fail
      refine (faulted_any v6 (crvErr b).1 (crvErr b).2 (crvErr b).2 S X gx (by omega) (HSV.out.below kX) (E6W.out.below kX) (.inr rfl)).mono ?_
      rintro e w11 ⟨rfl, k11⟩
      go_wp2_with fail
      go_ret
      exact ⟨by first | rfl | simp, KV.out.trans ((kX.trans (k11.mono (by omega))).mono gxw)⟩
  · have HVA := Lib.hid (show tidyV a = [] from if_neg ha)
    have HEA := Lib.hid (show sumE a b = crvErr a from if_pos ha)
    have HSA := Lib.hid (show sumV a b = [] by unfold sumV; rw [HEA.out]; exact if_neg ha)
    have e6 := E6V.out
    rw [HEA.out] at e6
    have E6W := Lib.hid e6
    have h2 : (0 : Int) < ((crvErr a).1 : Int) := by omega
    have h3 : (((crvErr a).1 : Int) == 0) = false := beq_eq_false_iff_ne.2 (by omega)
    have x0 : V.cell? ⟨gx, 0, none⟩ = some (.int .i64 (crvErr a).1) := bx.cell 0
    have x1 : V.cell? ⟨gx, 1, none⟩ = some (.int .i64 (crvErr a).2) := bx.cell 1
    have y0 : V.cell? ⟨gx + 1, 0, none⟩ = some (.int .i64 (crvErr a).1) := by_.cell 0
    have BY := Lib.hid by_
    clear ha e6 E6V by_ R3V R6V LV LV'
    rw [HVA.out, HSA.out]
    go_wp2_with fail
    refine (faulted_any v3 (crvErr a).1 (crvErr a).2 (crvErr a).2 S V gx (Nat.le_of_lt zx) HSV.out E3V.out (.inr rfl)).mono ?_
    rintro e w8 ⟨rfl, k8⟩
    have b8 := BY.out.below k8 zy
    have m0 : w8.cell? ⟨gx + 1, 0, none⟩ = some (.int .i64 (crvErr a).1) := b8.cell 0
    have m1 : w8.cell? ⟨gx + 1, 1, none⟩ = some (.int .i64 (crvErr a).2) := b8.cell 1
    have k8g := k8.mono (Nat.le_of_lt zx)
    clear b8
    go_wp2_with fail
    refine (faulted_any v6 (crvErr a).1 (crvErr a).2 (crvErr a).2 S w8 gx (Nat.le_trans (Nat.le_of_lt zx) k8.size) (HSV.out.below k8g) (E6W.out.below k8g) (.inr rfl)).mono ?_
    rintro e w9 ⟨rfl, k9⟩
    go_wp2_with fail
    go_ret
    exact ⟨by first | rfl | simp, KV.out.trans ((k8.trans (k9.mono k8.size)).mono zwV)⟩
theorem curveTidy_any (A : Option Addr) (c : Nat) (a : List Ln) (A' : Option Addr) (c' : Nat) (b : List Ln) (S : Nat → Addr) (w : World) (h : RdL w w.heap.size A a) (h' : RdL w w.heap.size A' b) (hS : All9 w w.heap.size S) (hal : a.length ≤ 9223372036854775807) (hbl : b.length ≤ 9223372036854775807) :
    Calls Tryd.prog 14 #[.slice A a.length c, .slice A' b.length c'] w fun e w' => e = .returned (.bool true) ∧ Below w.heap.size w w' := by
  by_cases ha : a.length ≤ 30
  · by_cases hb : b.length ≤ 30
    · exact ctidy_main A A' c c' a b S w h h' hS ha hb
    · exact ctidy_early A A' c c' a b S w hS hal hbl (.inr ⟨by omega, by omega⟩)
  · exact ctidy_early A A' c c' a b S w hS hal hbl (.inl (by omega))
end Go.Proofs.YteeaipehkhldhaaDoor
