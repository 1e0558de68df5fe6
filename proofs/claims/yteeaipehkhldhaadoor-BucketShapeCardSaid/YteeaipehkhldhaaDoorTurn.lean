/- The law BucketFits returns true, whatever its arguments, and changes nothing that was there. Condition: the sentinels lie in their variables. -/
import Derived.Test.YteeaipehkhldhaaDoorTurnP
import Derived.Test.YteeaipehkhldhaaDoorSameP
import Derived.Test.YteeaipehkhldhaaDoorOwnL
namespace Go.Proofs.YteeaipehkhldhaaDoor
open Go.RowKit
set_option maxRecDepth 100000
theorem shapeErr_ok {l : List Ln} {p : List Pk} (h : (shapeErr l p).1 = 0) : (pktErr p).1 = 0 ∧ (crvErr l).1 = 0 ∧ shapeR l p = (shapeV l p, -1) ∧ shapeErr l p = (0, -1) := by
  have h9 := h
  unfold shapeErr at h9
  by_cases h1 : (pktErr p).1 ≠ 0
  · rw [if_pos h1] at h9; exact absurd h9 h1
  · rw [if_neg h1] at h9
    by_cases h2 : (crvErr l).1 ≠ 0
    · rw [if_pos h2] at h9; exact absurd h9 h2
    · rw [if_neg h2] at h9
      by_cases h3 : (shapeR l p).2 = -1
      · refine ⟨by omega, by omega, Prod.ext ?_ h3, by unfold shapeErr; rw [if_neg h1, if_neg h2, if_pos h3]⟩
        show (shapeR l p).1 = shapeV l p
        unfold shapeV
        rw [if_pos h]
      · rw [if_neg h3] at h9; simp at h9
theorem fitsErr_of {l : List Ln} {p : List Pk} (h1 : (pktErr p).1 = 0) (h2 : (crvErr l).1 = 0) : fitsErr l p = (0, -1) ∧ fitsV l p = fitsL l p := by
  have e : fitsErr l p = (0, -1) := by
    unfold fitsErr
    rw [if_neg (by omega)]
    exact Prod.ext h2 (crvErr_ok h2).2.2.2
  exact ⟨e, by unfold fitsV; rw [e]; rfl⟩
set_option maxHeartbeats 4000000 in
theorem turn_main (A A' : Option Addr) (c c' : Nat) (l : List Ln) (p : List Pk) (S : Nat → Addr) (w : World) (h : RdL w w.heap.size A l) (h' : RdP w w.heap.size A' p) (hS : Snt w w.heap.size S [2, 3, 4, 5]) (h30 : l.length ≤ 30) (hfit : fitB p.length 80 = true) :
    Calls Tryd.prog 9 #[.slice A l.length c, .slice A' p.length c'] w fun e w' => e = .returned (.bool true) ∧ Below w.heap.size w w' := by
  have hle : p.length ≤ 301 := by have := of_decide_eq_true hfit; omega
  have hl : l.length ≤ 9223372036854775807 := by omega
  have hl' : p.length ≤ 9223372036854775807 := by omega
  have Hfit := Lib.hid hfit
  clear hfit
  go_enter Tryd.func9, Tryd.ntmps9
  go_wp2_with fail
  refine (filled_any S w hS).mono ?_
  rintro e w1 ⟨rfl, k1⟩
  go_wp2_with fail
  refine (fit1_any A' c' p.length 80 _ hl').mono ?_
  rintro e wx ⟨rfl, rfl⟩
  rw [Hfit.out]
  go_wp2_with fail
  refine (ownLines_any A c l w1 _ (h.below k1) (by omega)).mono ?_
  rintro e w2 ⟨A2, c2, rfl, o2, k2⟩
  have r2 := RdL.of_own o2
  have k2' := k1.trans (k2.mono k1.size)
  clear o2
  go_wp2_with fail
  refine (ownPackets_any A' c' p w2 _ (h'.below k2') (by omega)).mono ?_
  rintro e w3 ⟨A3, c3, rfl, o3, k3⟩
  have r3 := RdP.of_own o3
  have k3' := k2'.trans (k3.mono k2'.size)
  clear o3
  go_wp2_with fail
  refine (shape_any A2 A3 c2 c3 l p S w3 _ (Nat.le_refl _) ((r2.below k3).more k3.size) r3 ((hS.below k3').more k3'.size) hl hl').mono ?_
  rintro e w4 ⟨A4, c4, v4, rfl, o4, e4, k4⟩
  have k4' := k3'.trans (k4.mono k3'.size)
  clear r2 r3
  by_cases hok : (shapeErr l p).1 = 0
  · obtain ⟨t1, t2, t3, t4⟩ := shapeErr_ok hok
    obtain ⟨u1, u2, u3, u4, u5, u6, u7⟩ := turner (crvErr_ok t2).2.2.1 (by have := (crvErr_ok t2).1; omega) (pktErr_okPk t1) (pktErr_sorted' t1) t3
    obtain rfl := e4.nil_of hok
    have r4 := RdP.of_own o4
    obtain ⟨x, hx⟩ : ∃ x, x = shapeV l p := ⟨_, rfl⟩
    rw [← hx] at u1 u2 u3 u4 u5 u6 u7 r4 ⊢
    have h300 := pktErr_len t1
    have hpx : (pktErr x).1 = 0 := pktErr_of (by omega) u4 u5
    obtain ⟨f1, f2⟩ := fitsErr_of hpx t2
    obtain ⟨f3, f4⟩ := fitsErr_of t1 t2
    have hse : shapeErr l x = (0, -1) := by unfold shapeErr; rw [if_neg (by omega), if_neg (by omega), u6]; rfl
    have hsv : shapeV l x = x := by unfold shapeV; rw [hse, u6]; rfl
    have hwas : fitsV l p = decide (x = p) := by rw [f4, Bool.eq_iff_iff, u7, decide_eq_true_iff]
    have F1 := Lib.hid f1
    have F2 := Lib.hid (show fitsV l x = true from f2.trans u1)
    have F3 := Lib.hid f3
    have Hse := Lib.hid hse
    have Hsv := Lib.hid hsv
    have Hwas := Lib.hid hwas
    have U2 := Lib.hid u2
    have U3 := Lib.hid u3
    have hxl : x.length ≤ 9223372036854775807 := by omega
    clear t1 t2 t3 t4 u1 u2 u3 u4 u5 u6 u7 hok hpx f1 f2 f3 f4 hse hsv hwas hx o4
    have hlx : ((x.length : Int) != (p.length : Int)) = false := by rw [U2.out]; simp
    go_wp2_with fail
    refine (ownLines_any A c l w4 _ (h.below k4') (by omega)).mono ?_
    rintro e w5 ⟨A5, c5, rfl, o5, k5⟩
    have r5 := RdL.of_own o5
    have k5' := k4'.trans (k5.mono k4'.size)
    have r45 := (r4.below k5).more k5.size
    clear o5 r4
    go_wp2_with fail
    refine (ownPackets_any A4 c4 x w5 _ r45 (by rw [U2.out]; omega)).mono ?_
    rintro e w6 ⟨A6, c6, rfl, o6, k6⟩
    have r6 := RdP.of_own o6
    have k6' := k5'.trans (k6.mono k5'.size)
    have r46 := (r45.below k6).more k6.size
    clear o6 r45
    go_wp2_with fail
    refine (fits_any A5 A6 c5 c6 l x S w6 _ (Nat.le_refl _) ((r5.below k6).more k6.size) r6 (((hS.below k6').more k6'.size).sub (by simp)) hl hxl).mono ?_
    rw [F1.out, F2.out]
    rintro e w7 ⟨v7, rfl, e7, k7⟩
    obtain rfl := e7.nil_of rfl
    have k7' := k6'.trans (k7.mono k6'.size)
    have r47 := (r46.below k7).more k7.size
    clear r5 r6 r46
    go_wp2_with fail
    go_loopw [9] (fun i wr => ∃ k m : Nat, k ≤ p.length ∧ i = .int .i64 k ∧ wr = w7.drewN m) (fun i _ => p.length - (intOf i).toNat)
    case atStart => exact ⟨0, 0, Nat.zero_le _, rfl, rfl⟩
    case round =>
      obtain ⟨k, m, hk, rfl, rfl⟩ := hrel
      by_cases hlt : k < p.length
      · have hlt2 : k < x.length := by rw [U2.out]; exact hlt
        obtain ⟨b, o, rfl, hb, d0, d1, d2⟩ := RdP.get (h'.below k7') hlt
        obtain ⟨b', o', rfl, hb', g0, g1, g2⟩ := RdP.get r47 hlt2
        obtain ⟨v1, v2, v3⟩ := U3.out k hlt hlt2
        rw [v1] at g0
        rw [v2] at g1
        have q1 : (0 : Int) ≤ (k : Int) := by omega
        have q2 : (k : Int) < (p.length : Int) := by omega
        have q3 : (k : Int) < (x.length : Int) := by omega
        clear v1 v2
        go_wp2_with fail
        go_quiet (fail)
        go_wp2_with fail
        go_roundw
        case rel => exact ⟨k + 1, _, hlt, by go_num, rfl⟩
        case measure => simp [intOf]; omega
      · obtain ⟨w8, hw8⟩ : ∃ w8 : World, w8 = w7.drewN m := ⟨_, rfl⟩
        have k8' : Below w.heap.size w w8 := by rw [hw8]; exact below_drewN k7' m
        have r48 : RdP w8 w8.heap.size A4 x := by rw [hw8]; exact r47
        rw [← hw8]
        clear hw8 r47
        go_wp2_with fail
        refine (ownLines_any A c l w8 _ (h.below k8') (by omega)).mono ?_
        rintro e w9 ⟨A9, c9, rfl, o9, k9⟩
        have r9 := RdL.of_own o9
        have k9' := k8'.trans (k9.mono k8'.size)
        have r49 := (r48.below k9).more k9.size
        clear o9 r48
        go_wp2_with fail
        refine (ownPackets_any A4 c4 x w9 _ r49 (by rw [U2.out]; omega)).mono ?_
        rintro e w10 ⟨A10, c10, rfl, o10, k10⟩
        have r10 := RdP.of_own o10
        have k10' := k9'.trans (k10.mono k9'.size)
        have r410 := (r49.below k10).more k10.size
        clear o10 r49
        go_wp2_with fail
        refine (shape_any A9 A10 c9 c10 l x S w10 _ (Nat.le_refl _) ((r9.below k10).more k10.size) r10 ((hS.below k10').more k10'.size) hl hxl).mono ?_
        rw [Hse.out, Hsv.out]
        rintro e w11 ⟨A11, c11, v11, rfl, o11, e11, k11⟩
        obtain rfl := e11.nil_of rfl
        have r11 := RdP.of_own o11
        have k11' := k10'.trans (k11.mono k10'.size)
        have r411 := (r410.below k11).more k11.size
        clear o11 r9 r10 r410
        go_wp2_with fail
        refine (samePk_any A4 A11 c4 c11 x x w11 _ r411 r11 hxl hxl).mono ?_
        rintro e w12 ⟨rfl, m12, hw12⟩
        have k12' : Below w.heap.size w w12 := by rw [hw12]; exact below_drewN k11' m12
        have r412 : RdP w12 w12.heap.size A4 x := by rw [hw12]; exact r411
        clear hw12 r411 r11
        rw [decide_eq_true (rfl : x = x)]
        go_wp2_with fail
        refine (ownLines_any A c l w12 _ (h.below k12') (by omega)).mono ?_
        rintro e w13 ⟨A13, c13, rfl, o13, k13⟩
        have r13 := RdL.of_own o13
        have k13' := k12'.trans (k13.mono k12'.size)
        have r413 := (r412.below k13).more k13.size
        clear o13 r412
        go_wp2_with fail
        refine (ownPackets_any A' c' p w13 _ (h'.below k13') (by omega)).mono ?_
        rintro e w14 ⟨A14, c14, rfl, o14, k14⟩
        have r14 := RdP.of_own o14
        have k14' := k13'.trans (k14.mono k13'.size)
        have r414 := (r413.below k14).more k14.size
        clear o14 r413
        go_wp2_with fail
        refine (fits_any A13 A14 c13 c14 l p S w14 _ (Nat.le_refl _) ((r13.below k14).more k14.size) r14 (((hS.below k14').more k14'.size).sub (by simp)) hl hl').mono ?_
        rw [F3.out, Hwas.out]
        rintro e w15 ⟨v15, rfl, e15, k15⟩
        obtain rfl := e15.nil_of rfl
        have k15' := k14'.trans (k15.mono k14'.size)
        have r415 := (r414.below k15).more k15.size
        clear r13 r14 r414
        go_wp2_with fail
        refine (samePk_any A4 A' c4 c' x p w15 _ r415 ((h'.below k15').more k15'.size) hxl hl').mono ?_
        rintro e w16 ⟨rfl, m16, hw16⟩
        have k16' : Below w.heap.size w w16 := by rw [hw16]; exact below_drewN k15' m16
        clear hw16
        go_wp2_with fail
        go_ret
        exact ⟨by first | rfl | simp, k16'⟩
  · obtain ⟨T, a, rfl⟩ := e4.some_of hok
    have Hv := Lib.hid (show shapeV l p = [] from if_neg hok)
    rw [Hv.out]
    clear hok e4 o4
    go_wp2_with fail
    go_ret
    exact ⟨by first | rfl | simp, k4'⟩
theorem bucketFits_any (A : Option Addr) (c : Nat) (l : List Ln) (A' : Option Addr) (c' : Nat) (p : List Pk) (S : Nat → Addr) (w : World) (h : RdL w w.heap.size A l) (h' : RdP w w.heap.size A' p) (hS : Snt w w.heap.size S [2, 3, 4, 5]) (hl : l.length ≤ 9223372036854775807) (hl' : p.length ≤ 9223372036854775807) :
    Calls Tryd.prog 9 #[.slice A l.length c, .slice A' p.length c'] w fun e w' => e = .returned (.bool true) ∧ Below w.heap.size w w' := by
  have hx : (l.length ≤ 30 ∧ fitB p.length 80 = true) ∨ 30 < l.length ∨ (l.length ≤ 30 ∧ fitB p.length 80 = false) := by
    rcases Nat.lt_or_ge 30 l.length with h1 | h1
    · exact .inr (.inl h1)
    · cases hf : fitB p.length 80
      · exact .inr (.inr ⟨h1, rfl⟩)
      · exact .inl ⟨h1, rfl⟩
  rcases hx with ⟨h1, h2⟩ | h1 | ⟨h1, h2⟩
  · exact turn_main A A' c c' l p S w h h' hS h1 h2
  · go_enter Tryd.func9, Tryd.ntmps9
    go_wp2_with fail
    refine (filled_any S w hS).mono ?_
    rintro e w1 ⟨rfl, k1⟩
    go_wp2_with fail
    go_ret
    exact ⟨rfl, k1⟩
  · have Hf := Lib.hid h2
    clear h2
    go_enter Tryd.func9, Tryd.ntmps9
    go_wp2_with fail
    refine (filled_any S w hS).mono ?_
    rintro e w1 ⟨rfl, k1⟩
    go_wp2_with fail
    refine (fit1_any A' c' p.length 80 _ hl').mono ?_
    rintro e wx ⟨rfl, rfl⟩
    rw [Hf.out]
    go_wp2_with fail
    go_ret
    exact ⟨rfl, k1⟩
end Go.Proofs.YteeaipehkhldhaaDoor
