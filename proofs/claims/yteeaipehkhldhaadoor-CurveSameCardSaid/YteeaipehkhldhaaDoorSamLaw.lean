/- The law CurveSame returns true, whatever its arguments, and changes nothing that was there. Condition: two sentinels lie in their variables. -/
import Derived.Test.YteeaipehkhldhaaDoorOwnL
import Derived.Test.YteeaipehkhldhaaDoorDrawn
import Derived.Test.YteeaipehkhldhaaDoorCvP
import Derived.Test.YteeaipehkhldhaaDoorSum
namespace Go.Proofs.YteeaipehkhldhaaDoor
open Go.RowKit
set_option maxRecDepth 100000
def SOut (na nb : Nat) (t M : Int) : Prop := 30 < na ∨ (¬ 30 < na ∧ 30 < nb) ∨ (¬ 30 < na ∧ ¬ 30 < nb ∧ t < 0) ∨ (¬ 30 < na ∧ ¬ 30 < nb ∧ ¬ t < 0 ∧ M < t)
theorem csame_early (A A' : Option Addr) (c c' : Nat) (a b : List Ln) (t : Int) (S : Nat → Addr) (w : World) (hS : Snt w w.heap.size S [2, 3]) (hal : a.length ≤ 9223372036854775807) (hbl : b.length ≤ 9223372036854775807) (h30 : SOut a.length b.length t 1099511627776) :
    Calls Tryd.prog 13 #[.slice A a.length c, .slice A' b.length c', .int .i64 t] w fun e w' => e = .returned (.bool true) ∧ Below w.heap.size w w' := by
  rcases h30 with h30 | ⟨h30, h31⟩ | ⟨h30, h31, h32⟩ | ⟨h30, h31, h32, h33⟩
  all_goals
    go_enter Tryd.func13, Tryd.ntmps13
    go_wp2_with fail
    refine (drawn_any S w _ (Nat.le_refl _) hS).mono ?_
    rintro e w1 ⟨rfl, k1⟩
    go_wp2_with fail
    go_ret
    exact ⟨rfl, k1⟩
set_option maxHeartbeats 8000000 in
theorem csame_main (A A' : Option Addr) (c c' : Nat) (a b : List Ln) (t : Int) (S : Nat → Addr) (w : World) (h : RdL w w.heap.size A a) (h' : RdL w w.heap.size A' b) (hS : Snt w w.heap.size S [2, 3]) (hal : a.length ≤ 30) (hbl : b.length ≤ 30) (ht0 : ¬ t < 0) (ht1 : ¬ 1099511627776 < t) :
    Calls Tryd.prog 13 #[.slice A a.length c, .slice A' b.length c', .int .i64 t] w fun e w' => e = .returned (.bool true) ∧ Below w.heap.size w w' := by
  have hl : a.length ≤ 4294967296 := by omega
  have hl' : b.length ≤ 4294967296 := by omega
  have hm : a.length ≤ 9223372036854775807 := by omega
  have hm' : b.length ≤ 9223372036854775807 := by omega
  have t0 : 0 ≤ t := by omega
  have t1 : t ≤ 1099511627776 := by omega
  have HL := Lib.hid h
  have HL' := Lib.hid h'
  have HS := Lib.hid hS
  clear h h' hS
  go_enter Tryd.func13, Tryd.ntmps13
  go_wp2_with fail
  refine (drawn_any S w _ (Nat.le_refl _) HS.out).mono ?_
  rintro e w1 ⟨rfl, k1⟩
  go_wp2_with fail
  refine (ownLines_any A c a w1 _ (HL.out.below k1) hl).mono ?_
  rintro e w2 ⟨A2, c2, rfl, o2, k2⟩
  have k2' := k1.trans (k2.mono k1.size)
  go_wp2_with fail
  refine (ctidy_any A2 c2 a S w2 _ (Nat.le_refl _) (RdL.of_own o2) ((HS.out.below k2').more k2'.size) hm).mono ?_
  rintro e w3 ⟨A3, c3, v3, rfl, o3, e3, k3⟩
  have k3' := k2'.trans (k3.mono k2'.size)
  have R3 := Lib.hid (RdL.of_own o3)
  clear o2 o3
  by_cases ha : (crvErr a).1 = 0
  · obtain ⟨q1, q2, q3, q4⟩ := crvErr_ok ha
    obtain rfl := e3.nil_of ha
    have hr : ∀ y ∈ a, 0 ≤ y.r := fun y hy => (q3 y hy).2.2.1
    obtain ⟨T, hT⟩ : ∃ T, T = tidyRef a := ⟨_, rfl⟩
    have hTV : tidyV a = T := by rw [hT]; exact if_pos ha
    have hT1 : 1 ≤ T.length := by rw [hT]; exact tidy_ne hr q1
    have hT6 : T.length ≤ 6 := by rw [hT]; exact Nat.le_trans (tidy_len hr) q2
    have HTok := Lib.hid (show ∀ x ∈ T, okLn x from fun x hx => q3 x (tidy_sub a x (by rw [← hT]; exact hx)))
    have HD := Lib.hid (show T.Pairwise fun a b => a.b < b.b ∧ b.r < a.r by rw [hT]; exact tidy_desc hr)
    have HVT := Lib.hid (show valueL T t = valueL a t by rw [hT]; exact tidy_val hr q1 t0)
    rw [hTV]
    have r3 := R3.out
    rw [hTV] at r3
    have R3T := Lib.hid r3
    have HA := Lib.hid ha
    have HOK := Lib.hid q3
    clear ha q3 q4 hr hT hTV r3 R3 e3
    go_wp2_with fail
    go_loopw [10] (fun iv wr => ∃ (i k q : Nat), i = k + 1 ∧ i ≤ T.length ∧ iv = .int .i64 i ∧ wr = w3.drewN q) (fun iv _ => T.length - (intOf iv).toNat)
    case atStart => exact ⟨1, 0, 0, rfl, hT1, rfl, rfl⟩
    case round =>
      obtain ⟨i, k, q, hik, hi, rfl, rfl⟩ := hrel
      by_cases hil : i < T.length
      · have hkl : k < T.length := by omega
        have i0 : (0 : Int) ≤ (i : Int) := by omega
        have i1 : (i : Int) < (T.length : Int) := by omega
        have j0 : (0 : Int) ≤ (k : Int) := by omega
        have j1 : (k : Int) < (T.length : Int) := by omega
        have hsub : (i : Int) - 1 = (k : Int) := by omega
        have hwr : IntKind.i64.wrap (k : Int) = (k : Int) := by rw [IntKind.wrap_i64]; omega
        obtain ⟨b3, o3, rfl, hb3, d0, d1⟩ := RdL.get R3T.out hil
        obtain ⟨b4, o4, e4, hb4, f0, f1⟩ := RdL.get R3T.out hkl
        simp only [Option.some.injEq, Addr.mk.injEq, and_true] at e4
        obtain ⟨rfl, rfl⟩ := e4
        obtain ⟨h1, h2⟩ := List.pairwise_iff_getElem.1 HD.out k i hkl hil (by omega)
        obtain ⟨y, hy⟩ : ∃ y, y = T[i] := ⟨_, rfl⟩
        obtain ⟨x, hx⟩ : ∃ x, x = T[k] := ⟨_, rfl⟩
        rw [← hy] at d0 d1 h1 h2
        rw [← hx] at f0 f1 h1 h2
        have g1 : ¬ x.r ≤ y.r := by omega
        have g2 : ¬ y.b ≤ x.b := by omega
        clear hy hx hik hb3 hb4
        go_wp2_with fail
        go_quiet (fail)
        rename Nat => nq
        go_wp2_with fail
        go_roundw
        case rel => exact ⟨i + 1, i, q + nq, rfl, hil, by go_num, by first | rfl | exact World.drewN_drewN _ _ _⟩
        case measure => simp [intOf]; omega
      · obtain ⟨X, hX⟩ : ∃ X : World, X = w3.drewN q := ⟨_, rfl⟩
        have kX : Below w.heap.size w X := by rw [hX]; exact below_drewN k3' q
        have RX := Lib.hid ((show RdL X w3.heap.size A3 T by rw [hX]; exact R3T.out).more (show w3.heap.size ≤ X.heap.size by rw [hX]; simp))
        rw [← hX]
        clear hX hik
        go_wp2_with fail
        refine (ownLines_any A c a X _ (HL.out.below kX) hl).mono ?_
        rintro e w4 ⟨A4, c4, rfl, o4, k4⟩
        have k4' := kX.trans (k4.mono kX.size)
        go_wp2_with fail
        refine (at_any A4 c4 a t S w4 _ (Nat.le_refl _) (RdL.of_own o4) ((HS.out.below k4').more k4'.size) hm).mono ?_
        rintro e w5 ⟨v5, rfl, e5, k5⟩
        obtain rfl := e5.nil_of (by rw [atErr_of HA.out t0 t1])
        have k5' := k4'.trans (k5.mono k4'.size)
        have kX5 := k4.trans (k5.mono k4.size)
        obtain ⟨va, hva⟩ : ∃ va, va = valueL a t := ⟨_, rfl⟩
        rw [atVal_of HA.out t0 t1, ← hva]
        have hva0 : 1 ≤ va := by rw [hva]; exact valueL_pos q1 HOK.out t0
        have hva1 : va ≤ 109951162797600 := by rw [hva]; exact valueL_top q1 HOK.out t0 t1
        have HVA := Lib.hid hva
        clear o4 e5 hva
        go_wp2_with fail
        refine (at_any A3 c3 T t S w5 _ (Nat.le_refl _) ((RX.out.below kX5).more kX5.size) ((HS.out.below k5').more k5'.size) (by omega)).mono ?_
        rintro e w6 ⟨v6, rfl, e6, k6⟩
        have HTC := crvErr_of hT1 hT6 HTok.out
        obtain rfl := e6.nil_of (by rw [atErr_of (by rw [HTC]) t0 t1])
        have k6' := k5'.trans (k6.mono k5'.size)
        rw [show atVal T t = va by rw [atVal_of (by rw [HTC]) t0 t1, HVT.out, HVA.out]]
        clear e6 HTC
        go_wp2_with fail
        refine (ownLines_any A c a w6 _ (HL.out.below k6') hl).mono ?_
        rintro e w7 ⟨A7, c7, rfl, o7, k7⟩
        have k7' := k6'.trans (k7.mono k6'.size)
        have R7 := Lib.hid (RdL.of_own o7)
        clear o7
        go_wp2_with fail
        refine (ownLines_any A' c' b w7 _ (HL'.out.below k7') hl').mono ?_
        rintro e w8 ⟨A8, c8, rfl, o8, k8⟩
        have k8' := k7'.trans (k8.mono k7'.size)
        have R8 := Lib.hid (RdL.of_own o8)
        clear o8
        go_wp2_with fail
        refine (csum_any A7 A8 c7 c8 a b S w8 _ (Nat.le_refl _) ((R7.out.below k8).more k8.size) R8.out ((HS.out.below k8').more k8'.size) hm hm').mono ?_
        rintro e w9 ⟨A9, c9, v9, rfl, o9, e9, k9⟩
        have k9' := k8'.trans (k9.mono k8'.size)
        have R9 := Lib.hid (RdL.of_own o9)
        clear o9
        by_cases hs : (sumE a b).1 = 0
        · obtain rfl := e9.nil_of hs
          have hb : (crvErr b).1 = 0 := by
            unfold sumE at hs
            rw [if_neg (by rw [HA.out]; simp)] at hs
            by_cases hb : (crvErr b).1 = 0
            · exact hb
            · rw [if_pos hb] at hs; exact absurd hs hb
          obtain ⟨p1, p2, p3, p4⟩ := crvErr_ok hb
          have hse : sumErr a b = 0 := by
            unfold sumE at hs
            rw [if_neg (by rw [HA.out]; simp), if_neg (by omega)] at hs
            exact hs
          obtain ⟨s1, s2, s3⟩ := sum_ok hse
          have hr : ∀ y ∈ sumAll a b, 0 ≤ y.r := fun y hy => (s1 y hy).2.2.1
          have hs0 : 0 < (sumAll a b).length := by rw [sumAll_len]; exact Nat.mul_pos q1 p1
          obtain ⟨T2, hT2⟩ : ∃ T2, T2 = tidyRef (sumAll a b) := ⟨_, rfl⟩
          have hSV : sumV a b = T2 := by unfold sumV; rw [if_pos hs, hT2]
          have hc2 : crvErr T2 = (0, -1) := crvErr_of (by rw [hT2]; exact tidy_ne hr hs0) (by rw [hT2]; exact s2) (fun x hx => s1 x (tidy_sub _ x (by rw [← hT2]; exact hx)))
          have h26 : T2.length ≤ 6 := by rw [hT2]; exact s2
          obtain ⟨vs, hvs⟩ : ∃ vs, vs = atVal T2 t := ⟨_, rfl⟩
          obtain ⟨vb, hvb⟩ : ∃ vb, vb = valueL b t := ⟨_, rfl⟩
          have hvb0 : 1 ≤ vb := by rw [hvb]; exact valueL_pos p1 p3 t0
          have hvb1 : vb ≤ 109951162797600 := by rw [hvb]; exact valueL_top p1 p3 t0 t1
          have hvss : vs = valueL (sumAll a b) t := by rw [hvs, atVal_of (by rw [hc2]) t0 t1, hT2]; exact tidy_val hr hs0 t0
          have hvr := sum_val q1 p1 t
          rw [← hvss, ← hvb, ← HVA.out] at hvr
          obtain ⟨u1, u2⟩ := hvr
          rw [hSV]
          have r9 := R9.out
          rw [hSV] at r9
          have R9T := Lib.hid r9
          have HC2 := Lib.hid hc2
          have HVS := Lib.hid hvs
          have HVB := Lib.hid hvb
          have HB := Lib.hid hb
          have u3 : va + vb ≤ vs := u1
          have u4 : vs ≤ va + vb + 1 := u2
          clear hs hse hb p3 p4 s1 s2 s3 hr hs0 hT2 hSV hc2 hvs hvb hvss r9 R9 e9 u1 u2
          go_wp2_with fail
          refine (ownLines_any A' c' b w9 _ (HL'.out.below k9') hl').mono ?_
          rintro e w10 ⟨A10, c10, rfl, o10, k10⟩
          have k10' := k9'.trans (k10.mono k9'.size)
          go_wp2_with fail
          refine (at_any A10 c10 b t S w10 _ (Nat.le_refl _) (RdL.of_own o10) ((HS.out.below k10').more k10'.size) hm').mono ?_
          rintro e w11 ⟨v11, rfl, e11, k11⟩
          obtain rfl := e11.nil_of (by rw [atErr_of HB.out t0 t1])
          have k11' := k10'.trans (k11.mono k10'.size)
          have k911 := k10.trans (k11.mono k10.size)
          rw [atVal_of HB.out t0 t1, ← HVB.out]
          clear o10 e11
          go_wp2_with fail
          refine (at_any A9 c9 T2 t S w11 _ (Nat.le_refl _) ((R9T.out.below k911).more k911.size) ((HS.out.below k11').more k11'.size) (by omega)).mono ?_
          rintro e w12 ⟨v12, rfl, e12, k12⟩
          obtain rfl := e12.nil_of (by rw [atErr_of (by rw [HC2.out]) t0 t1])
          rw [← HVS.out]
          clear e12
          go_wp2_with fail
          go_ret
          exact ⟨by first | rfl | simp, k11'.trans (k12.mono k11'.size)⟩
        · have hSV : sumV a b = [] := if_neg hs
          obtain ⟨T', x', rfl⟩ := e9.some_of hs
          rw [hSV]
          go_wp2_with fail
          go_ret
          exact ⟨by first | rfl | simp, k9'⟩
  · have hTV : tidyV a = [] := if_neg ha
    obtain ⟨T, x, rfl⟩ := e3.some_of ha
    rw [hTV]
    go_wp2_with fail
    go_ret
    exact ⟨by first | rfl | simp, k3'⟩
theorem curveSame_any (A : Option Addr) (c : Nat) (a : List Ln) (A' : Option Addr) (c' : Nat) (b : List Ln) (t : Int) (S : Nat → Addr) (w : World) (h : RdL w w.heap.size A a) (h' : RdL w w.heap.size A' b) (hS : Snt w w.heap.size S [2, 3]) (hal : a.length ≤ 9223372036854775807) (hbl : b.length ≤ 9223372036854775807) :
    Calls Tryd.prog 13 #[.slice A a.length c, .slice A' b.length c', .int .i64 t] w fun e w' => e = .returned (.bool true) ∧ Below w.heap.size w w' := by
  by_cases h1 : 30 < a.length
  · exact csame_early A A' c c' a b t S w hS hal hbl (.inl h1)
  · by_cases h2 : 30 < b.length
    · exact csame_early A A' c c' a b t S w hS hal hbl (.inr (.inl ⟨h1, h2⟩))
    · by_cases h3 : t < 0
      · exact csame_early A A' c c' a b t S w hS hal hbl (.inr (.inr (.inl ⟨h1, h2, h3⟩)))
      · by_cases h4 : 1099511627776 < t
        · exact csame_early A A' c c' a b t S w hS hal hbl (.inr (.inr (.inr ⟨h1, h2, h3, h4⟩)))
        · exact csame_main A A' c c' a b t S w h h' hS (by omega) (by omega) h3 h4
end Go.Proofs.YteeaipehkhldhaaDoor
