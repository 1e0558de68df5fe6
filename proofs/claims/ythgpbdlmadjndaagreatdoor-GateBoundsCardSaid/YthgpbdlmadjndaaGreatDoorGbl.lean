/- The law GateBounds returns true, whatever its arguments, and changes nothing that was there. Condition: the nine sentinels lie in their variables, apart; errors.errorType holds the type error. (Printed by gengl.py.) -/
import Derived.Test.YthgpbdlmadjndaaGreatDoorGwM
import Derived.Test.YthgpbdlmadjndaaGreatDoorGfl
import Derived.Test.YthgpbdlmadjndaaGreatDoorSfM
import Derived.Test.YthgpbdlmadjndaaGreatDoorCoded3
namespace Go.Proofs.YthgpbdlmadjndaaGreatDoor
open Go.RowKit
set_option maxRecDepth 100000
theorem bnd_none {cs : List (List Ln)} {n : Nat} {per : Int} {ns : List Int} (hg : (gateErr cs n per ns).1 = 0) (h : cvO (bndAll cs) = none) : bndErr cs n per ns = (4, -1) ∧ bndV cs n per ns = 0 := by
  have e1 : allErr n per (bndAll cs) = (4, -1) ∧ allV n per (bndAll cs) = 0 := by
    cases ha : bndAll cs with
    | none => exact ⟨rfl, rfl⟩
    | some all =>
      rw [ha] at h
      have h' : (if all.length = 0 then none else some all) = (none : Option (List Ln)) := h
      by_cases h0 : all.length = 0
      · have e : allErr n per (some all) = (4, -1) := by rw [allErr_some, if_pos h0]
        exact ⟨e, by rw [allV_some, e, if_neg (by simp)]⟩
      · rw [if_neg h0] at h'; cases h'
  exact ⟨(if_neg (by omega)).trans e1.1, (if_neg (by omega)).trans e1.2⟩
theorem bnd_some {cs : List (List Ln)} {n : Nat} {per : Int} {ns : List Int} {all : List Ln} (hg : (gateErr cs n per ns).1 = 0) (h : cvO (bndAll cs) = some all) : bndErr cs n per ns = (if (howErr n all per).1 ≠ 0 then (4, -1) else (0, -1)) ∧ bndV cs n per ns = (if (howErr n all per).1 = 0 then howV n all per else 0) ∧ (crvErr all).1 = 0 := by
  obtain ⟨h8, hcs, -, -⟩ := gateErr_ok hg
  cases ha : bndAll cs with
  | none => rw [ha] at h; cases h
  | some al =>
    rw [ha] at h
    have h' : (if al.length = 0 then none else some al) = some all := h
    by_cases h0 : al.length = 0
    · rw [if_pos h0] at h'; cases h'
    · rw [if_neg h0] at h'
      injection h' with h'
      subst h'
      have e : allErr n per (some al) = (if (howErr n al per).1 ≠ 0 then (4, -1) else (0, -1)) := by rw [allErr_some, if_neg h0]
      refine ⟨(if_neg (by omega)).trans (by rw [ha]; exact e), (if_neg (by omega)).trans ?_, (all_val hcs h8 ha (by omega)).1⟩
      rw [ha, allV_some, e]
      by_cases h3 : (howErr n al per).1 = 0
      · have e9 : ¬ (howErr n al per).1 ≠ 0 := fun h9 => h9 h3
        rw [if_neg e9, if_pos rfl, if_pos h3]
      · rw [if_pos h3, if_neg (by simp), if_neg h3]
set_option maxHeartbeats 8000000 in
theorem gbounds_main (Ac An : Option Addr) (cc cn : Nat) (cs : List (List Ln)) (K : ByteArray) (per : Int) (ns : List Int) (S : Nat → Addr) (w : World) (h : RdLL w w.heap.size Ac cs) (h' : RdI w w.heap.size An ns) (hS : All9 w w.heap.size S) (hl : ∀ l ∈ cs, l.length ≤ 9223372036854775807) (hcl : cs.length ≤ 9223372036854775807) (hl' : ns.length ≤ 9223372036854775807) (hK : K.size ≤ 9223372036854775807) (hw : wideB cs K ns = false) :
    Calls Tryz.prog 4 #[.agg #[.slice Ac cs.length cc, .string K, .int .i64 per, .slice An ns.length cn]] w fun e w' => e = .returned (.bool true) ∧ Below w.heap.size w w' := by
  obtain ⟨w1', w2', w3', w4'⟩ := wideB_ok hw
  have Hl := Lib.hid hl
  have H20 := Lib.hid w4'
  have Hw := Lib.hid hw
  clear hl hw w4'
  obtain ⟨W, hW⟩ : ∃ W : World, W = w.alloc (.cells #[.slice Ac cs.length cc, .string K, .int .i64 per, .slice An ns.length cn] 25) := ⟨_, rfl⟩
  have b0 : Below w.heap.size w W := by rw [hW]; exact (Below.refl _ _).alloc (Nat.le_refl _) _
  obtain ⟨gb, hgb⟩ : ∃ gb, gb = w.heap.size := ⟨_, rfl⟩
  have x0 : Blk W gb 25 #[.slice Ac cs.length cc, .string K, .int .i64 per, .slice An ns.length cn] := by rw [hW, hgb]; exact Blk.new _ _ _
  have HW := Lib.hid hW
  have HGB := Lib.hid hgb
  have B0 := Lib.hid b0
  have X0 := Lib.hid x0
  have z0 := b0.size
  have hgbl : gb < W.heap.size := x0.lt
  clear hW hgb b0 x0
  go_enter Tryz.func4, Tryz.ntmps4
  go_wp2_with fail
  rw [← HGB.out, ← HW.out]
  refine (opens_any S W ((hS.gs.below B0.out).more z0)).mono ?_
  rintro e w1 ⟨rfl, k1⟩
  have x1 := X0.out.below k1 X0.out.lt
  have c0 := x1.cell 0
  have c1 := x1.cell 1
  have c2 := x1.cell 2
  have c3 := x1.cell 3
  simp at c0 c1 c2 c3
  have K1 := Lib.hid (B0.out.trans (k1.mono z0))
  have X1 := Lib.hid x1
  have z1 : w.heap.size ≤ w1.heap.size := K1.out.size
  clear k1 x1
  go_wp2_with fail
  refine (wide_any Ac An cc cn cs K per ns w1 w.heap.size z1 (h.below K1.out) Hl.out hcl hl' hK).mono ?_
  rintro e w2 ⟨rfl, k2⟩
  rw [Hw.out]
  have K2 := Lib.hid (K1.out.trans (k2.mono z1))
  have z2 : w.heap.size ≤ w2.heap.size := K2.out.size
  have X2 := Lib.hid (X1.out.below k2 X1.out.lt)
  clear k2 c0 c1 c2 c3
  have c0 := X2.out.cell 0
  have c1 := X2.out.cell 1
  have c2 := X2.out.cell 2
  have c3 := X2.out.cell 3
  simp at c0 c1 c2 c3
  go_wp2_with fail
  refine (ownGate_cap Ac An cc cn cs K per ns w2 w.heap.size z2 (h.below K2.out) (h'.below K2.out) H20.out w1' w2').mono ?_
  rintro e w3 ⟨Ac3, cc3, An3, cn3, hcap3, rfl, ll3, ri3, k3⟩
  have K3 := Lib.hid (K2.out.trans (k3.mono z2))
  have X3 := Lib.hid (X2.out.below k3 X2.out.lt)
  have z3 := K3.out.size
  have HB3 := Lib.hid (bound_any Ac3 An3 cc3 cn3 cs K per ns S w3 w3.heap.size (Nat.le_refl _) ll3 ri3 ((hS.gs.below K3.out).more z3) Hl.out hl' hcap3)
  clear k3 ll3 ri3 hcap3 c0 c1 c2 c3
  go_wp2_with fail
  refine (HB3.out).mono ?_
  rintro e w4 ⟨v4, rfl, hv4, k4⟩
  have K4 := Lib.hid (K3.out.trans (k4.mono z3))
  have X4 := Lib.hid (X3.out.below k4 X3.out.lt)
  have HV4 := Lib.hid hv4
  have z4 := K4.out.size
  clear k4 hv4 HB3
  have c0 := X4.out.cell 0
  have c1 := X4.out.cell 1
  have c2 := X4.out.cell 2
  have c3 := X4.out.cell 3
  simp at c0 c1 c2 c3
  go_wp2_with fail
  refine (gfault_any Ac An cc cn cs K per ns w4 w.heap.size z4 (h.below K4.out) (h'.below K4.out) Hl.out hl').mono ?_
  rintro e w5 ⟨rfl, k5⟩
  have x5 := X4.out.below k5 X4.out.lt
  clear c0 c1 c2 c3
  obtain ⟨X, hX⟩ : ∃ X : World, X = w5.alloc (.cells #[.int .i64 (gateErr cs (kindN K) per ns).1, .int .i64 (gateErr cs (kindN K) per ns).2] 37) := ⟨_, rfl⟩
  obtain ⟨fb, hfb⟩ : ∃ fb, fb = w5.heap.size := ⟨_, rfl⟩
  have bX : Below w5.heap.size w5 X := by rw [hX]; exact (Below.refl _ _).alloc (Nat.le_refl _) _
  have kX : Below w4.heap.size w4 X := k5.trans (bX.mono k5.size)
  have fX : Blk X fb 37 #[.int .i64 (gateErr cs (kindN K) per ns).1, .int .i64 (gateErr cs (kindN K) per ns).2] := by rw [hX, hfb]; exact Blk.new _ _ _
  have XX := Lib.hid (x5.below bX x5.lt)
  have KX := Lib.hid (K4.out.trans (kX.mono z4))
  have HVX := Lib.hid ((HV4.out.below kX).more kX.size)
  have HX := Lib.hid hX
  have HFB := Lib.hid hfb
  have FX := Lib.hid fX
  have f0 := fX.cell 0
  have f1 := fX.cell 1
  have hfl := fX.lt
  simp only [List.getElem?_toArray, List.getElem?_cons_zero, List.getElem?_cons_succ] at f0 f1
  unfold fv
  clear k5 x5 hX hfb bX kX fX HV4
  go_upto_region 6 with fail
  rw [← HX.out, ← HFB.out]
  by_cases hg : (gateErr cs (kindN K) per ns).1 = 0
  · obtain ⟨h8, hcs, -, -⟩ := gateErr_ok hg
    have HCV := Lib.hid (curveOf_any Ac An cc cn cs K per ns X w.heap.size KX.out.size (h.below KX.out) Hl.out h8 hcs)
    have HG := Lib.hid hg
    rw [hg] at f0
    have c0 := XX.out.cell 0
    have c1 := XX.out.cell 1
    have c2 := XX.out.cell 2
    have c3 := XX.out.cell 3
    simp at c0 c1 c2 c3
    clear hg h8 hcs f1
    go_wp2_with fail
    refine (HCV.out).mono ?_
    rintro e w6 ⟨A6, c6, rfl, hr6, k6⟩
    have K6 := Lib.hid (KX.out.trans (k6.mono KX.out.size))
    have X6 := Lib.hid (XX.out.below k6 XX.out.lt)
    have HV6 := Lib.hid ((HVX.out.below k6).more k6.size)
    have HR6 := Lib.hid hr6
    clear hr6 k6 c0 c1 c2 c3 f0 HCV HVX
    cases hcv : cvO (bndAll cs) with
    | none =>
      obtain ⟨be, bv⟩ := bnd_none HG.out hcv
      rw [be] at HV6
      rw [bv]
      have HC := Lib.hid (coded2_any v4 4 (-1) S w6 w6.heap.size (Nat.le_refl _) ((hS.below K6.out).more K6.out.size) HV6.out rfl)
      have hb0 : cvB (none : Option (List Ln)) = false := rfl
      rw [hb0]
      clear be bv hb0 hcv
      go_wp2_with fail
      refine (HC.out).mono ?_
      rintro e w7 ⟨rfl, k7⟩
      have K7 := Lib.hid (K6.out.trans (k7.mono K6.out.size))
      clear k7 HC
      go_wp2_with fail
      go_ret
      exact ⟨rfl, K7.out⟩
    | some all =>
      obtain ⟨be, bv, hall⟩ := bnd_some HG.out hcv
      have hal : all.length ≤ 9223372036854775807 := by have := (crvErr_ok hall).2.1; omega
      rw [hcv] at HR6
      replace HR6 := Lib.hid (show RdL w6 w6.heap.size A6 all from HR6.out)
      have hb0 : cvB (some all : Option (List Ln)) = true := rfl
      have hb1 : cvL (some all : Option (List Ln)) = all := rfl
      rw [hb0, hb1]
      have c0 := X6.out.cell 0
      have c1 := X6.out.cell 1
      have c2 := X6.out.cell 2
      have c3 := X6.out.cell 3
      simp at c0 c1 c2 c3
      clear hb0 hb1 hcv hall
      rcases bfifo_cases K with ⟨s0, hn⟩ | ⟨s0, hn⟩
      · have hhe : howErr (kindN K) all per = delayErr all per := if_pos hn
        have hhv : howV (kindN K) all per = delayV all per := if_pos hn
        rw [hhe] at be
        rw [hhe, hhv] at bv
        have HD := Lib.hid (delay_any A6 c6 all per S w6 w6.heap.size (Nat.le_refl _) HR6.out (((hS.s.below K6.out).more K6.out.size).sub (by simp)) hal)
        clear hhe hhv hn
        by_cases hw : (delayErr all per).1 = 0
        · rw [if_neg (by omega)] at be
          rw [if_pos hw] at bv
          rw [be] at HV6
          obtain rfl := HV6.out.nil_of rfl
          rw [bv]
          have HWW := Lib.hid hw
          clear be bv hw HV6
          go_wp2_with fail
          refine (HD.out).mono ?_
          rintro e w7 ⟨v7, rfl, hv7, k7⟩
          obtain rfl := hv7.nil_of HWW.out
          have K7 := Lib.hid (K6.out.trans (k7.mono K6.out.size))
          clear hv7 k7 c0 c1 c2 c3 HD
          go_wp2_with fail
          go_ret
          exact ⟨rfl, K7.out⟩
        · rw [if_pos hw] at be
          rw [if_neg hw] at bv
          rw [be] at HV6
          rw [bv]
          have HWW := Lib.hid hw
          clear be bv hw
          go_wp2_with fail
          refine (HD.out).mono ?_
          rintro e w7 ⟨v7, rfl, hv7, k7⟩
          obtain ⟨T7, a7, rfl⟩ := hv7.some_of HWW.out
          have K7 := Lib.hid (K6.out.trans (k7.mono K6.out.size))
          have HC := Lib.hid (coded2_any v4 4 (-1) S w7 w7.heap.size (Nat.le_refl _) ((hS.below K7.out).more K7.out.size) ((HV6.out.below k7).more k7.size) rfl)
          clear hv7 k7 c0 c1 c2 c3 HD
          go_wp2_with fail
          refine (HC.out).mono ?_
          rintro e w8 ⟨rfl, k8⟩
          have K8 := Lib.hid (K7.out.trans (k8.mono K7.out.size))
          clear k8 HC
          go_wp2_with fail
          go_ret
          exact ⟨rfl, K8.out⟩
      · have hhe : howErr (kindN K) all per = busyErr all per := if_neg hn
        have hhv : howV (kindN K) all per = busyV all per := if_neg hn
        rw [hhe] at be
        rw [hhe, hhv] at bv
        have HD := Lib.hid (cbusy_any A6 c6 all per S w6 w6.heap.size (Nat.le_refl _) HR6.out (((hS.s.below K6.out).more K6.out.size).sub (by simp)) hal)
        clear hhe hhv hn
        by_cases hw : (busyErr all per).1 = 0
        · rw [if_neg (by omega)] at be
          rw [if_pos hw] at bv
          rw [be] at HV6
          obtain rfl := HV6.out.nil_of rfl
          rw [bv]
          have HWW := Lib.hid hw
          clear be bv hw HV6
          go_wp2_with fail
          refine (HD.out).mono ?_
          rintro e w7 ⟨v7, rfl, hv7, k7⟩
          obtain rfl := hv7.nil_of HWW.out
          have K7 := Lib.hid (K6.out.trans (k7.mono K6.out.size))
          clear hv7 k7 c0 c1 c2 c3 HD
          go_wp2_with fail
          go_ret
          exact ⟨rfl, K7.out⟩
        · rw [if_pos hw] at be
          rw [if_neg hw] at bv
          rw [be] at HV6
          rw [bv]
          have HWW := Lib.hid hw
          clear be bv hw
          go_wp2_with fail
          refine (HD.out).mono ?_
          rintro e w7 ⟨v7, rfl, hv7, k7⟩
          obtain ⟨T7, a7, rfl⟩ := hv7.some_of HWW.out
          have K7 := Lib.hid (K6.out.trans (k7.mono K6.out.size))
          have HC := Lib.hid (coded2_any v4 4 (-1) S w7 w7.heap.size (Nat.le_refl _) ((hS.below K7.out).more K7.out.size) ((HV6.out.below k7).more k7.size) rfl)
          clear hv7 k7 c0 c1 c2 c3 HD
          go_wp2_with fail
          refine (HC.out).mono ?_
          rintro e w8 ⟨rfl, k8⟩
          have K8 := Lib.hid (K7.out.trans (k8.mono K7.out.size))
          clear k8 HC
          go_wp2_with fail
          go_ret
          exact ⟨rfl, K8.out⟩
  · have hbe : bndErr cs (kindN K) per ns = gateErr cs (kindN K) per ns := if_pos hg
    have hbv : bndV cs (kindN K) per ns = 0 := if_pos hg
    rw [hbe] at HVX
    rw [hbv]
    obtain ⟨k, hk⟩ : ∃ k, k = (gateErr cs (kindN K) per ns).1 := ⟨_, rfl⟩
    obtain ⟨a, ha⟩ : ∃ a, a = (gateErr cs (kindN K) per ns).2 := ⟨_, rfl⟩
    rw [← hk] at f0 hg HVX
    rw [← ha] at f1 HVX
    have hk0 : (0 : Int) < (k : Int) := by omega
    have HFA := Lib.hid (faulted2_any v4 k a a S X X.heap.size (Nat.le_refl _) ((hS.below KX.out).more KX.out.size) HVX.out (.inr rfl))
    clear hbe hbv hk ha hg
    go_wp2_with fail
    refine (HFA.out).mono ?_
    rintro e w6 ⟨rfl, k6⟩
    have K6 := Lib.hid (KX.out.trans (k6.mono KX.out.size))
    clear k6 HFA f0 f1
    go_wp2_with fail
    go_ret
    exact ⟨rfl, K6.out⟩
set_option maxHeartbeats 2000000 in
theorem gateBounds_any (Ac : Option Addr) (cc : Nat) (cs : List (List Ln)) (K : ByteArray) (per : Int) (An : Option Addr) (cn : Nat) (ns : List Int) (S : Nat → Addr) (w : World) (h : RdLL w w.heap.size Ac cs) (h' : RdI w w.heap.size An ns) (hS : All9 w w.heap.size S) (hl : ∀ l ∈ cs, l.length ≤ 9223372036854775807) (hcl : cs.length ≤ 9223372036854775807) (hl' : ns.length ≤ 9223372036854775807) (hK : K.size ≤ 9223372036854775807) :
    Calls Tryz.prog 4 #[.agg #[.slice Ac cs.length cc, .string K, .int .i64 per, .slice An ns.length cn]] w fun e w' => e = .returned (.bool true) ∧ Below w.heap.size w w' := by
  cases hw : wideB cs K ns
  · exact gbounds_main Ac An cc cn cs K per ns S w h h' hS hl hcl hl' hK hw
  · have Hl := Lib.hid hl
    have Hw := Lib.hid hw
    clear hl hw
    obtain ⟨W, hW⟩ : ∃ W : World, W = w.alloc (.cells #[.slice Ac cs.length cc, .string K, .int .i64 per, .slice An ns.length cn] 25) := ⟨_, rfl⟩
    have b0 : Below w.heap.size w W := by rw [hW]; exact (Below.refl _ _).alloc (Nat.le_refl _) _
    obtain ⟨gb, hgb⟩ : ∃ gb, gb = w.heap.size := ⟨_, rfl⟩
    have x0 : Blk W gb 25 #[.slice Ac cs.length cc, .string K, .int .i64 per, .slice An ns.length cn] := by rw [hW, hgb]; exact Blk.new _ _ _
    have HW := Lib.hid hW
    have HGB := Lib.hid hgb
    have B0 := Lib.hid b0
    have X0 := Lib.hid x0
    have z0 := b0.size
    have hgbl : gb < W.heap.size := x0.lt
    clear hW hgb b0 x0
    go_enter Tryz.func4, Tryz.ntmps4
    go_wp2_with fail
    rw [← HGB.out, ← HW.out]
    refine (opens_any S W ((hS.gs.below B0.out).more z0)).mono ?_
    rintro e w1 ⟨rfl, k1⟩
    have x1 := X0.out.below k1 X0.out.lt
    have c0 := x1.cell 0
    have c1 := x1.cell 1
    have c2 := x1.cell 2
    have c3 := x1.cell 3
    simp at c0 c1 c2 c3
    have K1 := Lib.hid (B0.out.trans (k1.mono z0))
    have X1 := Lib.hid x1
    have z1 : w.heap.size ≤ w1.heap.size := K1.out.size
    clear k1 x1
    go_wp2_with fail
    refine (wide_any Ac An cc cn cs K per ns w1 w.heap.size z1 (h.below K1.out) Hl.out hcl hl' hK).mono ?_
    rintro e w2 ⟨rfl, k2⟩
    rw [Hw.out]
    have K2 := Lib.hid (K1.out.trans (k2.mono z1))
    have z2 : w.heap.size ≤ w2.heap.size := K2.out.size
    have X2 := Lib.hid (X1.out.below k2 X1.out.lt)
    clear k2 c0 c1 c2 c3
    go_wp2_with fail
    go_ret
    exact ⟨rfl, K2.out⟩
end Go.Proofs.YthgpbdlmadjndaaGreatDoor
