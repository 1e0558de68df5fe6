/- The law GateRuns returns true, whatever its arguments, and changes nothing that was there. Condition: the nine sentinels lie in their variables, apart; errors.errorType holds the type error. (Printed by gengl.py.) -/
import Derived.Test.YthgpbdlmadjndaaGreatDoorGwM
import Derived.Test.YthgpbdlmadjndaaGreatDoorGfl
import Derived.Test.YthgpbdlmadjndaaGreatDoorRunOfM
import Derived.Test.YthgpbdlmadjndaaGreatDoorCoded3
import Derived.Test.YthgpbdlmadjndaaGreatDoorSamM
import Derived.Test.YthgpbdlmadjndaaGreatDoorMiscM
namespace Go.Proofs.YthgpbdlmadjndaaGreatDoor
open Go.RowKit
set_option maxRecDepth 100000
set_option maxHeartbeats 16000000 in
theorem gruns_main (Ac An : Option Addr) (cc cn : Nat) (cs : List (List Ln)) (K : ByteArray) (per : Int) (ns : List Int) (A : Option Addr) (c : Nat) (p : List Pk) (S : Nat → Addr) (w : World) (h : RdLL w w.heap.size Ac cs) (h' : RdI w w.heap.size An ns) (hp : RdP w w.heap.size A p) (hS : All9 w w.heap.size S) (hl : ∀ l ∈ cs, l.length ≤ 9223372036854775807) (hcl : cs.length ≤ 9223372036854775807) (hl' : ns.length ≤ 9223372036854775807) (hK : K.size ≤ 9223372036854775807) (hw : wideB cs K ns = false) (hfit : fitB p.length 60 = true) :
    Calls Tryz.prog 3 #[.agg #[.slice Ac cs.length cc, .string K, .int .i64 per, .slice An ns.length cn], .slice A p.length c] w fun e w' => e = .returned (.bool true) ∧ Below w.heap.size w w' := by
  obtain ⟨w1', w2', w3', w4'⟩ := wideB_ok hw
  have hle : p.length ≤ 301 := by have := of_decide_eq_true hfit; omega
  have hlp : p.length ≤ 9223372036854775807 := by omega
  have Hl := Lib.hid hl
  have H20 := Lib.hid w4'
  have Hw := Lib.hid hw
  have Hfit := Lib.hid hfit
  clear hl hw w4' hfit
  obtain ⟨W, hW⟩ : ∃ W : World, W = w.alloc (.cells #[.slice Ac cs.length cc, .string K, .int .i64 per, .slice An ns.length cn] 25) := ⟨_, rfl⟩
  have b0 : Below w.heap.size w W := by rw [hW]; exact (Below.refl _ _).alloc (Nat.le_refl _) _
  obtain ⟨gb, hgb⟩ : ∃ gb, gb = w.heap.size := ⟨_, rfl⟩
  have x0 : Blk W gb 25 #[.slice Ac cs.length cc, .string K, .int .i64 per, .slice An ns.length cn] := by rw [hW, hgb]; exact Blk.new _ _ _
  have HW := Lib.hid hW
  have HGB := Lib.hid hgb
  have B0 := Lib.hid b0
  have X0 := Lib.hid x0
  have z0 := b0.size
  have hgbl : gb < W.heap.size := x0.lt
  clear hW hgb b0 x0
  go_enter Tryz.func3, Tryz.ntmps3
  go_wp2_with fail
  rw [← HGB.out, ← HW.out]
  refine (opens_any S W ((hS.gs.below B0.out).more z0)).mono ?_
  rintro e w1 ⟨rfl, k1⟩
  have x1 := X0.out.below k1 X0.out.lt
  have c0 := x1.cell 0
  have c1 := x1.cell 1
  have c2 := x1.cell 2
  have c3 := x1.cell 3
  simp at c0 c1 c2 c3
  have K1 := Lib.hid (B0.out.trans (k1.mono z0))
  have X1 := Lib.hid x1
  have z1 : w.heap.size ≤ w1.heap.size := K1.out.size
  clear k1 x1
  go_wp2_with fail
  refine (wide_any Ac An cc cn cs K per ns w1 w.heap.size z1 (h.below K1.out) Hl.out hcl hl' hK).mono ?_
  rintro e w2 ⟨rfl, k2⟩
  rw [Hw.out]
  have K2 := Lib.hid (K1.out.trans (k2.mono z1))
  have z2 : w.heap.size ≤ w2.heap.size := K2.out.size
  have X2 := Lib.hid (X1.out.below k2 X1.out.lt)
  clear k2 c0 c1 c2 c3
  go_wp2_with fail
  refine (fit_any A c p.length 60 _ hlp).mono ?_
  rintro e wx ⟨rfl, rfl⟩
  rw [Hfit.out]
  have c0 := X2.out.cell 0
  have c1 := X2.out.cell 1
  have c2 := X2.out.cell 2
  have c3 := X2.out.cell 3
  simp at c0 c1 c2 c3
  have hgb2 : gb < w2.heap.size := X2.out.lt
  obtain ⟨ke, hke⟩ : ∃ ke, ke = (gateErr cs (kindN K) per ns).1 := ⟨_, rfl⟩
  obtain ⟨ka, hka⟩ : ∃ ka, ka = (gateErr cs (kindN K) per ns).2 := ⟨_, rfl⟩
  have HOWN := Lib.hid (fun (V : World) (q : Below w2.heap.size w2 V) => ownGate_any Ac An cc cn cs K per ns V w.heap.size (Nat.le_trans z2 q.size) (h.below (K2.out.trans (q.mono z2))) (h'.below (K2.out.trans (q.mono z2))) H20.out w1' w2')
  have HCK := Lib.hid (fun (V : World) (q : Below w2.heap.size w2 V) (A3 An3 : Option Addr) (c3 cn3 : Nat) (hll : RdLL V V.heap.size A3 cs) (hri : RdI V V.heap.size An3 ns) => gcheck_any A3 An3 c3 cn3 cs K per ns S V V.heap.size (Nat.le_refl _) hll hri ((hS.gs.below (K2.out.trans (q.mono z2))).more (K2.out.trans (q.mono z2)).size) Hl.out hl')
  have HGF := Lib.hid (fun (V : World) (q : Below w2.heap.size w2 V) => gfault_any Ac An cc cn cs K per ns V w.heap.size (Nat.le_trans z2 q.size) (h.below (K2.out.trans (q.mono z2))) (h'.below (K2.out.trans (q.mono z2))) Hl.out hl')
  have HALL := Lib.hid (fun (V : World) (q : Below w2.heap.size w2 V) => (hS.below (K2.out.trans (q.mono z2))).more (K2.out.trans (q.mono z2)).size)
  rw [← hke, ← hka] at HGF
  rw [← hke, ← hka] at HCK
  have kd : Below w2.heap.size w2 w2.drew := (Below.refl _ _).drew
  clear hke hka
  go_wp2_with fail
  go_region_held3 (fun w' => w'.cell? ⟨gb, 0, none⟩ = some (.slice Ac cs.length cc) ∧ w'.cell? ⟨gb, 1, none⟩ = some (.string K) ∧ w'.cell? ⟨gb, 2, none⟩ = some (.int .i64 per) ∧ w'.cell? ⟨gb, 3, none⟩ = some (.slice An ns.length cn))
    (first
      | go_keep
      | exact ⟨(k6.cell (p := ⟨gb, 0, none⟩) hgb2).trans c0, (k6.cell (p := ⟨gb, 1, none⟩) hgb2).trans c1, (k6.cell (p := ⟨gb, 2, none⟩) hgb2).trans c2, (k6.cell (p := ⟨gb, 3, none⟩) hgb2).trans c3⟩
      | exact ⟨(k5.cell (p := ⟨gb, 0, none⟩) hgb2).trans c0, (k5.cell (p := ⟨gb, 1, none⟩) hgb2).trans c1, (k5.cell (p := ⟨gb, 2, none⟩) hgb2).trans c2, (k5.cell (p := ⟨gb, 3, none⟩) hgb2).trans c3⟩
      | exact ⟨(k4.cell (p := ⟨gb, 0, none⟩) hgb2).trans c0, (k4.cell (p := ⟨gb, 1, none⟩) hgb2).trans c1, (k4.cell (p := ⟨gb, 2, none⟩) hgb2).trans c2, (k4.cell (p := ⟨gb, 3, none⟩) hgb2).trans c3⟩
      | exact ⟨(k3.cell (p := ⟨gb, 0, none⟩) hgb2).trans c0, (k3.cell (p := ⟨gb, 1, none⟩) hgb2).trans c1, (k3.cell (p := ⟨gb, 2, none⟩) hgb2).trans c2, (k3.cell (p := ⟨gb, 3, none⟩) hgb2).trans c3⟩)
    (first
     | (go_at_call 11; refine (HOWN.out _ (by first | exact k5 | exact kd)).mono ?_; rintro e w3 ⟨A3, cq3, An3, nq3, rfl, ll3, ri3, q3⟩; have k3 : Below w2.heap.size w2 w3 := (by first | exact k5.trans (q3.mono k5.size) | exact kd.trans (q3.mono kd.size)))
     | (go_at_call 10; refine (HCK.out _ (by first | exact k3 | exact k5) A3 An3 cq3 nq3 (by first | exact ll3 | exact (ll3.below q5).more q5.size) (by first | exact ri3 | exact (ri3.below q5).more q5.size)).mono ?_; rintro e w4 ⟨v4, rfl, hv4, q4⟩; have k4 : Below w2.heap.size w2 w4 := (by first | exact k3.trans (q4.mono k3.size) | exact k5.trans (q4.mono k5.size)))
     | (go_at_call 12; refine (HGF.out _ (by first | exact k4 | exact k3 | exact kd)).mono ?_; rintro e w5 ⟨rfl, q5⟩; have k5 : Below w2.heap.size w2 w5 := (by first | exact k4.trans (q5.mono k4.size) | exact k3.trans (q5.mono k3.size) | exact kd.trans (q5.mono kd.size)))
     | (go_at_call 9; refine (faulted2_any v4 ke ka ka S _ _ (Nat.le_refl _) (HALL.out _ (by first | exact k5 | exact k4)) (by first | exact hv4 | exact (hv4.below q5).more q5.size) (.inr rfl)).mono ?_; rintro e w6 ⟨rfl, q6⟩; have k6 : Below w2.heap.size w2 w6 := (by first | exact k5.trans (q6.mono k5.size) | exact k4.trans (q6.mono k4.size))))
  all_goals
    have K6 := Lib.hid (K2.out.trans (k6.mono z2))
    have X6 := Lib.hid (X2.out.below k6 hgb2)
    have z6 : w.heap.size ≤ w6.heap.size := K6.out.size
    clear c0 c1 c2 c3 HOWN HCK HGF HALL ll3 ri3 hv4 q3 q4 q5 q6 k3 k4 k5 k6 kd
    have c0 := X6.out.cell 0
    have c1 := X6.out.cell 1
    have c2 := X6.out.cell 2
    have c3 := X6.out.cell 3
    simp at c0 c1 c2 c3
    go_wp2_with fail
    refine (ownGate_any Ac An cc cn cs K per ns w6 w.heap.size z6 (h.below K6.out) (h'.below K6.out) H20.out w1' w2').mono ?_
    rintro e w7 ⟨A7, c7, An7, n7, rfl, ll7, ri7, k7⟩
    have K7 := Lib.hid (K6.out.trans (k7.mono z6))
    have X7 := Lib.hid (X6.out.below k7 X6.out.lt)
    have z7 : w.heap.size ≤ w7.heap.size := K7.out.size
    have LL7 := Lib.hid ll7
    have RI7 := Lib.hid ri7
    clear k7 ll7 ri7 c0 c1 c2 c3
    go_wp2_with fail
    refine (ownPackets_any A c p w7 _ (hp.below K7.out) (by omega)).mono ?_
    rintro e w8 ⟨A8, c8, rfl, o8, k8⟩
    have K8 := Lib.hid (K7.out.trans (k8.mono z7))
    have X8 := Lib.hid (X7.out.below k8 X7.out.lt)
    have z8 : w.heap.size ≤ w8.heap.size := K8.out.size
    have HRUN := Lib.hid (grun_any A7 An7 A8 c7 n7 c8 cs K per ns p S w8 w8.heap.size (Nat.le_refl _) ((LL7.out.below k8).more k8.size) ((RI7.out.below k8).more k8.size) (RdP.of_own o8) ((hS.gs.below K8.out).more z8) Hl.out hl' hlp)
    obtain ⟨re, hre⟩ : ∃ re, re = (runErr cs (kindN K) per ns p).1 := ⟨_, rfl⟩
    obtain ⟨ra, hra⟩ : ∃ ra, ra = (runErr cs (kindN K) per ns p).2 := ⟨_, rfl⟩
    obtain ⟨qq, hqq⟩ : ∃ qq, qq = runQ cs (kindN K) per ns p := ⟨_, rfl⟩
    obtain ⟨ll, hll9⟩ : ∃ ll, ll = runL cs (kindN K) per ns p := ⟨_, rfl⟩
    have hq3 : qq.length ≤ 301 := by
      rw [hqq]
      by_cases hr : (runErr cs (kindN K) per ns p).1 = 0
      · rw [show runQ cs (kindN K) per ns p = gOut p (gFold cs p 8).1 from if_pos hr, gOut_len]; exact hle
      · rw [show runQ cs (kindN K) per ns p = [] from if_neg hr]; exact Nat.zero_le _
    have hl3 : ll.length ≤ 301 := by
      rw [hll9]
      by_cases hr : (runErr cs (kindN K) per ns p).1 = 0
      · obtain ⟨-, -, -, -, -, r6⟩ := runErr_ok hr
        rw [show runL cs (kindN K) per ns p = linkV (kindN K) (gOut p (gFold cs p 8).1) per ns from if_pos hr, (link_is (by rw [r6])).len, gOut_len]; exact hle
      · rw [show runL cs (kindN K) per ns p = [] from if_neg hr]; exact Nat.zero_le _
    have HRE := Lib.hid hre
    have HRA := Lib.hid hra
    have HQQ := Lib.hid hqq
    have HLL := Lib.hid hll9
    rw [← hre, ← hra, ← hqq, ← hll9] at HRUN
    clear k8 o8 hre hra hqq hll9
    go_wp2_with fail
    refine (HRUN.out).mono ?_
    rintro e w9 ⟨A9, c9, B9, d9, v9, rfl, o9, p9, hv9, k9⟩
    have K9 := Lib.hid (K8.out.trans (k9.mono z8))
    have x9 := X8.out.below k9 X8.out.lt
    have z9 : w.heap.size ≤ w9.heap.size := K9.out.size
    have c0 := x9.cell 0
    have c1 := x9.cell 1
    have c2 := x9.cell 2
    have c3 := x9.cell 3
    simp at c0 c1 c2 c3
    have HRO := Lib.hid (runOf_any Ac An A cc cn c cs K per ns p w9 w.heap.size z9 (h.below K9.out) (h'.below K9.out) (hp.below K9.out) Hl.out hl' hlp)
    rw [← HRE.out, ← HRA.out, ← HQQ.out, ← HLL.out] at HRO
    have O9 := Lib.hid o9
    have P9 := Lib.hid p9
    have HV9 := Lib.hid hv9
    clear k9 x9 o9 p9 hv9 HRUN
    go_wp2_with fail
    refine (HRO.out).mono ?_
    rintro e w10 ⟨A10, c10, B10, d10, rfl, r10, s10, k10⟩
    clear c0 c1 c2 c3 HRO
    obtain ⟨X, hX⟩ : ∃ X : World, X = w10.alloc (.cells #[.int .i64 re, .int .i64 ra] 37) := ⟨_, rfl⟩
    obtain ⟨fb, hfb⟩ : ∃ fb, fb = w10.heap.size := ⟨_, rfl⟩
    have bX : Below w10.heap.size w10 X := by rw [hX]; exact (Below.refl _ _).alloc (Nat.le_refl _) _
    have kX : Below w9.heap.size w9 X := k10.trans (bX.mono k10.size)
    have fX : Blk X fb 37 #[.int .i64 re, .int .i64 ra] := by rw [hX, hfb]; exact Blk.new _ _ _
    have f0 := fX.cell 0
    have f1 := fX.cell 1
    simp only [List.getElem?_toArray, List.getElem?_cons_zero, List.getElem?_cons_succ] at f0 f1
    have KX := Lib.hid (K9.out.trans (kX.mono z9))
    have HX := Lib.hid hX
    have HFB := Lib.hid hfb
    have HFA := Lib.hid (faulted2_any v9 re ra ra S X X.heap.size (Nat.le_refl _) ((hS.below KX.out).more KX.out.size) ((HV9.out.below kX).more kX.size) (.inr rfl))
    have RQ := Lib.hid (RdP.of_own (own_below O9.out kX (Nat.le_refl _)))
    have RL := Lib.hid (RdS.of_own (own_below P9.out kX (Nat.le_refl _)))
    have RX := Lib.hid ((r10.below bX).more bX.size)
    have SX := Lib.hid ((s10.below bX).more bX.size)
    unfold fv
    clear hX hfb bX kX fX k10 r10 s10 HV9
    go_upto_region 8 with fail
    rw [← HX.out, ← HFB.out]
    go_wp2_with fail
    refine (HFA.out).mono ?_
    rintro e w11 ⟨rfl, k11⟩
    have K11 := Lib.hid (KX.out.trans (k11.mono KX.out.size))
    have R1 := Lib.hid ((RQ.out.below k11).more k11.size)
    have R2 := Lib.hid ((RX.out.below k11).more k11.size)
    have R3 := Lib.hid ((RL.out.below k11).more k11.size)
    have R4 := Lib.hid ((SX.out.below k11).more k11.size)
    clear k11 f0 f1 HFA
    go_wp2_with fail
    refine (samePk_any A9 A10 c9 c10 qq qq w11 w11.heap.size R1.out R2.out (by omega) (by omega)).mono ?_
    rintro e w12 ⟨rfl, m, rfl⟩
    rw [decide_eq_true rfl]
    go_wp2_with fail
    refine (sameSn_any B9 B10 d9 d10 ll (w11.drewN m) w11.heap.size R3.out R4.out (by omega)).mono ?_
    rintro e w13 ⟨rfl, m2, rfl⟩
    go_wp2_with fail
    go_ret
    exact ⟨rfl, below_drewN K11.out (m + m2)⟩
set_option maxHeartbeats 2000000 in
theorem gateRuns_any (Ac : Option Addr) (cc : Nat) (cs : List (List Ln)) (K : ByteArray) (per : Int) (An : Option Addr) (cn : Nat) (ns : List Int) (A : Option Addr) (c : Nat) (p : List Pk) (S : Nat → Addr) (w : World) (h : RdLL w w.heap.size Ac cs) (h' : RdI w w.heap.size An ns) (hp : RdP w w.heap.size A p) (hS : All9 w w.heap.size S) (hl : ∀ l ∈ cs, l.length ≤ 9223372036854775807) (hcl : cs.length ≤ 9223372036854775807) (hl' : ns.length ≤ 9223372036854775807) (hK : K.size ≤ 9223372036854775807) (hlp : p.length ≤ 9223372036854775807) :
    Calls Tryz.prog 3 #[.agg #[.slice Ac cs.length cc, .string K, .int .i64 per, .slice An ns.length cn], .slice A p.length c] w fun e w' => e = .returned (.bool true) ∧ Below w.heap.size w w' := by
  cases hw : wideB cs K ns
  · cases hfit : fitB p.length 60
    · have Hl := Lib.hid hl
      have Hw := Lib.hid hw
      have Hfit := Lib.hid hfit
      clear hl hw hfit
      obtain ⟨W, hW⟩ : ∃ W : World, W = w.alloc (.cells #[.slice Ac cs.length cc, .string K, .int .i64 per, .slice An ns.length cn] 25) := ⟨_, rfl⟩
      have b0 : Below w.heap.size w W := by rw [hW]; exact (Below.refl _ _).alloc (Nat.le_refl _) _
      obtain ⟨gb, hgb⟩ : ∃ gb, gb = w.heap.size := ⟨_, rfl⟩
      have x0 : Blk W gb 25 #[.slice Ac cs.length cc, .string K, .int .i64 per, .slice An ns.length cn] := by rw [hW, hgb]; exact Blk.new _ _ _
      have HW := Lib.hid hW
      have HGB := Lib.hid hgb
      have B0 := Lib.hid b0
      have X0 := Lib.hid x0
      have z0 := b0.size
      have hgbl : gb < W.heap.size := x0.lt
      clear hW hgb b0 x0
      go_enter Tryz.func3, Tryz.ntmps3
      go_wp2_with fail
      rw [← HGB.out, ← HW.out]
      refine (opens_any S W ((hS.gs.below B0.out).more z0)).mono ?_
      rintro e w1 ⟨rfl, k1⟩
      have x1 := X0.out.below k1 X0.out.lt
      have c0 := x1.cell 0
      have c1 := x1.cell 1
      have c2 := x1.cell 2
      have c3 := x1.cell 3
      simp at c0 c1 c2 c3
      have K1 := Lib.hid (B0.out.trans (k1.mono z0))
      have X1 := Lib.hid x1
      have z1 : w.heap.size ≤ w1.heap.size := K1.out.size
      clear k1 x1
      go_wp2_with fail
      refine (wide_any Ac An cc cn cs K per ns w1 w.heap.size z1 (h.below K1.out) Hl.out hcl hl' hK).mono ?_
      rintro e w2 ⟨rfl, k2⟩
      rw [Hw.out]
      have K2 := Lib.hid (K1.out.trans (k2.mono z1))
      have z2 : w.heap.size ≤ w2.heap.size := K2.out.size
      have X2 := Lib.hid (X1.out.below k2 X1.out.lt)
      clear k2 c0 c1 c2 c3
      go_wp2_with fail
      refine (fit_any A c p.length 60 _ hlp).mono ?_
      rintro e wx ⟨rfl, rfl⟩
      rw [Hfit.out]
      go_wp2_with fail
      go_ret
      exact ⟨rfl, K2.out⟩
    · exact gruns_main Ac An cc cn cs K per ns A c p S w h h' hp hS hl hcl hl' hK hw hfit
  · have Hl := Lib.hid hl
    have Hw := Lib.hid hw
    clear hl hw
    obtain ⟨W, hW⟩ : ∃ W : World, W = w.alloc (.cells #[.slice Ac cs.length cc, .string K, .int .i64 per, .slice An ns.length cn] 25) := ⟨_, rfl⟩
    have b0 : Below w.heap.size w W := by rw [hW]; exact (Below.refl _ _).alloc (Nat.le_refl _) _
    obtain ⟨gb, hgb⟩ : ∃ gb, gb = w.heap.size := ⟨_, rfl⟩
    have x0 : Blk W gb 25 #[.slice Ac cs.length cc, .string K, .int .i64 per, .slice An ns.length cn] := by rw [hW, hgb]; exact Blk.new _ _ _
    have HW := Lib.hid hW
    have HGB := Lib.hid hgb
    have B0 := Lib.hid b0
    have X0 := Lib.hid x0
    have z0 := b0.size
    have hgbl : gb < W.heap.size := x0.lt
    clear hW hgb b0 x0
    go_enter Tryz.func3, Tryz.ntmps3
    go_wp2_with fail
    rw [← HGB.out, ← HW.out]
    refine (opens_any S W ((hS.gs.below B0.out).more z0)).mono ?_
    rintro e w1 ⟨rfl, k1⟩
    have x1 := X0.out.below k1 X0.out.lt
    have c0 := x1.cell 0
    have c1 := x1.cell 1
    have c2 := x1.cell 2
    have c3 := x1.cell 3
    simp at c0 c1 c2 c3
    have K1 := Lib.hid (B0.out.trans (k1.mono z0))
    have X1 := Lib.hid x1
    have z1 : w.heap.size ≤ w1.heap.size := K1.out.size
    clear k1 x1
    go_wp2_with fail
    refine (wide_any Ac An cc cn cs K per ns w1 w.heap.size z1 (h.below K1.out) Hl.out hcl hl' hK).mono ?_
    rintro e w2 ⟨rfl, k2⟩
    rw [Hw.out]
    have K2 := Lib.hid (K1.out.trans (k2.mono z1))
    have z2 : w.heap.size ≤ w2.heap.size := K2.out.size
    have X2 := Lib.hid (X1.out.below k2 X1.out.lt)
    clear k2 c0 c1 c2 c3
    go_wp2_with fail
    go_ret
    exact ⟨rfl, K2.out⟩
end Go.Proofs.YthgpbdlmadjndaaGreatDoor
