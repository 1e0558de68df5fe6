/- The law GateBusy returns true, whatever its arguments, and changes nothing that was there. Conditions: the sentinels that a gate names lie in their variables; errors.errorType holds the type error. -/
import Derived.Test.YthgpbdlmadjndaaDoorPlyL
import Derived.Test.YthgpbdlmadjndaaDoorGwM
import Derived.Test.YthgpbdlmadjndaaDoorMiscM
namespace Go.Proofs.YthgpbdlmadjndaaDoor
open Go.RowKit
set_option maxRecDepth 100000
theorem eqTk2 (a b c d : Int) (w : World) : (Op.equalIn 10000 74 (.agg #[.int .i64 a, .int .i64 b]) (.agg #[.int .i64 c, .int .i64 d])).run Tryd.prog w = .ok (a == c && b == d) w := by
  have u3 := Tryd.underlying3
  have a3 := Tryd.isAgg3
  have z3 := Tryd.sizeOf3
  rw [show (10000 : Nat) = 9999 + 1 from rfl, Op.equalIn]
  simp only [Sem.run_bind, run_underlying Tryd.underlying74, Result.andThen_ok]
  simp only [Std.Legacy.Range.forIn_eq_forIn_range', Std.Legacy.Range.size, Nat.sub_zero, Nat.add_sub_cancel, Nat.div_one, List.range'_succ, List.range'_zero, List.forIn_cons, List.forIn_nil]
  go_simp
  by_cases h1 : a = c <;> by_cases h2 : b = d <;> simp [h1, h2]
theorem fbusy_any (A : Option Addr) (c : Nat) (l : List Sn) (w : World) (B : Nat) (hB : B ≤ w.heap.size) (h : RdS w B A l) (hl : l.length ≤ 4294967296) :
    Calls Tryd.prog 36 #[.slice A l.length c] w (EndOwn Ln.cs 2 74 (busyL l) w) := busy_any A c l w B hB h hl
/-- A slice of slices of numbers. -/
def RdII (w : World) (B : Nat) (A : Option Addr) (nss : List (List Int)) : Prop := ∀ i (h : i < nss.length), ∃ b o a c, A = some ⟨b, o, none⟩ ∧ b < B ∧ w.cell? ⟨b, o + i, none⟩ = some (.slice a nss[i].length c) ∧ RdI w B a nss[i]
theorem RdII.below {w w' : World} {B : Nat} {A : Option Addr} {nss : List (List Int)} (h : RdII w B A nss) (hb : Below B w w') : RdII w' B A nss := fun i hi => by
  obtain ⟨b, o, a, c, e, h1, h2, h3⟩ := h i hi
  exact ⟨b, o, a, c, e, h1, (hb.cell (p := ⟨b, o + i, none⟩) h1).trans h2, h3.below hb⟩
theorem kStep_len (per : Int) (acc : List Ln) (x : Pk) : (kStep per acc x).length ≤ acc.length + 1 := by
  unfold kStep
  split
  · rename_i y hy
    split
    · have : acc ≠ [] := fun e => by rw [e] at hy; cases hy
      have := List.length_pos_iff.2 this
      simp only [List.length_append, List.length_dropLast, List.length_cons, List.length_nil]
      omega
    · simp
  · simp
theorem kL_len (per : Int) (p : List Pk) : (kL per p).length ≤ p.length := by
  have : ∀ (p : List Pk) (acc : List Ln), (p.foldl (kStep per) acc).length ≤ acc.length + p.length := fun p => by
    induction p with
    | nil => intro acc; simp
    | cons x r ih =>
      intro acc
      have h1 := ih (kStep per acc x)
      have h2 := kStep_len per acc x
      simp only [List.foldl_cons, List.length_cons]
      omega
  have := this p []
  simpa [kL] using this
set_option maxHeartbeats 8000000 in
theorem gbusy_main (Ac An AN A : Option Addr) (cc cn cN c : Nat) (cs : List (List Ln)) (K : ByteArray) (per : Int) (ns : List Int) (nss : List (List Int)) (p : List Pk) (S : Nat → Addr) (w : World) (h : RdLL w w.heap.size Ac cs) (h' : RdI w w.heap.size An ns) (hN : RdII w w.heap.size AN nss) (hp : RdP w w.heap.size A p) (hS : GS w w.heap.size S) (hl : ∀ l ∈ cs, l.length ≤ 9223372036854775807) (hcl : cs.length ≤ 9223372036854775807) (hl' : ns.length ≤ 9223372036854775807) (hK : K.size ≤ 9223372036854775807) (hlN : ∀ l ∈ nss, l.length ≤ 9223372036854775807) (hw : wideB cs K ns = false) (hfit : fitB p.length 100 = true) (h10 : nss.length ≤ 10) :
    Calls Tryd.prog 7 #[.agg #[.slice Ac cs.length cc, .string K, .int .i64 per, .slice An ns.length cn], .slice AN nss.length cN, .slice A p.length c] w fun e w' => e = .returned (.bool true) ∧ Below w.heap.size w w' := by
  obtain ⟨w1', w2', w3', w4'⟩ := wideB_ok hw
  have hle : p.length ≤ 301 := by have := of_decide_eq_true hfit; omega
  have hlp : p.length ≤ 9223372036854775807 := by omega
  have Hfit := Lib.hid hfit
  have Hw := Lib.hid hw
  have Hl := Lib.hid hl
  have HlN := Lib.hid hlN
  have H20 := Lib.hid w4'
  obtain ⟨KL, hKL⟩ : ∃ KL, KL = kL per (gOut p (gFold cs p 8).1) := ⟨_, rfl⟩
  have HKL := Lib.hid hKL
  have hKLb : KL.length ≤ 301 := by rw [hKL]; have := kL_len per (gOut p (gFold cs p 8).1); rw [gOut_len] at this; omega
  obtain ⟨W, hW⟩ : ∃ W : World, W = w.alloc (.cells #[.slice Ac cs.length cc, .string K, .int .i64 per, .slice An ns.length cn] 67) := ⟨_, rfl⟩
  have b0 : Below w.heap.size w W := by rw [hW]; exact (Below.refl _ _).alloc (Nat.le_refl _) _
  obtain ⟨gb, hgb⟩ : ∃ gb, gb = w.heap.size := ⟨_, rfl⟩
  have x0 : Blk W gb 67 #[.slice Ac cs.length cc, .string K, .int .i64 per, .slice An ns.length cn] := by rw [hW, hgb]; exact Blk.new _ _ _
  have HW := Lib.hid hW
  have HGB := Lib.hid hgb
  have B0 := Lib.hid b0
  have X0 := Lib.hid x0
  have hgbl : gb < W.heap.size := x0.lt
  have z0 := b0.size
  clear hw hl hlN w4' hW hgb b0 x0 hfit hKL
  go_enter Tryd.func7, Tryd.ntmps7
  go_wp2_with fail
  rw [← HGB.out, ← HW.out]
  refine (opens_any S W ((hS.below B0.out).more z0)).mono ?_
  rintro e w1 ⟨rfl, k1⟩
  have x1 := X0.out.below k1 hgbl
  have c0 := x1.cell 0
  have c1 := x1.cell 1
  have c2 := x1.cell 2
  have c3 := x1.cell 3
  simp at c0 c1 c2 c3
  have K1 := Lib.hid (B0.out.trans (k1.mono z0))
  have X1 := Lib.hid x1
  have z1 : w.heap.size ≤ w1.heap.size := K1.out.size
  clear k1 x1
  go_wp2_with fail
  refine (wide_any Ac An cc cn cs K per ns w1 w.heap.size z1 (h.below K1.out) Hl.out hcl hl' hK).mono ?_
  rintro e w2 ⟨rfl, k2⟩
  rw [Hw.out]
  have K2 := Lib.hid (K1.out.trans (k2.mono z1))
  have z2 : w.heap.size ≤ w2.heap.size := K2.out.size
  have X2 := Lib.hid (X1.out.below k2 X1.out.lt)
  have v1 : ¬ (10 : Int) < (nss.length : Int) := by omega
  clear k2 c0 c1 c2 c3
  go_wp2_with fail
  refine (fit_any A c p.length 100 _ hlp).mono ?_
  rintro e wx ⟨rfl, rfl⟩
  rw [Hfit.out]
  obtain ⟨W3, hW3⟩ : ∃ W3 : World, W3 = w2.alloc (.cells #[.string ⟨#[102, 105, 102, 111]⟩, .string ⟨#[114, 97, 110, 107]⟩, .string ⟨#[100, 117, 101]⟩, .string ⟨#[114, 111, 117, 110, 100]⟩, .string ⟨#[102, 97, 105, 114]⟩] 9) := ⟨_, rfl⟩
  obtain ⟨gk, hgk⟩ : ∃ gk, gk = w2.heap.size := ⟨_, rfl⟩
  have b3 : Below w2.heap.size w2 W3 := by rw [hW3]; exact (Below.refl _ _).alloc (Nat.le_refl _) _
  have xk : Blk W3 gk 9 #[.string ⟨#[102, 105, 102, 111]⟩, .string ⟨#[114, 97, 110, 107]⟩, .string ⟨#[100, 117, 101]⟩, .string ⟨#[114, 111, 117, 110, 100]⟩, .string ⟨#[102, 97, 105, 114]⟩] := by rw [hW3, hgk]; exact Blk.new _ _ _
  have HW3 := Lib.hid hW3
  have HGK := Lib.hid hgk
  have XK0 := Lib.hid xk
  have XG0 := Lib.hid (X2.out.below b3 X2.out.lt)
  have K3 := Lib.hid (K2.out.trans (b3.mono z2))
  clear hW3 hgk b3 xk
  go_wp2_with fail
  rw [← HGK.out, ← HW3.out]
  go_loopw [9, 10, 11] (fun fv bv iv wr => ∃ (i : Nat) (fv' : Value) (fb : Bool), i ≤ 5 ∧ iv = .int .i64 i ∧ fv = fv' ∧ bv = .bool fb ∧ (fb = true → ∃ A2 c2, fv' = .slice A2 KL.length c2 ∧ RdL wr wr.heap.size A2 KL) ∧ Blk wr gb 67 #[.slice Ac cs.length cc, .string K, .int .i64 per, .slice An ns.length cn] ∧ Blk wr gk 9 #[.string ⟨#[102, 105, 102, 111]⟩, .string ⟨#[114, 97, 110, 107]⟩, .string ⟨#[100, 117, 101]⟩, .string ⟨#[114, 111, 117, 110, 100]⟩, .string ⟨#[102, 97, 105, 114]⟩] ∧ Below w.heap.size w wr) (fun _ _ iv _ => 5 - (intOf iv).toNat)
  case atStart => exact ⟨0, _, false, Nat.zero_le _, rfl, rfl, rfl, (fun e => by cases e), XG0.out, XK0.out, K3.out⟩
  case round =>
    obtain ⟨i, fv, fb, hi, rfl, rfl, rfl, hfv, hxg, hxk, hbw⟩ := hrel
    have HFV := Lib.hid hfv
    have XG := Lib.hid hxg
    have XK := Lib.hid hxk
    have KW := Lib.hid hbw
    have zw : w.heap.size ≤ wr.heap.size := hbw.size
    have g0 := hxg.cell 0
    have g1 := hxg.cell 1
    have g2 := hxg.cell 2
    have g3 := hxg.cell 3
    simp at g0 g1 g2 g3
    by_cases hi5 : i < 5
    · obtain ⟨K', hK'⟩ : ∃ K', wr.cell? ⟨gk, i, none⟩ = some (.string K') := by
        have h9 := fun j => hxk.cell j
        have : i = 0 ∨ i = 1 ∨ i = 2 ∨ i = 3 ∨ i = 4 := by omega
        rcases this with rfl | rfl | rfl | rfl | rfl
        · exact ⟨_, h9 0⟩
        · exact ⟨_, h9 1⟩
        · exact ⟨_, h9 2⟩
        · exact ⟨_, h9 3⟩
        · exact ⟨_, h9 4⟩
      have u1 : (0 : Int) ≤ (i : Int) := by omega
      have u2 : (i : Int) < 5 := by omega
      have gl := World.block_lt_of_cell? _ _ hK'
      have gl2 := World.block_lt_of_cell? _ _ g0
      simp only at gl gl2
      obtain ⟨X, hX⟩ : ∃ X : World, X = wr.alloc (.cells #[.slice Ac cs.length cc, .string K', .int .i64 per, .slice none 0 0] 67) := ⟨_, rfl⟩
      obtain ⟨gx, hgx⟩ : ∃ gx, gx = wr.heap.size := ⟨_, rfl⟩
      have bX : Below wr.heap.size wr X := by rw [hX]; exact (Below.refl _ _).alloc (Nat.le_refl _) _
      have xx : Blk X gx 67 #[.slice Ac cs.length cc, .string K', .int .i64 per, .slice none 0 0] := by rw [hX, hgx]; exact Blk.new _ _ _
      have HX := Lib.hid hX
      have HGX := Lib.hid hgx
      have BX := Lib.hid bX
      have XX := Lib.hid xx
      have hgxw : w.heap.size ≤ gx := by omega
      clear hX hgx bX xx hfv hxg hxk hbw
      by_cases hn : 0 < i ∧ i ≤ nss.length
      · obtain ⟨hn1, hn2⟩ := hn
        obtain ⟨j, rfl⟩ : ∃ j, i = j + 1 := ⟨i - 1, by omega⟩
        have hj : j < nss.length := by omega
        obtain ⟨bN, oN, NA, NC, rfl, hbN, dN, rN⟩ := (hN.below (KW.out.trans (BX.out.mono zw))) j hj
        have hjl := HlN.out _ (List.getElem_mem hj)
        obtain ⟨nsI, hnsI⟩ : ∃ nsI, nsI = nss[j] := ⟨_, rfl⟩
        rw [← hnsI] at dN rN hjl
        have RN := Lib.hid rN
        have e1 : ((j + 1 : Nat) : Int) = (j : Int) + 1 := by omega
        rw [e1] at u1 u2 ⊢
        have v2 : (0 : Int) < (j : Int) + 1 := by omega
        have v3 : (j : Int) + 1 ≤ (nss.length : Int) := by omega
        have v4 : (0 : Int) ≤ (j : Int) := by omega
        have v5 : (j : Int) < (nss.length : Int) := by omega
        have hK2 : wr.cell? ⟨gk, j + 1, none⟩ = some (.string K') := hK'
        have e2 : (j : Int) + 1 - 1 = (j : Int) := by omega
        clear hnsI rN hK' e1
        go_upto_region 13 with fail
        rw [← HGX.out, ← HX.out]
        clear g0 g1 g2 g3 gl gl2 hK2
        by_cases h30 : 30 < nsI.length
        · have v6 : (30 : Int) < (nsI.length : Int) := by omega
          have dX := XX.out.cell 0
          clear h30
          go_wp2_with fail
          go_ret
          exact ⟨rfl, KW.out.trans (BX.out.mono zw)⟩
        · have v6 : ¬ (30 : Int) < (nsI.length : Int) := by omega
          have x3 := XX.out.cell 3
          have f3 := XX.out.frozen 3
          simp at x3
          obtain ⟨Y, hY⟩ : ∃ Y : World, Y = X.setCell ⟨gx, 3, none⟩ (.slice NA nsI.length NC) := ⟨_, rfl⟩
          have kwY : Below wr.heap.size wr Y := by rw [hY]; exact BX.out.setCell (p := ⟨gx, 3, none⟩) (by rw [HGX.out]; exact Nat.le_refl _) _
          have xY : Blk Y gx 67 #[.slice Ac cs.length cc, .string K', .int .i64 per, .slice NA nsI.length NC] := by rw [hY]; exact XX.out.set_ 3 _
          have y0 := xY.cell 0
          have y1 := xY.cell 1
          have y2 := xY.cell 2
          have y3 := xY.cell 3
          simp at y0 y1 y2 y3
          have KY := Lib.hid (KW.out.trans (kwY.mono zw))
          have zY : w.heap.size ≤ Y.heap.size := KY.out.size
          have HNI := Lib.hid (show RdI Y w.heap.size NA nsI from by rw [hY]; exact RN.out.below ((Below.refl _ _).setCell (p := ⟨gx, 3, none⟩) hgxw _))
          have hn30 : nsI.length ≤ 30 := by omega
          have HY := Lib.hid hY
          clear hY xY h30
          go_upto_region 17 with fail
          rw [← HY.out]
          clear x3 f3
          go_wp2_with fail
          refine (ownGate_any Ac NA cc NC cs K' per nsI Y w.heap.size zY (h.below KY.out) HNI.out H20.out w1' hn30).mono ?_
          rintro e w4 ⟨Ac4, cc4, An4, cn4, rfl, ll4, ri4, k4⟩
          have K4 := Lib.hid (KY.out.trans (k4.mono zY))
          have z4 : w.heap.size ≤ w4.heap.size := K4.out.size
          have LL4 := Lib.hid ll4
          have RI4 := Lib.hid ri4
          have kY4 : Below Y.heap.size Y w4 := k4
          clear k4 ll4 ri4 y0 y1 y2 y3
          go_wp2_with fail
          refine (ownPackets_any A c p w4 w.heap.size (hp.below K4.out) (by omega)).mono ?_
          rintro e w5 ⟨A5, c5, rfl, o5, k5⟩
          have K5 := Lib.hid (K4.out.trans (k5.mono z4))
          have z5 : w.heap.size ≤ w5.heap.size := K5.out.size
          have kY5 := kY4.trans (k5.mono kY4.size)
          have R5 := Lib.hid (RdP.of_own o5)
          have LL5 := Lib.hid ((LL4.out.below k5).more k5.size)
          have RI5 := Lib.hid ((RI4.out.below k5).more k5.size)
          clear k5 o5 kY4
          go_wp2_with fail
          refine (grun_any Ac4 An4 A5 cc4 cn4 c5 cs K' per nsI p S w5 w5.heap.size (Nat.le_refl _) LL5.out RI5.out R5.out ((hS.below K5.out).more z5) Hl.out (by omega) hlp).mono ?_
          rintro e w6 ⟨A6, c6, A7, c7, v, rfl, o6, o7, hv, k6⟩
          have K6 := Lib.hid (K5.out.trans (k6.mono z5))
          have z6 : w.heap.size ≤ w6.heap.size := K6.out.size
          have kY6 := kY5.trans (k6.mono kY5.size)
          by_cases hr : (runErr cs (kindN K') per nsI p).1 = 0
          · obtain rfl := hv.nil_of hr
            obtain ⟨r1, r2, r3⟩ := run_link hr
            have hbl : busyL (runL cs (kindN K') per nsI p) = KL := by rw [r2.busy, r1, ← HKL.out]
            have hll : (runL cs (kindN K') per nsI p).length ≤ 4294967296 := by have := r2.len; rw [r1, gOut_len] at this; omega
            have R7 := Lib.hid (RdS.of_own o7)
            obtain ⟨l, hl9⟩ : ∃ l, l = runL cs (kindN K') per nsI p := ⟨_, rfl⟩
            rw [← hl9] at hbl hll R7 ⊢
            have HBL := Lib.hid hbl
            clear o6 o7 hv hr r1 r2 r3 hbl hl9 kY5 k6
            go_wp2_with fail
            refine (fbusy_any A7 c7 l w6 w6.heap.size (Nat.le_refl _) R7.out hll).mono ?_
            rintro e w7 ⟨A8, c8, rfl, o8, k8⟩
            rw [HBL.out] at o8 ⊢
            have K8 := Lib.hid (K6.out.trans (k8.mono z6))
            have z8 : w.heap.size ≤ w7.heap.size := K8.out.size
            have kY8 := kY6.trans (k8.mono kY6.size)
            have RB := Lib.hid (RdL.of_own o8)
            have FX := Lib.hid (fun A2 c2 (e9 : u9 = .slice A2 KL.length c2 ∧ RdL wr wr.heap.size A2 KL) => ((e9.2.below (kwY.trans (kY8.mono kwY.size))).more (kwY.trans (kY8.mono kwY.size)).size))
            have XG8 := Lib.hid ((XG.out.below kwY XG.out.lt).below kY8 (Nat.lt_of_lt_of_le XG.out.lt kwY.size))
            have XK8 := Lib.hid ((XK.out.below kwY XK.out.lt).below kY8 (Nat.lt_of_lt_of_le XK.out.lt kwY.size))
            clear o8 k8 kY6 kY8
            cases fb
            · go_wp2_with fail
              go_loopw [17] (fun iv wr => ∃ k m : Nat, k ≤ KL.length ∧ iv = .int .i64 k ∧ wr = w7.drewN m) (fun iv _ => KL.length - (intOf iv).toNat)
              case atStart => exact ⟨0, 0, Nat.zero_le _, rfl, rfl⟩
              case round =>
                obtain ⟨k, m, hk, rfl, rfl⟩ := hrel
                by_cases hkl : k < KL.length
                · obtain ⟨b, o, hA, hb, d0, d1⟩ := RdL.get RB.out hkl
                  subst hA
                  have q1 : (0 : Int) ≤ (k : Int) := by omega
                  have q2 : (k : Int) < (KL.length : Int) := by omega
                  have eqt := eqTk2
                  go_wp2_with fail
                  go_quiet (fail)
                  go_wp2_with fail
                  go_roundw
                  case rel => exact ⟨k + 1, _, hkl, by go_num, rfl⟩
                  case measure => simp [intOf]; omega
                · go_wp2_with fail
                  go_roundw
                  case rel => exact ⟨j + 1 + 1, .slice A8 KL.length c8, true, hi5, by go_num, rfl, rfl, fun _ => ⟨A8, c8, rfl, RB.out⟩, XG8.out, XK8.out, below_drewN K8.out m⟩
                  case measure => simp [intOf]; omega
            · obtain ⟨A2, c2, rfl, hr2⟩ := HFV.out rfl
              have R2 := Lib.hid (FX.out A2 c2 ⟨rfl, hr2⟩)
              clear hr2 FX
              go_wp2_with fail
              go_loopw [17] (fun iv wr => ∃ k m : Nat, k ≤ KL.length ∧ iv = .int .i64 k ∧ wr = w7.drewN m) (fun iv _ => KL.length - (intOf iv).toNat)
              case atStart => exact ⟨0, 0, Nat.zero_le _, rfl, rfl⟩
              case round =>
                obtain ⟨k, m, hk, rfl, rfl⟩ := hrel
                by_cases hkl : k < KL.length
                · obtain ⟨b, o, hA, hb, d0, d1⟩ := RdL.get RB.out hkl
                  subst hA
                  obtain ⟨b', o', hA', hb', e0, e1⟩ := RdL.get R2.out hkl
                  subst hA'
                  have q1 : (0 : Int) ≤ (k : Int) := by omega
                  have q2 : (k : Int) < (KL.length : Int) := by omega
                  have eqt := eqTk2
                  go_wp2_with fail
                  go_quiet (fail)
                  go_wp2_with fail
                  go_roundw
                  case rel => exact ⟨k + 1, _, hkl, by go_num, rfl⟩
                  case measure => simp [intOf]; omega
                · go_wp2_with fail
                  go_roundw
                  case rel => exact ⟨j + 1 + 1, .slice A2 KL.length c2, true, hi5, by go_num, rfl, rfl, fun _ => ⟨A2, c2, rfl, R2.out⟩, XG8.out, XK8.out, below_drewN K8.out m⟩
                  case measure => simp [intOf]; omega
          · obtain ⟨T, ad, rfl⟩ := hv.some_of hr
            have FX := Lib.hid (fun A2 c2 (e9 : u9 = .slice A2 KL.length c2 ∧ RdL wr wr.heap.size A2 KL) => ((e9.2.below (kwY.trans (kY6.mono kwY.size))).more (kwY.trans (kY6.mono kwY.size)).size))
            have XG6 := Lib.hid ((XG.out.below kwY XG.out.lt).below kY6 (Nat.lt_of_lt_of_le XG.out.lt kwY.size))
            have XK6 := Lib.hid ((XK.out.below kwY XK.out.lt).below kY6 (Nat.lt_of_lt_of_le XK.out.lt kwY.size))
            clear o6 o7 hv hr kY5 k6 kY6
            go_wp2_with fail
            go_roundw
            case rel => exact ⟨j + 1 + 1, u9, fb, hi5, by go_num, rfl, rfl, fun e9 => (by obtain ⟨A2, c2, e1, e2⟩ := HFV.out e9; exact ⟨A2, c2, e1, FX.out A2 c2 ⟨e1, e2⟩⟩), XG6.out, XK6.out, K6.out⟩
            case measure => simp [intOf]; omega
      · obtain ⟨NA, hNA⟩ : ∃ NA : Option Addr, NA = none := ⟨_, rfl⟩
        obtain ⟨NC, hNC⟩ : ∃ NC : Nat, NC = 0 := ⟨_, rfl⟩
        obtain ⟨nsI, hnsI⟩ : ∃ nsI : List Int, nsI = [] := ⟨_, rfl⟩
        have hsl : (Value.slice none 0 0) = Value.slice NA nsI.length NC := by rw [hNA, hNC, hnsI]; rfl
        have v2 : (0 < (i : Int) ∧ ¬ (i : Int) ≤ (nss.length : Int)) ∨ ¬ 0 < (i : Int) := by omega
        obtain ⟨Y, hY⟩ : ∃ Y : World, Y = X := ⟨_, rfl⟩
        have kwY : Below wr.heap.size wr Y := by rw [hY]; exact BX.out
        have xY : Blk Y gx 67 #[.slice Ac cs.length cc, .string K', .int .i64 per, .slice NA nsI.length NC] := by rw [hY, ← hsl]; exact XX.out
        have y0 := xY.cell 0
        have y1 := xY.cell 1
        have y2 := xY.cell 2
        have y3 := xY.cell 3
        simp at y0 y1 y2 y3
        have KY := Lib.hid (KW.out.trans (kwY.mono zw))
        have zY : w.heap.size ≤ Y.heap.size := KY.out.size
        have HNI := Lib.hid (show RdI Y w.heap.size NA nsI from by rw [hnsI]; exact Rd.nil_)
        have hn30 : nsI.length ≤ 30 := by rw [hnsI]; simp
        rw [← hY] at HX
        have HY := Lib.hid hY
        clear hY xY hn hNA hNC hnsI hsl
        rcases v2 with ⟨v2, v3⟩ | v2
        all_goals
          go_upto_region 17 with fail
          rw [← HGX.out, ← HX.out]
          clear g0 g1 g2 g3 gl gl2 hK'
          go_wp2_with fail
          refine (ownGate_any Ac NA cc NC cs K' per nsI Y w.heap.size zY (h.below KY.out) HNI.out H20.out w1' hn30).mono ?_
          rintro e w4 ⟨Ac4, cc4, An4, cn4, rfl, ll4, ri4, k4⟩
          have K4 := Lib.hid (KY.out.trans (k4.mono zY))
          have z4 : w.heap.size ≤ w4.heap.size := K4.out.size
          have LL4 := Lib.hid ll4
          have RI4 := Lib.hid ri4
          have kY4 : Below Y.heap.size Y w4 := k4
          clear k4 ll4 ri4 y0 y1 y2 y3
          go_wp2_with fail
          refine (ownPackets_any A c p w4 w.heap.size (hp.below K4.out) (by omega)).mono ?_
          rintro e w5 ⟨A5, c5, rfl, o5, k5⟩
          have K5 := Lib.hid (K4.out.trans (k5.mono z4))
          have z5 : w.heap.size ≤ w5.heap.size := K5.out.size
          have kY5 := kY4.trans (k5.mono kY4.size)
          have R5 := Lib.hid (RdP.of_own o5)
          have LL5 := Lib.hid ((LL4.out.below k5).more k5.size)
          have RI5 := Lib.hid ((RI4.out.below k5).more k5.size)
          clear k5 o5 kY4
          go_wp2_with fail
          refine (grun_any Ac4 An4 A5 cc4 cn4 c5 cs K' per nsI p S w5 w5.heap.size (Nat.le_refl _) LL5.out RI5.out R5.out ((hS.below K5.out).more z5) Hl.out (by omega) hlp).mono ?_
          rintro e w6 ⟨A6, c6, A7, c7, v, rfl, o6, o7, hv, k6⟩
          have K6 := Lib.hid (K5.out.trans (k6.mono z5))
          have z6 : w.heap.size ≤ w6.heap.size := K6.out.size
          have kY6 := kY5.trans (k6.mono kY5.size)
          by_cases hr : (runErr cs (kindN K') per nsI p).1 = 0
          · obtain rfl := hv.nil_of hr
            obtain ⟨r1, r2, r3⟩ := run_link hr
            have hbl : busyL (runL cs (kindN K') per nsI p) = KL := by rw [r2.busy, r1, ← HKL.out]
            have hll : (runL cs (kindN K') per nsI p).length ≤ 4294967296 := by have := r2.len; rw [r1, gOut_len] at this; omega
            have R7 := Lib.hid (RdS.of_own o7)
            obtain ⟨l, hl9⟩ : ∃ l, l = runL cs (kindN K') per nsI p := ⟨_, rfl⟩
            rw [← hl9] at hbl hll R7 ⊢
            have HBL := Lib.hid hbl
            clear o6 o7 hv hr r1 r2 r3 hbl hl9 kY5 k6
            go_wp2_with fail
            refine (fbusy_any A7 c7 l w6 w6.heap.size (Nat.le_refl _) R7.out hll).mono ?_
            rintro e w7 ⟨A8, c8, rfl, o8, k8⟩
            rw [HBL.out] at o8 ⊢
            have K8 := Lib.hid (K6.out.trans (k8.mono z6))
            have z8 : w.heap.size ≤ w7.heap.size := K8.out.size
            have kY8 := kY6.trans (k8.mono kY6.size)
            have RB := Lib.hid (RdL.of_own o8)
            have FX := Lib.hid (fun A2 c2 (e9 : u9 = .slice A2 KL.length c2 ∧ RdL wr wr.heap.size A2 KL) => ((e9.2.below (kwY.trans (kY8.mono kwY.size))).more (kwY.trans (kY8.mono kwY.size)).size))
            have XG8 := Lib.hid ((XG.out.below kwY XG.out.lt).below kY8 (Nat.lt_of_lt_of_le XG.out.lt kwY.size))
            have XK8 := Lib.hid ((XK.out.below kwY XK.out.lt).below kY8 (Nat.lt_of_lt_of_le XK.out.lt kwY.size))
            clear o8 k8 kY6 kY8
            cases fb
            · go_wp2_with fail
              go_loopw [17] (fun iv wr => ∃ k m : Nat, k ≤ KL.length ∧ iv = .int .i64 k ∧ wr = w7.drewN m) (fun iv _ => KL.length - (intOf iv).toNat)
              case atStart => exact ⟨0, 0, Nat.zero_le _, rfl, rfl⟩
              case round =>
                obtain ⟨k, m, hk, rfl, rfl⟩ := hrel
                by_cases hkl : k < KL.length
                · obtain ⟨b, o, hA, hb, d0, d1⟩ := RdL.get RB.out hkl
                  subst hA
                  have q1 : (0 : Int) ≤ (k : Int) := by omega
                  have q2 : (k : Int) < (KL.length : Int) := by omega
                  have eqt := eqTk2
                  go_wp2_with fail
                  go_quiet (fail)
                  go_wp2_with fail
                  go_roundw
                  case rel => exact ⟨k + 1, _, hkl, by go_num, rfl⟩
                  case measure => simp [intOf]; omega
                · go_wp2_with fail
                  go_roundw
                  case rel => exact ⟨i + 1, .slice A8 KL.length c8, true, hi5, by go_num, rfl, rfl, fun _ => ⟨A8, c8, rfl, RB.out⟩, XG8.out, XK8.out, below_drewN K8.out m⟩
                  case measure => simp [intOf]; omega
            · obtain ⟨A2, c2, rfl, hr2⟩ := HFV.out rfl
              have R2 := Lib.hid (FX.out A2 c2 ⟨rfl, hr2⟩)
              clear hr2 FX
              go_wp2_with fail
              go_loopw [17] (fun iv wr => ∃ k m : Nat, k ≤ KL.length ∧ iv = .int .i64 k ∧ wr = w7.drewN m) (fun iv _ => KL.length - (intOf iv).toNat)
              case atStart => exact ⟨0, 0, Nat.zero_le _, rfl, rfl⟩
              case round =>
                obtain ⟨k, m, hk, rfl, rfl⟩ := hrel
                by_cases hkl : k < KL.length
                · obtain ⟨b, o, hA, hb, d0, d1⟩ := RdL.get RB.out hkl
                  subst hA
                  obtain ⟨b', o', hA', hb', e0, e1⟩ := RdL.get R2.out hkl
                  subst hA'
                  have q1 : (0 : Int) ≤ (k : Int) := by omega
                  have q2 : (k : Int) < (KL.length : Int) := by omega
                  have eqt := eqTk2
                  go_wp2_with fail
                  go_quiet (fail)
                  go_wp2_with fail
                  go_roundw
                  case rel => exact ⟨k + 1, _, hkl, by go_num, rfl⟩
                  case measure => simp [intOf]; omega
                · go_wp2_with fail
                  go_roundw
                  case rel => exact ⟨i + 1, .slice A2 KL.length c2, true, hi5, by go_num, rfl, rfl, fun _ => ⟨A2, c2, rfl, R2.out⟩, XG8.out, XK8.out, below_drewN K8.out m⟩
                  case measure => simp [intOf]; omega
          · obtain ⟨T, ad, rfl⟩ := hv.some_of hr
            have FX := Lib.hid (fun A2 c2 (e9 : u9 = .slice A2 KL.length c2 ∧ RdL wr wr.heap.size A2 KL) => ((e9.2.below (kwY.trans (kY6.mono kwY.size))).more (kwY.trans (kY6.mono kwY.size)).size))
            have XG6 := Lib.hid ((XG.out.below kwY XG.out.lt).below kY6 (Nat.lt_of_lt_of_le XG.out.lt kwY.size))
            have XK6 := Lib.hid ((XK.out.below kwY XK.out.lt).below kY6 (Nat.lt_of_lt_of_le XK.out.lt kwY.size))
            clear o6 o7 hv hr kY5 k6 kY6
            go_wp2_with fail
            go_roundw
            case rel => exact ⟨i + 1, u9, fb, hi5, by go_num, rfl, rfl, fun e9 => (by obtain ⟨A2, c2, e1, e2⟩ := HFV.out e9; exact ⟨A2, c2, e1, FX.out A2 c2 ⟨e1, e2⟩⟩), XG6.out, XK6.out, K6.out⟩
            case measure => simp [intOf]; omega
    · clear g0 g1 g2 g3
      go_wp2_with fail
      go_ret
      exact ⟨rfl, KW.out⟩
set_option maxHeartbeats 4000000 in
theorem gateBusy_any (Ac : Option Addr) (cc : Nat) (cs : List (List Ln)) (K : ByteArray) (per : Int) (An : Option Addr) (cn : Nat) (ns : List Int) (AN : Option Addr) (cN : Nat) (nss : List (List Int)) (A : Option Addr) (c : Nat) (p : List Pk) (S : Nat → Addr) (w : World) (h : RdLL w w.heap.size Ac cs) (h' : RdI w w.heap.size An ns) (hN : RdII w w.heap.size AN nss) (hp : RdP w w.heap.size A p) (hS : GS w w.heap.size S) (hl : ∀ l ∈ cs, l.length ≤ 9223372036854775807) (hcl : cs.length ≤ 9223372036854775807) (hl' : ns.length ≤ 9223372036854775807) (hK : K.size ≤ 9223372036854775807) (hlN : ∀ l ∈ nss, l.length ≤ 9223372036854775807) (hcN : nss.length ≤ 9223372036854775807) (hlp : p.length ≤ 9223372036854775807) :
    Calls Tryd.prog 7 #[.agg #[.slice Ac cs.length cc, .string K, .int .i64 per, .slice An ns.length cn], .slice AN nss.length cN, .slice A p.length c] w fun e w' => e = .returned (.bool true) ∧ Below w.heap.size w w' := by
  by_cases hq : wideB cs K ns = false ∧ fitB p.length 100 = true ∧ nss.length ≤ 10
  · exact gbusy_main Ac An AN A cc cn cN c cs K per ns nss p S w h h' hN hp hS hl hcl hl' hK hlN hq.1 hq.2.1 hq.2.2
  · have Hl := Lib.hid hl
    have HQ := Lib.hid hq
    obtain ⟨W, hW⟩ : ∃ W : World, W = w.alloc (.cells #[.slice Ac cs.length cc, .string K, .int .i64 per, .slice An ns.length cn] 67) := ⟨_, rfl⟩
    have b0 : Below w.heap.size w W := by rw [hW]; exact (Below.refl _ _).alloc (Nat.le_refl _) _
    obtain ⟨gb, hgb⟩ : ∃ gb, gb = w.heap.size := ⟨_, rfl⟩
    have x0 : Blk W gb 67 #[.slice Ac cs.length cc, .string K, .int .i64 per, .slice An ns.length cn] := by rw [hW, hgb]; exact Blk.new _ _ _
    have HW := Lib.hid hW
    have HGB := Lib.hid hgb
    have B0 := Lib.hid b0
    have X0 := Lib.hid x0
    have z0 := b0.size
    clear hl hlN hW hgb b0 x0 hq
    cases hw : wideB cs K ns
    · cases hfit : fitB p.length 100
      · have Hw := Lib.hid hw
        have Hfit := Lib.hid hfit
        clear hw hfit
        go_enter Tryd.func7, Tryd.ntmps7
        go_wp2_with fail
        rw [← HGB.out, ← HW.out]
        refine (opens_any S W ((hS.below B0.out).more z0)).mono ?_
        rintro e w1 ⟨rfl, k1⟩
        have x1 := X0.out.below k1 X0.out.lt
        have c0 := x1.cell 0
        have c1 := x1.cell 1
        have c2 := x1.cell 2
        have c3 := x1.cell 3
        simp at c0 c1 c2 c3
        have K1 := Lib.hid (B0.out.trans (k1.mono z0))
        have z1 : w.heap.size ≤ w1.heap.size := K1.out.size
        clear k1 x1
        go_wp2_with fail
        refine (wide_any Ac An cc cn cs K per ns w1 w.heap.size z1 (h.below K1.out) Hl.out hcl hl' hK).mono ?_
        rintro e w2 ⟨rfl, k2⟩
        rw [Hw.out]
        have K2 := Lib.hid (K1.out.trans (k2.mono z1))
        clear k2 c0 c1 c2 c3
        go_wp2_with fail
        refine (fit_any A c p.length 100 _ hlp).mono ?_
        rintro e wx ⟨rfl, rfl⟩
        rw [Hfit.out]
        go_wp2_with fail
        go_ret
        exact ⟨rfl, K2.out⟩
      · have h9 : ¬ nss.length ≤ 10 := fun e => HQ.out ⟨hw, hfit, e⟩
        have v1 : (10 : Int) < (nss.length : Int) := by omega
        have Hw := Lib.hid hw
        have Hfit := Lib.hid hfit
        clear hw hfit h9
        go_enter Tryd.func7, Tryd.ntmps7
        go_wp2_with fail
        rw [← HGB.out, ← HW.out]
        refine (opens_any S W ((hS.below B0.out).more z0)).mono ?_
        rintro e w1 ⟨rfl, k1⟩
        have x1 := X0.out.below k1 X0.out.lt
        have c0 := x1.cell 0
        have c1 := x1.cell 1
        have c2 := x1.cell 2
        have c3 := x1.cell 3
        simp at c0 c1 c2 c3
        have K1 := Lib.hid (B0.out.trans (k1.mono z0))
        have z1 : w.heap.size ≤ w1.heap.size := K1.out.size
        clear k1 x1
        go_wp2_with fail
        refine (wide_any Ac An cc cn cs K per ns w1 w.heap.size z1 (h.below K1.out) Hl.out hcl hl' hK).mono ?_
        rintro e w2 ⟨rfl, k2⟩
        rw [Hw.out]
        have K2 := Lib.hid (K1.out.trans (k2.mono z1))
        clear k2 c0 c1 c2 c3
        go_wp2_with fail
        refine (fit_any A c p.length 100 _ hlp).mono ?_
        rintro e wx ⟨rfl, rfl⟩
        rw [Hfit.out]
        go_wp2_with fail
        go_ret
        exact ⟨rfl, K2.out⟩
    · have Hw := Lib.hid hw
      clear hw
      go_enter Tryd.func7, Tryd.ntmps7
      go_wp2_with fail
      rw [← HGB.out, ← HW.out]
      refine (opens_any S W ((hS.below B0.out).more z0)).mono ?_
      rintro e w1 ⟨rfl, k1⟩
      have x1 := X0.out.below k1 X0.out.lt
      have c0 := x1.cell 0
      have c1 := x1.cell 1
      have c2 := x1.cell 2
      have c3 := x1.cell 3
      simp at c0 c1 c2 c3
      have K1 := Lib.hid (B0.out.trans (k1.mono z0))
      have z1 : w.heap.size ≤ w1.heap.size := K1.out.size
      clear k1 x1
      go_wp2_with fail
      refine (wide_any Ac An cc cn cs K per ns w1 w.heap.size z1 (h.below K1.out) Hl.out hcl hl' hK).mono ?_
      rintro e w2 ⟨rfl, k2⟩
      rw [Hw.out]
      have K2 := Lib.hid (K1.out.trans (k2.mono z1))
      clear k2 c0 c1 c2 c3
      go_wp2_with fail
      go_ret
      exact ⟨rfl, K2.out⟩
end Go.Proofs.YthgpbdlmadjndaaDoor
