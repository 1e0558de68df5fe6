/- The law GateKeeps returns true, whatever its arguments, and changes nothing that was there. Conditions: the sentinels that a gate and an audit name lie in their variables; errors.errorType holds the type error. (Printed by gengl.py.) -/
import Derived.Test.YthgpbdlmadjndaaGreatDoorGwM
import Derived.Test.YthgpbdlmadjndaaGreatDoorGrM
import Derived.Test.YthgpbdlmadjndaaGreatDoorKpM
import Derived.Test.YthgpbdlmadjndaaGreatDoorAudB
import Derived.Test.YthgpbdlmadjndaaGreatDoorSentRef
import Derived.Test.YthgpbdlmadjndaaGreatDoorMiscM
import Derived.Test.YthgpbdlmadjndaaGreatDoorIsM
namespace Go.Proofs.YthgpbdlmadjndaaGreatDoor
open Go.RowKit
set_option maxRecDepth 100000
/-- The sentinels that a gate and an audit name lie in their variables; errors.errorType holds the type error. -/
structure GK (w : World) (B : Nat) (S : Nat → Addr) : Prop where
  s : Snt w B S [2, 3, 4, 5, 7, 8, 9]
  gB : 9 < B
  g : w.cell? ⟨9, 0, none⟩ = some (.iface 175 (.agg #[.pointer (some ⟨10, 32, none⟩)]))
theorem GK.below {w w' : World} {B : Nat} {S : Nat → Addr} (h : GK w B S) (hb : Below B w w') : GK w' B S := ⟨h.s.below hb, h.gB, (hb.cell (p := ⟨9, 0, none⟩) h.gB).trans h.g⟩
theorem GK.gs {w : World} {B : Nat} {S : Nat → Addr} (h : GK w B S) : GS w B S := ⟨h.s.sub (by simp), h.gB, h.g⟩
theorem run_keep {cs : List (List Ln)} {n : Nat} {per : Int} {ns : List Int} {p : List Pk} (h : (runErr cs n per ns p).1 = 0) : (runQ cs n per ns p).length = p.length ∧ LinkIs (runQ cs n per ns p) per (runL cs n per ns p) ∧ (pktErr (runQ cs n per ns p)).1 = 0 := by
  obtain ⟨h1, h2, h3, h4, h5, h6⟩ := runErr_ok h
  have hq : runQ cs n per ns p = gOut p (gFold cs p 8).1 := if_pos h
  have hl : runL cs n per ns p = linkV n (gOut p (gFold cs p 8).1) per ns := if_pos h
  rw [hq, hl]
  exact ⟨gOut_len _ _, link_is (by rw [h6]), h5⟩
theorem keepBad_none {n : Nat} {l : List Sn} (h : ∀ x ∈ l, 0 ≤ x.p ∧ x.p.toNat < n) (k : Nat) : sentBad n l k = -1 := by
  induction l generalizing k with
  | nil => rfl
  | cons x r ih =>
    have := h x List.mem_cons_self
    unfold sentBad
    rw [if_pos ⟨by omega, by omega⟩]
    exact ih (fun y hy => h y (List.mem_cons_of_mem _ hy)) (k + 1)
theorem bndV_bad {cs : List (List Ln)} {n : Nat} {per : Int} {ns : List Int} (h : (bndErr cs n per ns).1 ≠ 0) : bndV cs n per ns = 0 := by
  unfold bndErr at h
  unfold bndV
  by_cases h1 : (gateErr cs n per ns).1 ≠ 0
  · rw [if_pos h1]
  · rw [if_neg h1] at h ⊢
    cases ha : bndAll cs with
    | none => rfl
    | some all =>
      rw [ha] at h
      rw [allV_some, if_neg h]
set_option maxHeartbeats 16000000 in
theorem gkeeps_main (Ac An : Option Addr) (cc cn : Nat) (cs : List (List Ln)) (K : ByteArray) (per : Int) (ns : List Int) (A : Option Addr) (c : Nat) (p : List Pk) (S : Nat → Addr) (w : World) (h : RdLL w w.heap.size Ac cs) (h' : RdI w w.heap.size An ns) (hp : RdP w w.heap.size A p) (hS : GK w w.heap.size S) (hl : ∀ l ∈ cs, l.length ≤ 9223372036854775807) (hcl : cs.length ≤ 9223372036854775807) (hl' : ns.length ≤ 9223372036854775807) (hK : K.size ≤ 9223372036854775807) (hw : wideB cs K ns = false) (hfit : fitB p.length 120 = true) :
    Calls Tryz.prog 5 #[.agg #[.slice Ac cs.length cc, .string K, .int .i64 per, .slice An ns.length cn], .slice A p.length c] w fun e w' => e = .returned (.bool true) ∧ Below w.heap.size w w' := by
  obtain ⟨w1', w2', w3', w4'⟩ := wideB_ok hw
  have hle : p.length ≤ 301 := by have := of_decide_eq_true hfit; omega
  have hlp : p.length ≤ 9223372036854775807 := by omega
  have Hl := Lib.hid hl
  have H20 := Lib.hid w4'
  have Hw := Lib.hid hw
  have Hfit := Lib.hid hfit
  clear hl hw w4' hfit
  obtain ⟨W, hW⟩ : ∃ W : World, W = w.alloc (.cells #[.slice Ac cs.length cc, .string K, .int .i64 per, .slice An ns.length cn] 25) := ⟨_, rfl⟩
  have b0 : Below w.heap.size w W := by rw [hW]; exact (Below.refl _ _).alloc (Nat.le_refl _) _
  obtain ⟨gb, hgb⟩ : ∃ gb, gb = w.heap.size := ⟨_, rfl⟩
  have x0 : Blk W gb 25 #[.slice Ac cs.length cc, .string K, .int .i64 per, .slice An ns.length cn] := by rw [hW, hgb]; exact Blk.new _ _ _
  have HW := Lib.hid hW
  have HGB := Lib.hid hgb
  have B0 := Lib.hid b0
  have X0 := Lib.hid x0
  have z0 := b0.size
  have hgbl : gb < W.heap.size := x0.lt
  clear hW hgb b0 x0
  go_enter Tryz.func5, Tryz.ntmps5
  go_wp2_with fail
  rw [← HGB.out, ← HW.out]
  refine (opens_any S W ((hS.gs.below B0.out).more z0)).mono ?_
  rintro e w1 ⟨rfl, k1⟩
  have x1 := X0.out.below k1 X0.out.lt
  have c0 := x1.cell 0
  have c1 := x1.cell 1
  have c2 := x1.cell 2
  have c3 := x1.cell 3
  simp at c0 c1 c2 c3
  have K1 := Lib.hid (B0.out.trans (k1.mono z0))
  have X1 := Lib.hid x1
  have z1 : w.heap.size ≤ w1.heap.size := K1.out.size
  clear k1 x1
  go_wp2_with fail
  refine (wide_any Ac An cc cn cs K per ns w1 w.heap.size z1 (h.below K1.out) Hl.out hcl hl' hK).mono ?_
  rintro e w2 ⟨rfl, k2⟩
  rw [Hw.out]
  have K2 := Lib.hid (K1.out.trans (k2.mono z1))
  have z2 : w.heap.size ≤ w2.heap.size := K2.out.size
  have X2 := Lib.hid (X1.out.below k2 X1.out.lt)
  clear k2 c0 c1 c2 c3
  go_wp2_with fail
  refine (fit_any A c p.length 120 _ hlp).mono ?_
  rintro e wx ⟨rfl, rfl⟩
  rw [Hfit.out]
  have c0 := X2.out.cell 0
  have c1 := X2.out.cell 1
  have c2 := X2.out.cell 2
  have c3 := X2.out.cell 3
  simp at c0 c1 c2 c3
  go_wp2_with fail
  refine (ownGate_any Ac An cc cn cs K per ns w2 w.heap.size z2 (h.below K2.out) (h'.below K2.out) H20.out w1' w2').mono ?_
  rintro e w3 ⟨A3, m3, An3, n3, rfl, ll3, ri3, k3⟩
  have K3 := Lib.hid (K2.out.trans (k3.mono z2))
  have X3 := Lib.hid (X2.out.below k3 X2.out.lt)
  have z3 : w.heap.size ≤ w3.heap.size := K3.out.size
  have LL3 := Lib.hid ll3
  have RI3 := Lib.hid ri3
  clear k3 ll3 ri3 c0 c1 c2 c3
  go_wp2_with fail
  refine (ownPackets_any A c p w3 _ (hp.below K3.out) (by omega)).mono ?_
  rintro e w4 ⟨A4, c4, rfl, o4, k4⟩
  have K4 := Lib.hid (K3.out.trans (k4.mono z3))
  have X4 := Lib.hid (X3.out.below k4 X3.out.lt)
  have z4 : w.heap.size ≤ w4.heap.size := K4.out.size
  have HRUN := Lib.hid (grun_any A3 An3 A4 m3 n3 c4 cs K per ns p S w4 w4.heap.size (Nat.le_refl _) ((LL3.out.below k4).more k4.size) ((RI3.out.below k4).more k4.size) (RdP.of_own o4) ((hS.gs.below K4.out).more z4) Hl.out hl' hlp)
  clear k4 o4
  go_wp2_with fail
  refine (HRUN.out).mono ?_
  rintro e w5 ⟨A5, c5, B5, d5, v5, rfl, o5, p5, hv5, k5⟩
  have K5 := Lib.hid (K4.out.trans (k5.mono z4))
  have X5 := Lib.hid (X4.out.below k5 X4.out.lt)
  have z5 : w.heap.size ≤ w5.heap.size := K5.out.size
  clear HRUN
  by_cases hr : (runErr cs (kindN K) per ns p).1 = 0
  · obtain ⟨hql, hlk, hqe⟩ := run_keep hr
    obtain ⟨g1, -, -, -, -, -⟩ := runErr_ok hr
    obtain ⟨h8, -, -, -⟩ := gateErr_ok g1
    have HR := Lib.hid hr
    obtain rfl := hv5.nil_of hr
    have hkeep : (bndErr cs (kindN K) per ns).1 = 0 → ∀ nn : Nat, nn ≤ 8 → (∀ f, f < nn → cs.getD f [] ≠ []) → (∀ x ∈ p, x.f < (nn : Int)) → ∀ x ∈ runL cs (kindN K) per ns p, x.t - aOf (runQ cs (kindN K) per ns p) x.p.toNat ≤ bndV cs (kindN K) per ns := fun hb nn a1 a2 a3 => gate_keeps hr hb a1 a2 a3
    obtain ⟨q, hq⟩ : ∃ q, q = runQ cs (kindN K) per ns p := ⟨_, rfl⟩
    obtain ⟨l, hl9⟩ : ∃ l, l = runL cs (kindN K) per ns p := ⟨_, rfl⟩
    rw [← hq] at hql hlk hqe o5 hkeep ⊢
    rw [← hl9] at hlk p5 hkeep ⊢
    have RQ := Lib.hid (RdP.of_own o5)
    have RL := Lib.hid (RdS.of_own p5)
    have HLK := Lib.hid hlk
    have HQE := Lib.hid hqe
    have HKP := Lib.hid hkeep
    have H8 := Lib.hid h8
    have hq3 : q.length ≤ 301 := by omega
    have hl3 : l.length ≤ 301 := by have := hlk.len; omega
    have hb1 : ((q.length : Int) != (p.length : Int)) = false := by rw [hql]; simp
    have hb2 : ((l.length : Int) != (p.length : Int)) = false := by rw [hlk.len, hql]; simp
    have x2 := X5.out.cell 2
    simp at x2
    have hgb5 : gb < w5.heap.size := X5.out.lt
    have kd : Below w5.heap.size w5 w5.drew := (Below.refl _ _).drew
    have HOP := Lib.hid (fun (V : World) (r : Below w5.heap.size w5 V) => ownPackets_any A5 c5 q V w5.heap.size (RQ.out.below r) (by omega))
    have HOS := Lib.hid (fun (V : World) (r : Below w5.heap.size w5 V) => ownSent_any B5 d5 l V w5.heap.size (RL.out.below r) (by omega))
    have HCK := Lib.hid (fun (V : World) (r : Below w5.heap.size w5 V) (A6 A7 : Option Addr) (c6 c7 : Nat) (r6 : RdP V V.heap.size A6 q) (r7 : RdS V V.heap.size A7 l) => audCheck_any A6 A7 c6 c7 q per l S V V.heap.size (Nat.le_refl _) r6 r7 (((hS.s.below (K5.out.trans (r.mono z5))).more (K5.out.trans (r.mono z5)).size).sub (by simp)) (by omega) (by omega) HLK.out.tame)
    clear hr hv5 hq hl9 hql hlk hqe hkeep h8 g1 o5 p5 k5
    go_wp2_with fail
    go_region_held3 (fun w' => w'.cell? ⟨gb, 2, none⟩ = some (.int .i64 per))
      (first
        | go_keep
        | exact (k8.cell (p := ⟨gb, 2, none⟩) hgb5).trans x2
        | exact (k7.cell (p := ⟨gb, 2, none⟩) hgb5).trans x2
        | exact (k6.cell (p := ⟨gb, 2, none⟩) hgb5).trans x2)
      (first
       | (go_at_call 14; refine (HOP.out _ (by first | exact k7 | exact kd)).mono ?_; rintro e w6 ⟨A6, c6, rfl, o6, q6⟩; have k6 : Below w5.heap.size w5 w6 := (by first | exact k7.trans (q6.mono k7.size) | exact kd.trans (q6.mono kd.size)))
       | (go_at_call 24; refine (HOS.out _ (by first | exact k6 | exact kd)).mono ?_; rintro e w7 ⟨A7, c7, rfl, o7, q7⟩; have k7 : Below w5.heap.size w5 w7 := (by first | exact k6.trans (q7.mono k6.size) | exact kd.trans (q7.mono kd.size)))
       | (go_at_call 23; refine (HCK.out _ (by first | exact k7 | exact k6) A6 A7 c6 c7 (by first | exact RdP.of_own o6 | exact RdP.of_own (own_below o6 q7 (Nat.le_refl _))) (by first | exact RdS.of_own o7 | exact RdS.of_own (own_below o7 q6 (Nat.le_refl _)))).mono ?_; rintro e w8 ⟨v8, rfl, hv8, q8⟩; have k8 : Below w5.heap.size w5 w8 := (by first | exact k7.trans (q8.mono k7.size) | exact k6.trans (q8.mono k6.size))))
    all_goals
      obtain rfl := hv8.nil_of (by rw [HLK.out.aud])
      have K8 := Lib.hid (K5.out.trans (k8.mono z5))
      have X8 := Lib.hid (X5.out.below k8 hgb5)
      have z8 : w.heap.size ≤ w8.heap.size := K8.out.size
      have RQ8 := Lib.hid (RQ.out.below k8)
      have RL8 := Lib.hid (RL.out.below k8)
      have z58 := k8.size
      clear hv8 o6 o7 q6 q7 q8 k6 k7 k8 kd x2 HOP HOS HCK hb1 hb2
      have c0 := X8.out.cell 0
      have c1 := X8.out.cell 1
      have c2 := X8.out.cell 2
      have c3 := X8.out.cell 3
      simp at c0 c1 c2 c3
      go_wp2_with fail
      refine (ownGate_cap Ac An cc cn cs K per ns w8 w.heap.size z8 (h.below K8.out) (h'.below K8.out) H20.out w1' w2').mono ?_
      rintro e w9 ⟨A9, m9, An9, n9, hcap9, rfl, ll9, ri9, k9⟩
      have K9 := Lib.hid (K8.out.trans (k9.mono z8))
      have X9 := Lib.hid (X8.out.below k9 X8.out.lt)
      have z9 : w.heap.size ≤ w9.heap.size := K9.out.size
      have k59 := k9.mono z58
      have HBD := Lib.hid (bound_any A9 An9 m9 n9 cs K per ns S w9 w9.heap.size (Nat.le_refl _) ll9 ri9 ((hS.gs.below K9.out).more z9) Hl.out hl' hcap9)
      have RQ9 := Lib.hid (RQ8.out.below k59)
      have RL9 := Lib.hid (RL8.out.below k59)
      have z59 : w5.heap.size ≤ w9.heap.size := Nat.le_trans z58 k59.size
      clear k9 ll9 ri9 hcap9 k59 c0 c1 c2 c3
      go_wp2_with fail
      refine (HBD.out).mono ?_
      rintro e w10 ⟨v10, rfl, hv10, k10⟩
      have K10 := Lib.hid (K9.out.trans (k10.mono z9))
      have X10 := Lib.hid (X9.out.below k10 X9.out.lt)
      have z10 : w.heap.size ≤ w10.heap.size := K10.out.size
      have RQ10 := Lib.hid ((RQ9.out.below (k10.mono z59)).more (Nat.le_trans z59 k10.size))
      have RL10 := Lib.hid ((RL9.out.below (k10.mono z59)).more (Nat.le_trans z59 k10.size))
      clear HBD
      by_cases hb : (bndErr cs (kindN K) per ns).1 = 0
      · obtain rfl := hv10.nil_of hb
        have HKEEP := Lib.hid (HKP.out hb)
        obtain ⟨bv, hbv⟩ : ∃ bv, bv = bndV cs (kindN K) per ns := ⟨_, rfl⟩
        rw [← hbv] at HKEEP ⊢
        have hde : sentBad q.length l 0 = -1 := keepBad_none (fun x hx => ⟨(HLK.out.each x hx).1, (HLK.out.each x hx).2.1⟩) 0
        have HDO := Lib.hid (show delOut q l = delL q l from if_pos hde)
        have HDE := Lib.hid (show (delErr q.length l).1 = 0 by unfold delErr; rw [if_pos hde])
        have HDEL := Lib.hid (delays_any A5 B5 c5 d5 q l S w10 w10.heap.size (Nat.le_refl _) RQ10.out RL10.out (((hS.s.below K10.out).more z10).sub (by simp)) (by omega) (by omega) HLK.out.tame' (fun x hx => by have := pktErr_okPk HQE.out x hx; have := this.2.2.2.2; unfold tame50; omega))
        have x0 := X10.out.cell 0
        simp at x0
        clear hv10 k10 hb hbv hde HKP
        go_wp2_with fail
        go_loopw [11] (fun nv wx => ∃ k : Nat, k ≤ 8 ∧ nv = .int .i64 k ∧ (∀ f, f < k → cs.getD f [] ≠ []) ∧ wx = w10) (fun nv _ => 8 - (intOf nv).toNat)
        case atStart => exact ⟨0, Nat.zero_le _, rfl, fun f hf => by omega, rfl⟩
        case round =>
          obtain ⟨k, hk, rfl, hne, hwx⟩ := hrel
          obtain rfl : w10 = wr := hwx.symm
          have HNE := Lib.hid hne
          clear hwx hne
          by_cases hlt : k < 8
          · have hkl : k < cs.length := by rw [H8.out]; exact hlt
            obtain ⟨b, o, a, cl, rfl, hb, d0, hrd⟩ := (h.below K10.out) k hkl
            have hgd : cs.getD k [] = cs[k] := by simp [List.getD, hkl]
            obtain ⟨y, hy⟩ : ∃ y, y = cs[k] := ⟨_, rfl⟩
            rw [← hy] at d0 hgd
            have HGD := Lib.hid hgd
            have u1 : (0 : Int) ≤ (k : Int) := by omega
            have u2 : (k : Int) < 8 := by omega
            have u3 : (k : Int) < (cs.length : Int) := by omega
            clear hrd hy hgd
            by_cases hy0 : y.length = 0
            · rw [hy0] at d0
              clear hy0
              go_wp2_with fail
              go_loopw [12] (fun iv wx => ∃ i : Nat, i ≤ p.length ∧ iv = .int .i64 i ∧ (∀ j (h : j < p.length), j < i → p[j].f < (k : Int)) ∧ wx = w10) (fun iv _ => p.length - (intOf iv).toNat)
              case atStart => exact ⟨0, Nat.zero_le _, rfl, fun j _ hj => by omega, rfl⟩
              case round =>
                obtain ⟨i, hi, rfl, hpf, hwx⟩ := hrel
                obtain rfl : w10 = wr := hwx.symm
                have HPF := Lib.hid hpf
                clear hwx hpf
                by_cases hlt : i < p.length
                · obtain ⟨b, o, rfl, hb, d0, d1, d2⟩ := RdP.get (hp.below K10.out) hlt
                  obtain ⟨y, hy⟩ : ∃ y, y = p[i].f := ⟨_, rfl⟩
                  rw [← hy] at d0
                  have q1 : (0 : Int) ≤ (i : Int) := by omega
                  have q2 : (i : Int) < (p.length : Int) := by omega
                  by_cases hyk : (k : Int) ≤ y
                  · clear hy d1 d2
                    go_wp2_with fail
                    go_ret
                    exact ⟨rfl, K10.out⟩
                  · have H2 := Lib.hid (show ∀ j (h : j < p.length), j < i + 1 → p[j].f < (k : Int) from fun j hj hji => by
                      by_cases e : j = i
                      · subst e; omega
                      · exact HPF.out j hj (by omega))
                    have q3 : ¬ (k : Int) ≤ y := hyk
                    clear hy d1 d2 hyk
                    go_wp2_with fail
                    go_roundw
                    case rel => exact ⟨i + 1, hlt, by go_num, H2.out, by first | rfl | trivial⟩
                    case measure => simp [intOf]; omega
                · have hall : ∀ x ∈ p, x.f < (k : Int) := fun x hx => by
                    obtain ⟨j, hj, rfl⟩ := List.getElem_of_mem hx
                    exact HPF.out j hj (by omega)
                  have HKB := Lib.hid (HKEEP.out k (by omega) HNE.out hall)
                  go_wp2_with fail
                  refine (HDEL.out).mono ?_
                  rintro e w11 ⟨A11, c11, v11, rfl, o11, hv11, k11⟩
                  obtain rfl := hv11.nil_of HDE.out
                  have RD := Lib.hid (show RdI w11 w11.heap.size A11 (delOut q l) from Rd.of_own o11 (by omega) iCs_len)
                  have K11 := Lib.hid (K10.out.trans (k11.mono K10.out.size))
                  rw [HDO.out] at RD
                  rw [HDO.out]
                  obtain ⟨d, hd⟩ : ∃ d, d = delL q l := ⟨_, rfl⟩
                  have HDB := Lib.hid (show ∀ i (h : i < d.length), d[i] ≤ bv by
                    rw [hd]
                    intro i hi
                    have hi' : i < l.length := by simpa [delL] using hi
                    have := HKB.out l[i] (List.getElem_mem hi')
                    simpa [delL] using this)
                  have hd3 : d.length ≤ 301 := by rw [hd]; unfold delL; rw [List.length_map]; exact hl3
                  rw [← hd] at RD ⊢
                  clear o11 hv11 k11 hd HDEL HKB
                  go_wp2_with fail
                  go_loopw [14] (fun iv wx => ∃ i : Nat, i ≤ d.length ∧ iv = .int .i64 i ∧ wx = w11) (fun iv _ => d.length - (intOf iv).toNat)
                  case atStart => exact ⟨0, Nat.zero_le _, rfl, rfl⟩
                  case round =>
                    obtain ⟨i, hi, rfl, hwx⟩ := hrel
                    obtain rfl : w11 = wr := hwx.symm
                    clear hwx
                    by_cases hlt : i < d.length
                    · obtain ⟨b, o, rfl, hb, d0⟩ := RdI.get RD.out hlt
                      have hle := HDB.out i hlt
                      obtain ⟨y, hy⟩ : ∃ y, y = d[i] := ⟨_, rfl⟩
                      rw [← hy] at d0 hle
                      have q1 : (0 : Int) ≤ (i : Int) := by omega
                      have q2 : (i : Int) < (d.length : Int) := by omega
                      have q3 : ¬ bv < y := by omega
                      clear hy hle
                      go_wp2_with fail
                      go_roundw
                      case rel => exact ⟨i + 1, hlt, by go_num, by first | rfl | trivial⟩
                      case measure => simp [intOf]; omega
                    · go_wp2_with fail
                      go_ret
                      exact ⟨rfl, K11.out⟩
            · have hyp : (0 : Int) < (y.length : Int) := by omega
              have HN2 := Lib.hid (show ∀ f, f < k + 1 → cs.getD f [] ≠ [] from fun f hf => by
                by_cases e : f = k
                · subst e; rw [HGD.out]; exact fun e9 => hy0 (by rw [e9]; rfl)
                · exact HNE.out f (by omega))
              clear hy0
              go_wp2_with fail
              go_roundw
              case rel => exact ⟨k + 1, hlt, by go_num, HN2.out, by first | rfl | trivial⟩
              case measure => simp [intOf]; omega
          · obtain rfl : k = 8 := by omega
            go_wp2_with fail
            go_loopw [12] (fun iv wx => ∃ i : Nat, i ≤ p.length ∧ iv = .int .i64 i ∧ (∀ j (h : j < p.length), j < i → p[j].f < (8 : Int)) ∧ wx = w10) (fun iv _ => p.length - (intOf iv).toNat)
            case atStart => exact ⟨0, Nat.zero_le _, rfl, fun j _ hj => by omega, rfl⟩
            case round =>
              obtain ⟨i, hi, rfl, hpf, hwx⟩ := hrel
              obtain rfl : w10 = wr := hwx.symm
              have HPF := Lib.hid hpf
              clear hwx hpf
              by_cases hlt : i < p.length
              · obtain ⟨b, o, rfl, hb, d0, d1, d2⟩ := RdP.get (hp.below K10.out) hlt
                obtain ⟨y, hy⟩ : ∃ y, y = p[i].f := ⟨_, rfl⟩
                rw [← hy] at d0
                have q1 : (0 : Int) ≤ (i : Int) := by omega
                have q2 : (i : Int) < (p.length : Int) := by omega
                by_cases hyk : (8 : Int) ≤ y
                · clear hy d1 d2
                  go_wp2_with fail
                  go_ret
                  exact ⟨rfl, K10.out⟩
                · have H2 := Lib.hid (show ∀ j (h : j < p.length), j < i + 1 → p[j].f < (8 : Int) from fun j hj hji => by
                    by_cases e : j = i
                    · subst e; omega
                    · exact HPF.out j hj (by omega))
                  have q3 : ¬ (8 : Int) ≤ y := hyk
                  clear hy d1 d2 hyk
                  go_wp2_with fail
                  go_roundw
                  case rel => exact ⟨i + 1, hlt, by go_num, H2.out, by first | rfl | trivial⟩
                  case measure => simp [intOf]; omega
              · have hall : ∀ x ∈ p, x.f < (8 : Int) := fun x hx => by
                  obtain ⟨j, hj, rfl⟩ := List.getElem_of_mem hx
                  exact HPF.out j hj (by omega)
                have HKB := Lib.hid (HKEEP.out 8 (by omega) HNE.out hall)
                go_wp2_with fail
                refine (HDEL.out).mono ?_
                rintro e w11 ⟨A11, c11, v11, rfl, o11, hv11, k11⟩
                obtain rfl := hv11.nil_of HDE.out
                have RD := Lib.hid (show RdI w11 w11.heap.size A11 (delOut q l) from Rd.of_own o11 (by omega) iCs_len)
                have K11 := Lib.hid (K10.out.trans (k11.mono K10.out.size))
                rw [HDO.out] at RD
                rw [HDO.out]
                obtain ⟨d, hd⟩ : ∃ d, d = delL q l := ⟨_, rfl⟩
                have HDB := Lib.hid (show ∀ i (h : i < d.length), d[i] ≤ bv by
                  rw [hd]
                  intro i hi
                  have hi' : i < l.length := by simpa [delL] using hi
                  have := HKB.out l[i] (List.getElem_mem hi')
                  simpa [delL] using this)
                have hd3 : d.length ≤ 301 := by rw [hd]; unfold delL; rw [List.length_map]; exact hl3
                rw [← hd] at RD ⊢
                clear o11 hv11 k11 hd HDEL HKB
                go_wp2_with fail
                go_loopw [14] (fun iv wx => ∃ i : Nat, i ≤ d.length ∧ iv = .int .i64 i ∧ wx = w11) (fun iv _ => d.length - (intOf iv).toNat)
                case atStart => exact ⟨0, Nat.zero_le _, rfl, rfl⟩
                case round =>
                  obtain ⟨i, hi, rfl, hwx⟩ := hrel
                  obtain rfl : w11 = wr := hwx.symm
                  clear hwx
                  by_cases hlt : i < d.length
                  · obtain ⟨b, o, rfl, hb, d0⟩ := RdI.get RD.out hlt
                    have hle := HDB.out i hlt
                    obtain ⟨y, hy⟩ : ∃ y, y = d[i] := ⟨_, rfl⟩
                    rw [← hy] at d0 hle
                    have q1 : (0 : Int) ≤ (i : Int) := by omega
                    have q2 : (i : Int) < (d.length : Int) := by omega
                    have q3 : ¬ bv < y := by omega
                    clear hy hle
                    go_wp2_with fail
                    go_roundw
                    case rel => exact ⟨i + 1, hlt, by go_num, by first | rfl | trivial⟩
                    case measure => simp [intOf]; omega
                  · go_wp2_with fail
                    go_ret
                    exact ⟨rfl, K11.out⟩
      · have hbv := bndV_bad hb
        obtain ⟨T, ad, rfl⟩ := hv10.some_of hb
        rw [hbv]
        clear hv10 k10 hb hbv HKP
        go_wp2_with fail
        go_ret
        exact ⟨rfl, K10.out⟩
  · obtain ⟨T, ad, rfl⟩ := hv5.some_of hr
    have hq : runQ cs (kindN K) per ns p = [] := if_neg hr
    have hl9 : runL cs (kindN K) per ns p = [] := if_neg hr
    rw [hq, hl9]
    clear hv5 hr hq hl9 o5 p5 k5
    go_wp2_with fail
    go_ret
    exact ⟨rfl, K5.out⟩
set_option maxHeartbeats 2000000 in
theorem gateKeeps_any (Ac : Option Addr) (cc : Nat) (cs : List (List Ln)) (K : ByteArray) (per : Int) (An : Option Addr) (cn : Nat) (ns : List Int) (A : Option Addr) (c : Nat) (p : List Pk) (S : Nat → Addr) (w : World) (h : RdLL w w.heap.size Ac cs) (h' : RdI w w.heap.size An ns) (hp : RdP w w.heap.size A p) (hS : GK w w.heap.size S) (hl : ∀ l ∈ cs, l.length ≤ 9223372036854775807) (hcl : cs.length ≤ 9223372036854775807) (hl' : ns.length ≤ 9223372036854775807) (hK : K.size ≤ 9223372036854775807) (hlp : p.length ≤ 9223372036854775807) :
    Calls Tryz.prog 5 #[.agg #[.slice Ac cs.length cc, .string K, .int .i64 per, .slice An ns.length cn], .slice A p.length c] w fun e w' => e = .returned (.bool true) ∧ Below w.heap.size w w' := by
  cases hw : wideB cs K ns
  · cases hfit : fitB p.length 120
    · have Hl := Lib.hid hl
      have Hw := Lib.hid hw
      have Hfit := Lib.hid hfit
      clear hl hw hfit
      obtain ⟨W, hW⟩ : ∃ W : World, W = w.alloc (.cells #[.slice Ac cs.length cc, .string K, .int .i64 per, .slice An ns.length cn] 25) := ⟨_, rfl⟩
      have b0 : Below w.heap.size w W := by rw [hW]; exact (Below.refl _ _).alloc (Nat.le_refl _) _
      obtain ⟨gb, hgb⟩ : ∃ gb, gb = w.heap.size := ⟨_, rfl⟩
      have x0 : Blk W gb 25 #[.slice Ac cs.length cc, .string K, .int .i64 per, .slice An ns.length cn] := by rw [hW, hgb]; exact Blk.new _ _ _
      have HW := Lib.hid hW
      have HGB := Lib.hid hgb
      have B0 := Lib.hid b0
      have X0 := Lib.hid x0
      have z0 := b0.size
      have hgbl : gb < W.heap.size := x0.lt
      clear hW hgb b0 x0
      go_enter Tryz.func5, Tryz.ntmps5
      go_wp2_with fail
      rw [← HGB.out, ← HW.out]
      refine (opens_any S W ((hS.gs.below B0.out).more z0)).mono ?_
      rintro e w1 ⟨rfl, k1⟩
      have x1 := X0.out.below k1 X0.out.lt
      have c0 := x1.cell 0
      have c1 := x1.cell 1
      have c2 := x1.cell 2
      have c3 := x1.cell 3
      simp at c0 c1 c2 c3
      have K1 := Lib.hid (B0.out.trans (k1.mono z0))
      have X1 := Lib.hid x1
      have z1 : w.heap.size ≤ w1.heap.size := K1.out.size
      clear k1 x1
      go_wp2_with fail
      refine (wide_any Ac An cc cn cs K per ns w1 w.heap.size z1 (h.below K1.out) Hl.out hcl hl' hK).mono ?_
      rintro e w2 ⟨rfl, k2⟩
      rw [Hw.out]
      have K2 := Lib.hid (K1.out.trans (k2.mono z1))
      have z2 : w.heap.size ≤ w2.heap.size := K2.out.size
      have X2 := Lib.hid (X1.out.below k2 X1.out.lt)
      clear k2 c0 c1 c2 c3
      go_wp2_with fail
      refine (fit_any A c p.length 120 _ hlp).mono ?_
      rintro e wx ⟨rfl, rfl⟩
      rw [Hfit.out]
      go_wp2_with fail
      go_ret
      exact ⟨rfl, K2.out⟩
    · exact gkeeps_main Ac An cc cn cs K per ns A c p S w h h' hp hS hl hcl hl' hK hw hfit
  · have Hl := Lib.hid hl
    have Hw := Lib.hid hw
    clear hl hw
    obtain ⟨W, hW⟩ : ∃ W : World, W = w.alloc (.cells #[.slice Ac cs.length cc, .string K, .int .i64 per, .slice An ns.length cn] 25) := ⟨_, rfl⟩
    have b0 : Below w.heap.size w W := by rw [hW]; exact (Below.refl _ _).alloc (Nat.le_refl _) _
    obtain ⟨gb, hgb⟩ : ∃ gb, gb = w.heap.size := ⟨_, rfl⟩
    have x0 : Blk W gb 25 #[.slice Ac cs.length cc, .string K, .int .i64 per, .slice An ns.length cn] := by rw [hW, hgb]; exact Blk.new _ _ _
    have HW := Lib.hid hW
    have HGB := Lib.hid hgb
    have B0 := Lib.hid b0
    have X0 := Lib.hid x0
    have z0 := b0.size
    have hgbl : gb < W.heap.size := x0.lt
    clear hW hgb b0 x0
    go_enter Tryz.func5, Tryz.ntmps5
    go_wp2_with fail
    rw [← HGB.out, ← HW.out]
    refine (opens_any S W ((hS.gs.below B0.out).more z0)).mono ?_
    rintro e w1 ⟨rfl, k1⟩
    have x1 := X0.out.below k1 X0.out.lt
    have c0 := x1.cell 0
    have c1 := x1.cell 1
    have c2 := x1.cell 2
    have c3 := x1.cell 3
    simp at c0 c1 c2 c3
    have K1 := Lib.hid (B0.out.trans (k1.mono z0))
    have X1 := Lib.hid x1
    have z1 : w.heap.size ≤ w1.heap.size := K1.out.size
    clear k1 x1
    go_wp2_with fail
    refine (wide_any Ac An cc cn cs K per ns w1 w.heap.size z1 (h.below K1.out) Hl.out hcl hl' hK).mono ?_
    rintro e w2 ⟨rfl, k2⟩
    rw [Hw.out]
    have K2 := Lib.hid (K1.out.trans (k2.mono z1))
    have z2 : w.heap.size ≤ w2.heap.size := K2.out.size
    have X2 := Lib.hid (X1.out.below k2 X1.out.lt)
    clear k2 c0 c1 c2 c3
    go_wp2_with fail
    go_ret
    exact ⟨rfl, K2.out⟩
end Go.Proofs.YthgpbdlmadjndaaGreatDoor
