/- CRUZ at a link, plainly: packets that fit a curve wait no longer than its bounds tell. No program in sight. GateKeeps, plainly: what left the shapers fits all curves together; no packet is longer at the link than the bound. No program in sight. gate.Bound. Conditions: as for a gate in memory. (Printed by genbound.py.) -/
import Derived.Test.YtoomffajodheaaaGreatDoorQBsM
import Derived.Test.YtoomffajodheaaaGreatDoorQGrM
import Derived.Test.YtoomffajodheaaaGreatDoorQDlB
import Derived.Test.YtoomffajodheaaaGreatDoorQSuM
import Derived.Test.YtoomffajodheaaaGreatDoorQGtM
set_option linter.all false
namespace Go.Proofs.YtoomffajodheaaaGreatDoor
section
variable {p : List Pk} {per : Int} {V : Int → Int}
/-- Those that wait have come since the link is busy; nobody has waited for longer than the bound. -/
def KB {σ : Type} (M : Pol σ) (p : List Pk) (per B : Int) (t : St σ) : Prop :=
  KJ M p per t ∧ (∀ C y, kL per (p.take t.next) = C ++ [y] → ∀ j ∈ M.wait t.s, y.b ≤ aOf p j) ∧ ∀ x ∈ t.out, x.t - aOf p x.p.toNat ≤ B
end
end Go.Proofs.YtoomffajodheaaaGreatDoor
namespace Go.Proofs.YtoomffajodheaaaGreatDoor
/-- All curves together, up to the first empty one. -/
def allGo : List Ln → List (List Ln) → Option (List Ln)
  | all, [] => some all
  | all, l :: r => if l.length = 0 ∨ all.length = 0 then some all else if (sumE all l).1 ≠ 0 then none else allGo (sumV all l) r
def bndAll (cs : List (List Ln)) : Option (List Ln) := allGo (cs.getD 0 []) (cs.drop 1)
def howErr (n : Nat) (l : List Ln) (per : Int) : Nat × Int := if n = 0 then delayErr l per else busyErr l per
def howV (n : Nat) (l : List Ln) (per : Int) : Int := if n = 0 then delayV l per else busyV l per
def allErr (n : Nat) (per : Int) : Option (List Ln) → Nat × Int
  | none => (4, -1)
  | some all => if all.length = 0 then (4, -1) else if (howErr n all per).1 ≠ 0 then (4, -1) else (0, -1)
def allV (n : Nat) (per : Int) : Option (List Ln) → Int
  | none => 0
  | some all => if (allErr n per (some all)).1 = 0 then howV n all per else 0
def bndErr (cs : List (List Ln)) (n : Nat) (per : Int) (ns : List Int) : Nat × Int := if (gateErr cs n per ns).1 ≠ 0 then gateErr cs n per ns else allErr n per (bndAll cs)
def bndV (cs : List (List Ln)) (n : Nat) (per : Int) (ns : List Int) : Int := if (gateErr cs n per ns).1 ≠ 0 then 0 else allV n per (bndAll cs)
theorem bnd_ok {cs : List (List Ln)} {n : Nat} {per : Int} {ns : List Int} (h : (bndErr cs n per ns).1 = 0) : (gateErr cs n per ns).1 = 0 ∧ ∃ all, bndAll cs = some all ∧ 0 < all.length ∧ (howErr n all per).1 = 0 ∧ bndV cs n per ns = howV n all per ∧ bndErr cs n per ns = (0, -1) := by
  unfold bndErr bndV at *
  by_cases h1 : (gateErr cs n per ns).1 ≠ 0
  · rw [if_pos h1] at h; exact absurd h h1
  · rw [if_neg h1] at h ⊢
    rw [if_neg h1]
    refine ⟨by omega, ?_⟩
    cases ha : bndAll cs with
    | none => rw [ha] at h; simp [allErr] at h
    | some all =>
      rw [ha] at h
      have e9 : allErr n per (some all) = if all.length = 0 then (4, -1) else if (howErr n all per).1 ≠ 0 then (4, -1) else (0, -1) := rfl
      have h' := h
      rw [e9] at h'
      by_cases h2 : all.length = 0
      · rw [if_pos h2] at h'; simp at h'
      · rw [if_neg h2] at h'
        by_cases h3 : (howErr n all per).1 ≠ 0
        · rw [if_pos h3] at h'; simp at h'
        · refine ⟨all, rfl, by omega, by omega, ?_, ?_⟩
          · show (if (allErr n per (some all)).1 = 0 then howV n all per else 0) = _
            rw [if_pos h]
          · rw [e9, if_neg h2, if_neg h3]
theorem sum_step {a b : List Ln} (ha : (crvErr a).1 = 0) (hb : (crvErr b).1 = 0) (h : (sumE a b).1 = 0) : (crvErr (sumV a b)).1 = 0 ∧ ∀ t, 0 ≤ t → valueL a t + valueL b t ≤ valueL (sumV a b) t := by
  have hv : sumV a b = tidyRef (sumAll a b) := if_pos h
  have he : sumErr a b = 0 := by
    unfold sumE at h
    rw [if_neg (by omega), if_neg (by omega)] at h
    exact h
  obtain ⟨s1, s2, -⟩ := sum_ok he
  obtain ⟨a1, a2, a3, -⟩ := crvErr_ok ha
  obtain ⟨b1, b2, b3, -⟩ := crvErr_ok hb
  have hr : ∀ y ∈ sumAll a b, 0 ≤ y.r := fun y hy => (s1 y hy).2.2.1
  have hl : 0 < (sumAll a b).length := by rw [sumAll_len]; exact Nat.mul_pos a1 b1
  have hne := tidy_ne hr hl
  rw [hv]
  refine ⟨by rw [crvErr_of hne s2 fun x hx => s1 x (tidy_sub _ x hx)], fun t ht => ?_⟩
  rw [tidy_val hr hl ht]
  exact (sum_val a1 b1 t).1
end Go.Proofs.YtoomffajodheaaaGreatDoor
namespace Go.Proofs.YtoomffajodheaaaGreatDoor
open Go.RowKit
set_option maxRecDepth 100000
theorem bfifo_cases (K : ByteArray) : ((K.toList == ([102, 105, 102, 111] : List UInt8)) = true ∧ kindN K = 0) ∨ ((K.toList == ([102, 105, 102, 111] : List UInt8)) = false ∧ kindN K ≠ 0) := by
  rcases kind_cases K with ⟨s0, s1, s2, s3, s4, hn⟩ | ⟨s0, s1, s2, s3, s4, hn⟩ | ⟨s0, s1, s2, s3, s4, hn⟩ | ⟨s0, s1, s2, s3, s4, hn⟩ | ⟨s0, s1, s2, s3, s4, hn⟩ | ⟨s0, s1, s2, s3, s4, hn⟩
  · exact .inl ⟨s0, hn⟩
  all_goals exact .inr ⟨s0, by rw [hn]; decide⟩
theorem allErr_some (n : Nat) (per : Int) (al : List Ln) : allErr n per (some al) = if al.length = 0 then (4, -1) else if (howErr n al per).1 ≠ 0 then (4, -1) else (0, -1) := rfl
theorem allV_some (n : Nat) (per : Int) (al : List Ln) : allV n per (some al) = if (allErr n per (some al)).1 = 0 then howV n al per else 0 := rfl
theorem sumE_ok {a b : List Ln} (h : (sumE a b).1 = 0) : (crvErr a).1 = 0 ∧ (crvErr b).1 = 0 := by
  unfold sumE at h
  by_cases h1 : (crvErr a).1 ≠ 0
  · rw [if_pos h1] at h; exact absurd h h1
  · rw [if_neg h1] at h
    by_cases h2 : (crvErr b).1 ≠ 0
    · rw [if_pos h2] at h; exact absurd h h2
    · exact ⟨by omega, by omega⟩
theorem allGo_step {cs : List (List Ln)} {k : Nat} (hk : k < cs.length) (al : List Ln) : allGo al (cs.drop k) = if cs[k].length = 0 ∨ al.length = 0 then some al else if (sumE al cs[k]).1 ≠ 0 then none else allGo (sumV al cs[k]) (cs.drop (k + 1)) := by
  rw [List.drop_eq_getElem_cons hk]
  rfl
section
variable (Ac An : Option Addr) (cc cn : Nat) (cs : List (List Ln)) (K : ByteArray) (per : Int) (ns : List Int) (S : Nat → Addr) (w : World) (B : Nat) (hB : B ≤ w.heap.size) (h : RdLL w B Ac cs) (h' : RdI w B An ns) (hS : GS w B S) (hl : ∀ l ∈ cs, l.length ≤ 9223372036854775807) (hl' : ns.length ≤ 9223372036854775807) (hcc : cs.length ≤ cc)
include hB h h' hS hl hl' hcc
set_option maxHeartbeats 8000000 in
theorem bound_main (h1 : (gateErr cs (kindN K) per ns).1 = 0) : Calls Tryz.prog 73 #[.agg #[.slice Ac cs.length cc, .string K, .int .i64 per, .slice An ns.length cn]] w (EndVEr (.int .i64 (bndV cs (kindN K) per ns)) S (bndErr cs (kindN K) per ns).1 (bndErr cs (kindN K) per ns).2 w) := by
  obtain ⟨h8, hcs, hlk, -⟩ := gateErr_ok h1
  have HBE := Lib.hid (show bndErr cs (kindN K) per ns = allErr (kindN K) per (bndAll cs) from if_neg (by omega))
  have HBV := Lib.hid (show bndV cs (kindN K) per ns = allV (kindN K) per (bndAll cs) from if_neg (by omega))
  have H1 := Lib.hid h1
  have H8 := Lib.hid h8
  have hcc8 : 8 ≤ cc := by omega
  have hBw : B ≤ w.heap.size := hB
  obtain ⟨W, hW⟩ : ∃ W : World, W = w.alloc (.cells #[.slice Ac 8 cc, .string K, .int .i64 per, .slice An ns.length cn] 66) := ⟨_, rfl⟩
  have bW : Below w.heap.size w W := by rw [hW]; exact (Below.refl _ _).alloc (Nat.le_refl _) _
  obtain ⟨gb, hgb⟩ : ∃ gb, gb = w.heap.size := ⟨_, rfl⟩
  have xW : Blk W gb 66 #[.slice Ac 8 cc, .string K, .int .i64 per, .slice An ns.length cn] := by rw [hW, hgb]; exact Blk.new _ _ _
  have HW := Lib.hid hW
  have BW := Lib.hid bW
  have XW := Lib.hid xW
  have HGB := Lib.hid hgb
  have zW : w.heap.size ≤ W.heap.size := bW.size
  rw [h8]
  have hcheck := gcheck_any Ac An cc cn cs K per ns S W B (Nat.le_trans hB bW.size) (h.below (bW.mono hB)) (h'.below (bW.mono hB)) (hS.below (bW.mono hB)) hl hl'
  rw [h8] at hcheck
  have HCK := Lib.hid hcheck
  have HG4 := Lib.hid (show ∀ v : World, Below B w v → v.cell? ⟨G 4, 0, none⟩ = some (sv S 4) from fun v hv => ((hS.s.below hv) 4 (by simp)).2.2)
  clear h1 h8 hcs hlk hW bW xW hcheck hgb hcc
  go_enter Tryz.func73, Tryz.ntmps73
  go_wp2_with fail
  rw [← HGB.out, ← HW.out]
  refine (HCK.out).mono ?_
  rintro e w1 ⟨v, rfl, hv, k1⟩
  obtain rfl := hv.nil_of H1.out
  have k1' := BW.out.trans (k1.mono zW)
  have x1 := XW.out.below k1 XW.out.lt
  have z1 := k1'.size
  have e0 := x1.cell 0
  simp only [List.getElem?_toArray, List.getElem?_cons_zero, List.getElem?_cons_succ] at e0
  have h08 : 0 < cs.length := by rw [H8.out]; omega
  obtain ⟨b, o, a0, c0, rfl, hb, d0, hrd0⟩ := (h.below (k1'.mono hB)) 0 h08
  have hl0 := hl _ (List.getElem_mem h08)
  have hg0 : cs.getD 0 [] = cs[0] := by simp [List.getD, h08]
  obtain ⟨l0, hl0e⟩ : ∃ l0, l0 = cs[0] := ⟨_, rfl⟩
  rw [← hl0e] at d0 hrd0 hl0 hg0
  have HG0 := Lib.hid hg0
  have HR0 := Lib.hid hrd0
  have X1 := Lib.hid x1
  have K1 := Lib.hid k1'
  simp only [Nat.add_zero] at d0
  clear hv k1 k1' x1 hg0 hl0e hrd0 HCK
  go_wp2_with fail
  go_loopw [5, 26] (fun av iv wr => ∃ (k : Nat) (al : List Ln) (A1 : Option Addr) (c1 : Nat), k ≤ 7 ∧ iv = .int .i64 k ∧ av = .slice A1 al.length c1 ∧ bndAll cs = allGo al (cs.drop (k + 1)) ∧ RdL wr wr.heap.size A1 al ∧ al.length ≤ 9223372036854775807 ∧ Below w.heap.size w wr ∧ Blk wr gb 66 #[.slice (some ⟨b, o, none⟩) 8 cc, .string K, .int .i64 per, .slice An ns.length cn]) (fun _ iv _ => 7 - (intOf iv).toNat)
  case atStart => exact ⟨0, l0, a0, c0, Nat.zero_le _, rfl, rfl, by unfold bndAll; rw [HG0.out], HR0.out.more (Nat.le_trans hBw z1), hl0, K1.out, X1.out⟩
  case round =>
    obtain ⟨k, al, A1, c1, hk, rfl, rfl, hall, hrd, hal, hbw, hx⟩ := hrel
    have HALL0 := Lib.hid hall
    have HRD := Lib.hid hrd
    have HX := Lib.hid hx
    have zw := hbw.size
    clear hall hrd hx
    by_cases hlt : k < 7
    · have hkl : k + 1 < cs.length := by rw [H8.out]; omega
      obtain ⟨b9, o9, a, c, hA9, hb9, d1, hrd⟩ := (h.below (hbw.mono hB)) (k + 1) hkl
      simp only [Option.some.injEq, Addr.mk.injEq, and_true] at hA9
      obtain ⟨rfl, rfl⟩ := hA9
      have hst := allGo_step hkl al
      have hll := hl _ (List.getElem_mem hkl)
      obtain ⟨l, hle⟩ : ∃ l, l = cs[k + 1] := ⟨_, rfl⟩
      rw [← hle] at d1 hrd hst hll
      rw [show o + (k + 1) = o + 1 + k by omega] at d1
      have HST := Lib.hid hst
      have HRL := Lib.hid hrd
      have u1 : (0 : Int) ≤ (k : Int) := by omega
      have u2 : (k : Int) < 7 := by omega
      clear hst hle hrd hb9
      by_cases hl0' : l.length = 0
      · have HALL := Lib.hid (show bndAll cs = some al by rw [HALL0.out, HST.out, if_pos (.inl hl0')])
        rw [hl0'] at d1
        clear hl0'
        have f1 := HX.out.cell 1
        have f2 := HX.out.cell 2
        simp only [List.getElem?_toArray, List.getElem?_cons_zero, List.getElem?_cons_succ] at f1 f2
        by_cases h0 : al.length = 0
        · have g4 := HG4.out wr (hbw.mono hBw)
          simp only [G, sv] at g4
          have HE2 := Lib.hid (show allErr (kindN K) per (some al) = (4, -1) from if_pos h0)
          have HV2 := Lib.hid (show allV (kindN K) per (some al) = 0 by rw [allV_some, HE2.out, if_neg (by simp)])
          rw [h0]
          go_wp2_with fail
          go_region
          all_goals
            go_wp2_with fail
            go_ret2
            rw [HBE.out, HBV.out, HALL.out, HE2.out, HV2.out]
            exact ⟨_, rfl, .bare 4 (by omega) (by omega), hbw.drew⟩
        · have hne : ((al.length : Int) == 0) = false := by rw [beq_eq_false_iff_ne]; omega
          rcases bfifo_cases K with ⟨s0, hn⟩ | ⟨s0, hn⟩
          · have HH := Lib.hid (delay_any A1 c1 al per S wr wr.heap.size (Nat.le_refl _) HRD.out (((hS.s.below (hbw.mono hB)).more (Nat.le_trans hB hbw.size)).sub (by simp)) hal)
            have hhe : howErr (kindN K) al per = delayErr al per := if_pos hn
            have hhv : howV (kindN K) al per = delayV al per := if_pos hn
            clear hS h h' hl hl' hn
            by_cases hw : (delayErr al per).1 = 0
            · have HE2 := Lib.hid (show allErr (kindN K) per (some al) = (0, -1) by rw [allErr_some, if_neg h0, if_neg (by rw [hhe]; omega)])
              have HV2 := Lib.hid (show allV (kindN K) per (some al) = delayV al per by rw [allV_some, HE2.out, if_pos rfl, hhv])
              have HW := Lib.hid hw
              clear hw hhe hhv
              go_wp2_with fail
              refine (HH.out).mono ?_
              rintro e wz ⟨v, rfl, hv, kz⟩
              obtain rfl := hv.nil_of HW.out
              have kz' := hbw.trans (kz.mono hbw.size)
              clear hv kz f1 f2 HH
              go_wp2_with fail
              go_ret2
              rw [HBE.out, HBV.out, HALL.out, HE2.out, HV2.out]
              exact ⟨_, rfl, .nil, kz'⟩
            · have HE2 := Lib.hid (show allErr (kindN K) per (some al) = (4, -1) by rw [allErr_some, if_neg h0, if_pos (by rw [hhe]; omega)])
              have HV2 := Lib.hid (show allV (kindN K) per (some al) = 0 by rw [allV_some, HE2.out, if_neg (by simp)])
              have HW := Lib.hid hw
              clear hw hhe hhv
              go_wp2_with fail
              refine (HH.out).mono ?_
              rintro e wz ⟨v, rfl, hv, kz⟩
              obtain ⟨T, ad, rfl⟩ := hv.some_of HW.out
              have kz' := hbw.trans (kz.mono hbw.size)
              have g4 := HG4.out wz (kz'.mono hBw)
              simp only [G, sv] at g4
              clear hv kz f1 f2 HH
              go_wp2_with fail
              go_region
              all_goals
                go_wp2_with fail
                go_ret2
                rw [HBE.out, HBV.out, HALL.out, HE2.out, HV2.out]
                exact ⟨_, rfl, .bare 4 (by omega) (by omega), kz'.drew⟩
          · have HH := Lib.hid (cbusy_any A1 c1 al per S wr wr.heap.size (Nat.le_refl _) HRD.out (((hS.s.below (hbw.mono hB)).more (Nat.le_trans hB hbw.size)).sub (by simp)) hal)
            have hhe : howErr (kindN K) al per = busyErr al per := if_neg hn
            have hhv : howV (kindN K) al per = busyV al per := if_neg hn
            clear hS h h' hl hl' hn
            by_cases hw : (busyErr al per).1 = 0
            · have HE2 := Lib.hid (show allErr (kindN K) per (some al) = (0, -1) by rw [allErr_some, if_neg h0, if_neg (by rw [hhe]; omega)])
              have HV2 := Lib.hid (show allV (kindN K) per (some al) = busyV al per by rw [allV_some, HE2.out, if_pos rfl, hhv])
              have HW := Lib.hid hw
              clear hw hhe hhv
              go_wp2_with fail
              refine (HH.out).mono ?_
              rintro e wz ⟨v, rfl, hv, kz⟩
              obtain rfl := hv.nil_of HW.out
              have kz' := hbw.trans (kz.mono hbw.size)
              clear hv kz f1 f2 HH
              go_wp2_with fail
              go_ret2
              rw [HBE.out, HBV.out, HALL.out, HE2.out, HV2.out]
              exact ⟨_, rfl, .nil, kz'⟩
            · have HE2 := Lib.hid (show allErr (kindN K) per (some al) = (4, -1) by rw [allErr_some, if_neg h0, if_pos (by rw [hhe]; omega)])
              have HV2 := Lib.hid (show allV (kindN K) per (some al) = 0 by rw [allV_some, HE2.out, if_neg (by simp)])
              have HW := Lib.hid hw
              clear hw hhe hhv
              go_wp2_with fail
              refine (HH.out).mono ?_
              rintro e wz ⟨v, rfl, hv, kz⟩
              obtain ⟨T, ad, rfl⟩ := hv.some_of HW.out
              have kz' := hbw.trans (kz.mono hbw.size)
              have g4 := HG4.out wz (kz'.mono hBw)
              simp only [G, sv] at g4
              clear hv kz f1 f2 HH
              go_wp2_with fail
              go_region
              all_goals
                go_wp2_with fail
                go_ret2
                rw [HBE.out, HBV.out, HALL.out, HE2.out, HV2.out]
                exact ⟨_, rfl, .bare 4 (by omega) (by omega), kz'.drew⟩
      · have hlne : ((l.length : Int) == 0) = false := by rw [beq_eq_false_iff_ne]; omega
        by_cases hal0 : al.length = 0
        · have HALL := Lib.hid (show bndAll cs = some al by rw [HALL0.out, HST.out, if_pos (.inr hal0)])
          clear hl0'
          have g4 := HG4.out wr (hbw.mono hBw)
          simp only [G, sv] at g4
          have HE2 := Lib.hid (show allErr (kindN K) per (some al) = (4, -1) from if_pos hal0)
          have HV2 := Lib.hid (show allV (kindN K) per (some al) = 0 by rw [allV_some, HE2.out, if_neg (by simp)])
          rw [hal0]
          go_wp2_with fail
          go_region
          all_goals
            go_wp2_with fail
            go_ret2
            rw [HBE.out, HBV.out, HALL.out, HE2.out, HV2.out]
            exact ⟨_, rfl, .bare 4 (by omega) (by omega), hbw.drew⟩
        · have halne : ((al.length : Int) == 0) = false := by rw [beq_eq_false_iff_ne]; omega
          have HS2 := Lib.hid (csum_any A1 a c1 c al l S wr wr.heap.size (Nat.le_refl _) HRD.out (HRL.out.more (Nat.le_trans hB zw)) (((hS.s.below (hbw.mono hB)).more (Nat.le_trans hB zw)).sub (by simp)) hal hll)
          by_cases he : (sumE al l).1 = 0
          · have HALL2 := Lib.hid (show bndAll cs = allGo (sumV al l) (cs.drop (k + 1 + 1)) by rw [HALL0.out, HST.out, if_neg (by omega), if_neg (by omega)])
            obtain ⟨q1, q2⟩ := sumE_ok he
            have hlen := (crvErr_ok (sum_step q1 q2 he).1).2.1
            have HE := Lib.hid he
            obtain ⟨sv', hsv⟩ : ∃ sv', sv' = sumV al l := ⟨_, rfl⟩
            rw [← hsv] at HS2 HALL2 hlen
            clear he q1 q2 hsv hl0' hal0
            go_wp2_with fail
            refine (HS2.out).mono ?_
            rintro e wz ⟨AO, cO, v, rfl, ro, hv, kz⟩
            obtain rfl := hv.nil_of HE.out
            have RO := Lib.hid (RdL.of_own ro)
            have KZ := Lib.hid (hbw.trans (kz.mono zw))
            have XZ := Lib.hid (HX.out.below kz HX.out.lt)
            clear hv ro kz d1 HS2
            go_wp2_with fail
            go_roundw
            case rel => exact ⟨k + 1, sv', AO, cO, by omega, by go_num, rfl, HALL2.out, RO.out, by omega, KZ.out, XZ.out⟩
            case measure => simp [intOf]; omega
          · have HALL := Lib.hid (show bndAll cs = none by rw [HALL0.out, HST.out, if_neg (by omega), if_pos he])
            have HE := Lib.hid he
            clear he hl0' hal0
            go_wp2_with fail
            refine (HS2.out).mono ?_
            rintro e wz ⟨AO, cO, v, rfl, -, hv, kz⟩
            obtain ⟨T, ad, rfl⟩ := hv.some_of HE.out
            have kz' := hbw.trans (kz.mono zw)
            have g4 := HG4.out wz (kz'.mono hBw)
            simp only [G, sv] at g4
            clear hv kz d1 HS2
            go_wp2_with fail
            go_region
            all_goals
              go_wp2_with fail
              go_ret2
              rw [HBE.out, HBV.out, HALL.out]
              exact ⟨_, rfl, .bare 4 (by omega) (by omega), kz'.drew⟩
    · have HALL := Lib.hid (show bndAll cs = some al by rw [HALL0.out, List.drop_eq_nil_of_le (by rw [H8.out]; omega)]; rfl)
      have f1 := HX.out.cell 1
      have f2 := HX.out.cell 2
      simp only [List.getElem?_toArray, List.getElem?_cons_zero, List.getElem?_cons_succ] at f1 f2
      by_cases h0 : al.length = 0
      · have g4 := HG4.out wr (hbw.mono hBw)
        simp only [G, sv] at g4
        have HE2 := Lib.hid (show allErr (kindN K) per (some al) = (4, -1) from if_pos h0)
        have HV2 := Lib.hid (show allV (kindN K) per (some al) = 0 by rw [allV_some, HE2.out, if_neg (by simp)])
        rw [h0]
        go_wp2_with fail
        go_region
        all_goals
          go_wp2_with fail
          go_ret2
          rw [HBE.out, HBV.out, HALL.out, HE2.out, HV2.out]
          exact ⟨_, rfl, .bare 4 (by omega) (by omega), hbw.drew⟩
      · have hne : ((al.length : Int) == 0) = false := by rw [beq_eq_false_iff_ne]; omega
        rcases bfifo_cases K with ⟨s0, hn⟩ | ⟨s0, hn⟩
        · have HH := Lib.hid (delay_any A1 c1 al per S wr wr.heap.size (Nat.le_refl _) HRD.out (((hS.s.below (hbw.mono hB)).more (Nat.le_trans hB hbw.size)).sub (by simp)) hal)
          have hhe : howErr (kindN K) al per = delayErr al per := if_pos hn
          have hhv : howV (kindN K) al per = delayV al per := if_pos hn
          clear hS h h' hl hl' hn
          by_cases hw : (delayErr al per).1 = 0
          · have HE2 := Lib.hid (show allErr (kindN K) per (some al) = (0, -1) by rw [allErr_some, if_neg h0, if_neg (by rw [hhe]; omega)])
            have HV2 := Lib.hid (show allV (kindN K) per (some al) = delayV al per by rw [allV_some, HE2.out, if_pos rfl, hhv])
            have HW := Lib.hid hw
            clear hw hhe hhv
            go_wp2_with fail
            refine (HH.out).mono ?_
            rintro e wz ⟨v, rfl, hv, kz⟩
            obtain rfl := hv.nil_of HW.out
            have kz' := hbw.trans (kz.mono hbw.size)
            clear hv kz f1 f2 HH
            go_wp2_with fail
            go_ret2
            rw [HBE.out, HBV.out, HALL.out, HE2.out, HV2.out]
            exact ⟨_, rfl, .nil, kz'⟩
          · have HE2 := Lib.hid (show allErr (kindN K) per (some al) = (4, -1) by rw [allErr_some, if_neg h0, if_pos (by rw [hhe]; omega)])
            have HV2 := Lib.hid (show allV (kindN K) per (some al) = 0 by rw [allV_some, HE2.out, if_neg (by simp)])
            have HW := Lib.hid hw
            clear hw hhe hhv
            go_wp2_with fail
            refine (HH.out).mono ?_
            rintro e wz ⟨v, rfl, hv, kz⟩
            obtain ⟨T, ad, rfl⟩ := hv.some_of HW.out
            have kz' := hbw.trans (kz.mono hbw.size)
            have g4 := HG4.out wz (kz'.mono hBw)
            simp only [G, sv] at g4
            clear hv kz f1 f2 HH
            go_wp2_with fail
            go_region
            all_goals
              go_wp2_with fail
              go_ret2
              rw [HBE.out, HBV.out, HALL.out, HE2.out, HV2.out]
              exact ⟨_, rfl, .bare 4 (by omega) (by omega), kz'.drew⟩
        · have HH := Lib.hid (cbusy_any A1 c1 al per S wr wr.heap.size (Nat.le_refl _) HRD.out (((hS.s.below (hbw.mono hB)).more (Nat.le_trans hB hbw.size)).sub (by simp)) hal)
          have hhe : howErr (kindN K) al per = busyErr al per := if_neg hn
          have hhv : howV (kindN K) al per = busyV al per := if_neg hn
          clear hS h h' hl hl' hn
          by_cases hw : (busyErr al per).1 = 0
          · have HE2 := Lib.hid (show allErr (kindN K) per (some al) = (0, -1) by rw [allErr_some, if_neg h0, if_neg (by rw [hhe]; omega)])
            have HV2 := Lib.hid (show allV (kindN K) per (some al) = busyV al per by rw [allV_some, HE2.out, if_pos rfl, hhv])
            have HW := Lib.hid hw
            clear hw hhe hhv
            go_wp2_with fail
            refine (HH.out).mono ?_
            rintro e wz ⟨v, rfl, hv, kz⟩
            obtain rfl := hv.nil_of HW.out
            have kz' := hbw.trans (kz.mono hbw.size)
            clear hv kz f1 f2 HH
            go_wp2_with fail
            go_ret2
            rw [HBE.out, HBV.out, HALL.out, HE2.out, HV2.out]
            exact ⟨_, rfl, .nil, kz'⟩
          · have HE2 := Lib.hid (show allErr (kindN K) per (some al) = (4, -1) by rw [allErr_some, if_neg h0, if_pos (by rw [hhe]; omega)])
            have HV2 := Lib.hid (show allV (kindN K) per (some al) = 0 by rw [allV_some, HE2.out, if_neg (by simp)])
            have HW := Lib.hid hw
            clear hw hhe hhv
            go_wp2_with fail
            refine (HH.out).mono ?_
            rintro e wz ⟨v, rfl, hv, kz⟩
            obtain ⟨T, ad, rfl⟩ := hv.some_of HW.out
            have kz' := hbw.trans (kz.mono hbw.size)
            have g4 := HG4.out wz (kz'.mono hBw)
            simp only [G, sv] at g4
            clear hv kz f1 f2 HH
            go_wp2_with fail
            go_region
            all_goals
              go_wp2_with fail
              go_ret2
              rw [HBE.out, HBV.out, HALL.out, HE2.out, HV2.out]
              exact ⟨_, rfl, .bare 4 (by omega) (by omega), kz'.drew⟩
theorem bound_any : Calls Tryz.prog 73 #[.agg #[.slice Ac cs.length cc, .string K, .int .i64 per, .slice An ns.length cn]] w (EndVEr (.int .i64 (bndV cs (kindN K) per ns)) S (bndErr cs (kindN K) per ns).1 (bndErr cs (kindN K) per ns).2 w) := by
  by_cases h1 : (gateErr cs (kindN K) per ns).1 = 0
  · exact bound_main Ac An cc cn cs K per ns S w B hB h h' hS hl hl' hcc h1
  · have HBE := Lib.hid (show bndErr cs (kindN K) per ns = gateErr cs (kindN K) per ns from if_pos h1)
    have HBV := Lib.hid (show bndV cs (kindN K) per ns = 0 from if_pos h1)
    have bW : Below w.heap.size w (w.alloc (.cells #[.slice Ac cs.length cc, .string K, .int .i64 per, .slice An ns.length cn] 66)) := (Below.refl _ _).alloc (Nat.le_refl _) _
    have H1 := Lib.hid h1
    have HCK := Lib.hid (gcheck_any Ac An cc cn cs K per ns S _ B (Nat.le_trans hB bW.size) (h.below (bW.mono hB)) (h'.below (bW.mono hB)) (hS.below (bW.mono hB)) hl hl')
    have BW := Lib.hid bW
    clear h1 bW hcc
    go_enter Tryz.func73, Tryz.ntmps73
    go_wp2_with fail
    refine (HCK.out).mono ?_
    rintro e w1 ⟨v, rfl, hv, k1⟩
    have HV := Lib.hid hv
    obtain ⟨T, ad, rfl⟩ := hv.some_of H1.out
    have k1' := BW.out.trans (k1.mono BW.out.size)
    clear hv
    go_wp2_with fail
    go_ret2
    rw [HBE.out, HBV.out]
    exact ⟨_, rfl, HV.out, k1'⟩
end
end Go.Proofs.YtoomffajodheaaaGreatDoor
