/- The document's bucket: HasAt, Take, When compute what the bucket's plain functions say. Conditions written at each. -/
import Derived.Test.YteeaipehkhldhaaDoorBk2
namespace Go.Proofs.YteeaipehkhldhaaDoor
open Go.RowKit
set_option maxRecDepth 100000
def Bu.rc (s : Bu) : Array Value := #[.int .i64 s.b, .int .i64 s.r, .int .i64 s.has, .int .i64 s.at_, .int .i64 s.last]
theorem ceil_div {l r : Int} (hr : 0 < r) : (l + r - 1) / r = if l / r * r < l then l / r + 1 else l / r := by
  have h1 := Int.emod_add_mul_ediv l r
  have h2 := Int.emod_nonneg l (by omega : r ≠ 0)
  have h3 := Int.emod_lt_of_pos l hr
  obtain ⟨d, hd⟩ : ∃ d, d = l / r := ⟨_, rfl⟩
  rw [← hd] at h1 ⊢
  have hm : d * r = r * d := Int.mul_comm _ _
  split
  · rename_i h
    refine Int.le_antisymm ?_ ?_
    · refine Int.le_of_lt_add_one (Int.ediv_lt_of_lt_mul hr ?_)
      have : (d + 1 + 1) * r = d * r + r + r := by rw [Int.add_mul, Int.add_mul]; omega
      omega
    · refine Int.le_ediv_of_mul_le hr ?_
      have : (d + 1) * r = d * r + r := by rw [Int.add_mul]; omega
      omega
  · rename_i h
    refine Int.le_antisymm ?_ ?_
    · refine Int.le_of_lt_add_one (Int.ediv_lt_of_lt_mul hr ?_)
      have : (d + 1) * r = d * r + r := by rw [Int.add_mul]; omega
      omega
    · refine Int.le_ediv_of_mul_le hr ?_
      omega
theorem hasAt_any (g : Nat) (s : Bu) (t : Int) (w : World) (h : Blk w g 70 s.rc) (hs : BuOk s) (ht : s.at_ ≤ t) (ht2 : t ≤ 1099511627776) :
    Calls Tryd.prog 40 #[.pointer (some ⟨g, 0, none⟩), .int .i64 t] w fun e w' => e = .returned (.int .i64 (holdsB s t)) ∧ ∃ m, w' = w.drewN m := by
  obtain ⟨b, r, a, hh, la⟩ := s
  have c0 : w.cell? ⟨g, 0, none⟩ = some (.int .i64 b) := h.cell 0
  have c1 : w.cell? ⟨g, 1, none⟩ = some (.int .i64 r) := h.cell 1
  have c2 : w.cell? ⟨g, 2, none⟩ = some (.int .i64 hh) := h.cell 2
  have c3 : w.cell? ⟨g, 3, none⟩ = some (.int .i64 a) := h.cell 3
  have hsl := holds_slack hs ht
  obtain ⟨b1, b2, r1, r2, h1, h2, a1, a2, l2⟩ := hs
  simp only at b1 b2 r1 r2 h1 h2 a1 a2 l2 hsl ht
  clear h
  by_cases hr : r = 0
  · subst hr
    have Hv := Lib.hid (show holdsB ⟨b, 0, a, hh, la⟩ t = hh from (if_neg (fun h9 => by have := h9.1; simp at this)).trans (by simp))
    clear hsl
    go_enter Tryd.func40, Tryd.ntmps40
    go_wp2_with fail
    go_ret
    exact ⟨by rw [Hv.out]; rfl, 0, rfl⟩
  · have e1 : (r == 0) = false := beq_eq_false_iff_ne.2 hr
    have hr0 : 0 < r := by omega
    have q0 : 0 ≤ (1000 * b - hh) / r := Int.ediv_nonneg (by omega) (by omega)
    have q1 : (1000 * b - hh) / r ≤ 1000 * b - hh := Int.ediv_le_self _ (by omega)
    by_cases hf : hh = 1000 * b
    · have e2 : (hh == 1000 * b) = true := beq_iff_eq.2 hf
      have Hv := Lib.hid (show holdsB ⟨b, r, a, hh, la⟩ t = hh by
        unfold holdsB
        simp only
        by_cases h9 : 0 < r ∧ (1000 * b - hh) / r < t - a
        · rw [if_pos h9, hf]
        · have hz := hsl h9
          rw [if_neg h9]
          omega)
      clear hsl hf hr
      go_enter Tryd.func40, Tryd.ntmps40
      go_wp2_with fail
      go_ret
      exact ⟨by rw [Hv.out]; rfl, 0, rfl⟩
    · have e2 : (hh == 1000 * b) = false := beq_eq_false_iff_ne.2 hf
      by_cases hc : (1000 * b - hh) / r < t - a
      · have Hv := Lib.hid (show holdsB ⟨b, r, a, hh, la⟩ t = 1000 * b from if_pos ⟨hr0, hc⟩)
        clear hsl hf
        go_enter Tryd.func40, Tryd.ntmps40
        go_wp2_with fail
        go_ret
        exact ⟨ret_int Hv.out.symm, 0, rfl⟩
      · have Hv := Lib.hid (show holdsB ⟨b, r, a, hh, la⟩ t = hh + r * (t - a) from if_neg (fun h9 => hc h9.2))
        obtain ⟨m1, m2⟩ := hsl (fun h9 => hc h9.2)
        rw [Int.mul_comm] at m1 m2
        have hc2 : t - a ≤ (1000 * b - hh) / r := by omega
        clear hsl hc hf hr
        go_enter Tryd.func40, Tryd.ntmps40
        go_wp2_with fail
        go_quiet (fail)
        go_wp2_with fail
        go_ret
        exact ⟨ret_int (by rw [Hv.out, Int.mul_comm]), _, rfl⟩
set_option maxHeartbeats 400000 in
theorem rtake_any (g : Nat) (s : Bu) (t n : Int) (w : World) (h : Blk w g 70 s.rc) (hs : BuOk s) (hk : lookB s t n = 0) :
    Calls Tryd.prog 38 #[.pointer (some ⟨g, 0, none⟩), .int .i64 t, .int .i64 n] w fun e w' => e = .returned (.bool (takeB s t n)) ∧ Blk w' g 70 (tookB s t n).rc ∧ OnlyG g w w' := by
  obtain ⟨q1, q2, q3, q4, q5⟩ := lookB_ok hk
  have q6 := hs.a2
  have q7 := hs.b2
  obtain ⟨q8, q9⟩ := holds_range hs (show s.at_ ≤ t by omega)
  have q10 := hs.h1
  obtain ⟨hv, hhv⟩ : ∃ hv, hv = holdsB s t := ⟨_, rfl⟩
  have Hk := Lib.hid hk
  have Hhv := Lib.hid hhv
  rw [← hhv] at q8 q9
  have c4 : w.cell? ⟨g, 4, none⟩ = some (.int .i64 s.last) := h.cell 4
  have f4 := h.frozen 4
  have b1 : Blk (w.setCell ⟨g, 4, none⟩ (.int .i64 t)) g 70 (Bu.rc ⟨s.b, s.r, s.at_, s.has, t⟩) := h.set_ 4 _
  have B1 := Lib.hid b1
  have hs1 : BuOk ⟨s.b, s.r, s.at_, s.has, t⟩ := ⟨hs.b1, hs.b2, hs.r1, hs.r2, hs.h1, hs.h2, hs.a1, by simp only; omega, q2⟩
  have Hh1 := Lib.hid (show holdsB ⟨s.b, s.r, s.at_, s.has, t⟩ t = hv by rw [hhv]; rfl)
  have on1 := (OnlyG.refl g w).set_ 4 (.int .i64 t)
  clear hk hhv h b1
  by_cases hc : hv < 1000 * n
  · have Ht := Lib.hid (show takeB s t n = false from decide_eq_false (fun h9 => by rw [← Hhv.out] at h9; omega))
    have Hs := Lib.hid (show tookB s t n = ⟨s.b, s.r, s.at_, s.has, t⟩ by unfold tookB; rw [if_neg (by rw [Hk.out]; simp), if_pos (by rw [← Hhv.out]; exact hc)])
    go_enter Tryd.func38, Tryd.ntmps38
    go_wp2_with fail
    refine (hasAt_any g ⟨s.b, s.r, s.at_, s.has, t⟩ t _ B1.out hs1 (by simp only; omega) q2).mono ?_
    rintro e w2 ⟨rfl, m, rfl⟩
    rw [Hh1.out]
    go_wp2_with fail
    go_ret
    rw [Ht.out, Hs.out]
    exact ⟨rfl, B1.out, on1.drewN m⟩
  · have hc2 : 1000 * n ≤ hv := by omega
    have Ht := Lib.hid (show takeB s t n = true from decide_eq_true ⟨Hk.out, by rw [← Hhv.out]; exact hc2⟩)
    have Hs := Lib.hid (show tookB s t n = ⟨s.b, s.r, t, hv - 1000 * n, t⟩ by unfold tookB; rw [if_neg (by rw [Hk.out]; simp), if_neg (by rw [← Hhv.out]; exact hc), ← Hhv.out])
    clear hc
    have b2 := B1.out.set_ 2 (.int .i64 (hv - 1000 * n))
    have x2 : (w.setCell ⟨g, 4, none⟩ (.int .i64 t)).cell? ⟨g, 2, none⟩ = some (.int .i64 s.has) := B1.out.cell 2
    have y2 := B1.out.frozen 2
    have x3 : ((w.setCell ⟨g, 4, none⟩ (.int .i64 t)).setCell ⟨g, 2, none⟩ (.int .i64 (hv - 1000 * n))).cell? ⟨g, 3, none⟩ = some (.int .i64 s.at_) := b2.cell 3
    have y3 := b2.frozen 3
    have X3 : (w.setCell ⟨g, 4, none⟩ (.int .i64 t)).cell? ⟨g, 3, none⟩ = some (.int .i64 s.at_) := B1.out.cell 3
    have Y3 := B1.out.frozen 3
    clear b2
    go_enter Tryd.func38, Tryd.ntmps38
    go_wp2_with fail
    refine (hasAt_any g ⟨s.b, s.r, s.at_, s.has, t⟩ t _ B1.out hs1 (by simp only; omega) q2).mono ?_
    rintro e w2 ⟨rfl, m, rfl⟩
    rw [Hh1.out]
    go_wp2_with fail
    go_ret
    rw [Ht.out, Hs.out]
    exact ⟨rfl, ((B1.out.drewN m).set_ 2 (.int .i64 (hv - 1000 * n))).set_ 3 (.int .i64 t), ((on1.drewN m).set_ 2 (.int .i64 (hv - 1000 * n))).set_ 3 (.int .i64 t)⟩
/-- The document's When: -1 where it is never. -/
def whenR (s : Bu) (t n : Int) : Int := if (whenB s t n).1 = 0 then (whenB s t n).2 else -1
set_option maxHeartbeats 1000000 in
theorem rwhen_any (g : Nat) (s : Bu) (t n : Int) (w : World) (h : Blk w g 70 s.rc) (hs : BuOk s) (hk : lookB s t n = 0) :
    Calls Tryd.prog 39 #[.pointer (some ⟨g, 0, none⟩), .int .i64 t, .int .i64 n] w fun e w' => e = .returned (.int .i64 (whenR s t n)) ∧ ∃ m, w' = w.drewN m := by
  obtain ⟨q1, q2, q3, q4, q5⟩ := lookB_ok hk
  have q6 := hs.a2
  have q7 := hs.b2
  have q71 := hs.b1
  obtain ⟨q8, q9⟩ := holds_range hs (show s.at_ ≤ t by omega)
  have q10 := hs.h1
  have r1 := hs.r1
  have r2 := hs.r2
  obtain ⟨hv, hhv⟩ : ∃ hv, hv = holdsB s t := ⟨_, rfl⟩
  have Hk := Lib.hid hk
  have Hhv := Lib.hid hhv
  rw [← hhv] at q8 q9
  have c0 : w.cell? ⟨g, 0, none⟩ = some (.int .i64 s.b) := h.cell 0
  have c1 : w.cell? ⟨g, 1, none⟩ = some (.int .i64 s.r) := h.cell 1
  have H := Lib.hid h
  clear hk hhv h
  by_cases hb : s.b < n
  · have Hw := Lib.hid (show whenR s t n = -1 by have e : whenB s t n = (4, 0) := by { unfold whenB; rw [if_neg (by rw [Hk.out]; simp), if_pos hb] }; unfold whenR; rw [e]; rfl)
    go_enter Tryd.func39, Tryd.ntmps39
    go_wp2_with fail
    go_ret
    exact ⟨by rw [Hw.out]; rfl, 0, rfl⟩
  · have hb2 : n ≤ s.b := by omega
    by_cases hl : 1000 * n - hv ≤ 0
    · have Hw := Lib.hid (show whenR s t n = t by have e : whenB s t n = (0, t) := by { unfold whenB; rw [if_neg (by rw [Hk.out]; simp), if_neg hb, if_pos (by rw [← Hhv.out]; exact hl)] }; unfold whenR; rw [e]; rfl)
      clear hb
      go_enter Tryd.func39, Tryd.ntmps39
      go_wp2_with fail
      refine (hasAt_any g s t _ H.out hs (by omega) q2).mono ?_
      rintro e w2 ⟨rfl, m, rfl⟩
      rw [← Hhv.out]
      go_wp2_with fail
      go_ret
      exact ⟨by rw [Hw.out]; rfl, m, rfl⟩
    · have hl2 : 0 < 1000 * n - hv := by omega
      by_cases hr : s.r = 0
      · have Hw := Lib.hid (show whenR s t n = -1 by have e : whenB s t n = (4, 0) := by { unfold whenB; rw [if_neg (by rw [Hk.out]; simp), if_neg hb, if_neg (by rw [← Hhv.out]; exact hl), if_pos hr] }; unfold whenR; rw [e]; rfl)
        rw [hr] at c1
        clear hb hl hr
        go_enter Tryd.func39, Tryd.ntmps39
        go_wp2_with fail
        refine (hasAt_any g s t _ H.out hs (by omega) q2).mono ?_
        rintro e w2 ⟨rfl, m, rfl⟩
        rw [← Hhv.out]
        go_wp2_with fail
        go_ret
        exact ⟨by rw [Hw.out]; rfl, m, rfl⟩
      · have hr2 : 0 < s.r := by omega
        have hr3 : (s.r == 0) = false := beq_eq_false_iff_ne.2 hr
        have hr4 : s.r ≠ 0 := hr
        have hce := ceil_div (l := 1000 * n - hv) hr2
        have d0 : 0 ≤ (1000 * n - hv) / s.r := Int.ediv_nonneg (by omega) (by omega)
        have d1 : (1000 * n - hv) / s.r ≤ (1000 * n - hv) := Int.ediv_le_self _ (by omega)
        have d2 : (1000 * n - hv) / s.r * s.r ≤ (1000 * n - hv) := Int.ediv_mul_le _ (by omega)
        have d3 : 0 ≤ (1000 * n - hv) / s.r * s.r := Int.mul_nonneg d0 (by omega)
        have hlk1 : (1000 * n - hv) ≤ 2000000 := by omega
        obtain ⟨D, hD⟩ : ∃ D, D = if (1000 * n - hv) / s.r * s.r < (1000 * n - hv) then (1000 * n - hv) / s.r + 1 else (1000 * n - hv) / s.r := ⟨_, rfl⟩
        have hwb : whenB s t n = if 1099511627776 < t + D then (4, 0) else (0, t + D) := by
          unfold whenB
          rw [if_neg (by rw [Hk.out]; simp), if_neg hb, if_neg (by rw [← Hhv.out]; exact hl), if_neg hr, ← Hhv.out, hce, ← hD]
        have lk2 : 0 < (1000 * n - hv) := by omega
        by_cases hx : (1000 * n - hv) / s.r * s.r < (1000 * n - hv)
        · rw [if_pos hx] at hD
          by_cases ht : 1099511627776 < t + D
          · have Hw := Lib.hid (show whenR s t n = -1 by unfold whenR; rw [hwb, if_pos ht]; rfl)
            rw [hD] at ht
            have ht' : 1099511627776 < t + ((1000 * n - hv) / s.r + 1) := ht
            clear hb hl hr hce hD hwb ht
            go_enter Tryd.func39, Tryd.ntmps39
            go_wp2_with fail
            refine (hasAt_any g s t _ H.out hs (by omega) q2).mono ?_
            rintro e w2 ⟨rfl, m, rfl⟩
            rw [← Hhv.out]
            go_wp2_with fail
            go_ret
            exact ⟨by rw [Hw.out]; rfl, m, rfl⟩
          · have Hw := Lib.hid (show whenR s t n = t + ((1000 * n - hv) / s.r + 1) by unfold whenR; rw [hwb, if_neg ht, hD]; rfl)
            rw [hD] at ht
            have ht' : t + ((1000 * n - hv) / s.r + 1) ≤ 1099511627776 := by omega
            clear hb hl hr hce hD hwb ht
            go_enter Tryd.func39, Tryd.ntmps39
            go_wp2_with fail
            refine (hasAt_any g s t _ H.out hs (by omega) q2).mono ?_
            rintro e w2 ⟨rfl, m, rfl⟩
            rw [← Hhv.out]
            go_wp2_with fail
            go_ret
            exact ⟨by rw [Hw.out]; rfl, m, rfl⟩
        · rw [if_neg hx] at hD
          have hx2 : (1000 * n - hv) ≤ (1000 * n - hv) / s.r * s.r := by omega
          by_cases ht : 1099511627776 < t + D
          · have Hw := Lib.hid (show whenR s t n = -1 by unfold whenR; rw [hwb, if_pos ht]; rfl)
            rw [hD] at ht
            have ht' : 1099511627776 < t + (1000 * n - hv) / s.r := ht
            clear hb hl hr hce hD hwb ht hx
            go_enter Tryd.func39, Tryd.ntmps39
            go_wp2_with fail
            refine (hasAt_any g s t _ H.out hs (by omega) q2).mono ?_
            rintro e w2 ⟨rfl, m, rfl⟩
            rw [← Hhv.out]
            go_wp2_with fail
            go_ret
            exact ⟨by rw [Hw.out]; rfl, m, rfl⟩
          · have Hw := Lib.hid (show whenR s t n = t + (1000 * n - hv) / s.r by unfold whenR; rw [hwb, if_neg ht, hD]; rfl)
            rw [hD] at ht
            have ht' : t + (1000 * n - hv) / s.r ≤ 1099511627776 := by omega
            clear hb hl hr hce hD hwb ht hx
            go_enter Tryd.func39, Tryd.ntmps39
            go_wp2_with fail
            refine (hasAt_any g s t _ H.out hs (by omega) q2).mono ?_
            rintro e w2 ⟨rfl, m, rfl⟩
            rw [← Hhv.out]
            go_wp2_with fail
            go_ret
            exact ⟨by rw [Hw.out]; rfl, m, rfl⟩
end Go.Proofs.YteeaipehkhldhaaDoor
