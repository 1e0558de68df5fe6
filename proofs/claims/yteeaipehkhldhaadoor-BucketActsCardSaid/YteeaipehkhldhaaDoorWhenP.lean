/- What a bucket holds, and when, plainly. No program. No condition. -/
import Derived.Test.YteeaipehkhldhaaDoorBk2
namespace Go.Proofs.YteeaipehkhldhaaDoor
theorem holds_min {s : Bu} (h : BuOk s) {t : Int} (ht : s.at_ ≤ t) : holdsB s t = if 1000 * s.b < s.has + s.r * (t - s.at_) then 1000 * s.b else s.has + s.r * (t - s.at_) := by
  unfold holdsB
  by_cases hf : 0 < s.r ∧ (1000 * s.b - s.has) / s.r < t - s.at_
  · rw [if_pos hf]
    have h1 : (1000 * s.b - s.has) / s.r + 1 ≤ t - s.at_ := hf.2
    have h2 := Int.mul_le_mul_of_nonneg_left h1 (Int.le_of_lt hf.1)
    have h3 := Int.lt_mul_ediv_self_add (x := 1000 * s.b - s.has) hf.1
    rw [Int.mul_add, Int.mul_one] at h2
    rw [if_pos (by omega)]
  · rw [if_neg hf]
    have := holds_slack h ht hf
    rw [if_neg (by omega)]
theorem holds_now {s : Bu} (h : BuOk s) : holdsB s s.at_ = s.has := by
  rw [holds_min h (Int.le_refl _)]
  have := h.h2
  simp
  omega
theorem when_ok {s : Bu} (h : BuOk s) {t n T : Int} (hw : whenB s t n = (0, T)) :
    lookB s t n = 0 ∧ t ≤ T ∧ T ≤ 1099511627776 ∧ 1000 * n ≤ holdsB s T ∧ (t < T → holdsB s (T - 1) < 1000 * n) := by
  unfold whenB at hw
  by_cases hk : lookB s t n ≠ 0
  · rw [if_pos hk] at hw
    exact absurd (congrArg Prod.fst hw) hk
  · rw [if_neg hk] at hw
    have hk0 : lookB s t n = 0 := by omega
    obtain ⟨q1, q2, q3, q4, q5⟩ := lookB_ok hk0
    have q6 := h.a2
    by_cases hb : s.b < n
    · rw [if_pos hb] at hw; simp at hw
    · rw [if_neg hb] at hw
      by_cases hl : 1000 * n - holdsB s t ≤ 0
      · rw [if_pos hl] at hw
        obtain rfl : t = T := congrArg Prod.snd hw
        exact ⟨hk0, Int.le_refl _, q2, by omega, fun h9 => absurd h9 (Int.lt_irrefl _)⟩
      · rw [if_neg hl] at hw
        by_cases hr : s.r = 0
        · rw [if_pos hr] at hw; simp at hw
        · rw [if_neg hr] at hw
          have r1 := h.r1
          have hr2 : 0 < s.r := by omega
          by_cases hT : 1099511627776 < t + (1000 * n - holdsB s t + s.r - 1) / s.r
          · rw [if_pos hT] at hw; simp at hw
          · rw [if_neg hT] at hw
            obtain rfl : t + (1000 * n - holdsB s t + s.r - 1) / s.r = T := congrArg Prod.snd hw
            have e1 := holds_min h (show s.at_ ≤ t by omega)
            have e2 : holdsB s t = s.has + s.r * (t - s.at_) := by
              rw [e1]
              split
              · rename_i h9
                rw [if_pos h9] at e1
                omega
              · rfl
            obtain ⟨q, hq⟩ : ∃ q, q = (1000 * n - holdsB s t + s.r - 1) / s.r := ⟨_, rfl⟩
            have h3 := Int.mul_ediv_self_le (x := 1000 * n - holdsB s t + s.r - 1) (k := s.r) (by omega)
            have h4 := Int.lt_mul_ediv_self_add (x := 1000 * n - holdsB s t + s.r - 1) hr2
            rw [← hq] at h3 h4 hT ⊢
            have hq0 : 0 ≤ q := by rw [hq]; exact Int.ediv_nonneg (by omega) (by omega)
            have m1 : s.r * (t + q - s.at_) = s.r * (t - s.at_) + s.r * q := by rw [← Int.mul_add]; congr 1; omega
            have m2 : s.r * (t + q - 1 - s.at_) = s.r * (t - s.at_) + s.r * q - s.r := by
              have : s.r * (t + q - 1 - s.at_) = s.r * (t - s.at_) + s.r * (q - 1) := by rw [← Int.mul_add]; congr 1; omega
              have h9 : s.r * (q - 1) = s.r * q - s.r := by rw [Int.mul_sub, Int.mul_one]
              rw [this, h9]; omega
            refine ⟨hk0, by omega, by omega, ?_, fun h9 => ?_⟩
            · rw [holds_min h (by omega), m1]
              split <;> omega
            · rw [holds_min h (by omega), m2]
              split <;> omega
theorem when_err {s : Bu} {t n : Int} (h : (whenB s t n).1 ≠ 0) : (whenB s t n).2 = 0 := by
  unfold whenB at h ⊢
  by_cases hk : lookB s t n ≠ 0
  · rw [if_pos hk]
  · rw [if_neg hk] at h ⊢
    by_cases hb : s.b < n
    · rw [if_pos hb]
    · rw [if_neg hb] at h ⊢
      by_cases hl : 1000 * n - holdsB s t ≤ 0
      · rw [if_pos hl] at h; simp at h
      · rw [if_neg hl] at h ⊢
        by_cases hr : s.r = 0
        · rw [if_pos hr]
        · rw [if_neg hr] at h ⊢
          by_cases hT : 1099511627776 < t + (1000 * n - holdsB s t + s.r - 1) / s.r
          · rw [if_pos hT]
          · rw [if_neg hT] at h; simp at h
/-- Behind Take at the tick that is told. -/
theorem took_when {s : Bu} (h : BuOk s) {t n T : Int} (hw : whenB s t n = (0, T)) :
    lookB s T n = 0 ∧ lookB s T 1 = 0 ∧ (t < T → lookB s (T - 1) 1 = 0) ∧ takeB s T n = true ∧ lookB (tookB s T n) T 1 = 0 ∧ holdsB (tookB s T n) T = holdsB s T - 1000 * n ∧ hasV s T = holdsB s T ∧ (t < T → hasV s (T - 1) = holdsB s (T - 1)) ∧ hasV (tookB s T n) T = holdsB s T - 1000 * n := by
  obtain ⟨hk0, h1, h2, h3, h4⟩ := when_ok h hw
  obtain ⟨q1, q2, q3, q4, q5⟩ := lookB_ok hk0
  have l1 : lookB s T n = 0 := by unfold lookB; rw [if_neg (by omega), if_neg (by omega)]
  have l2 : lookB s T 1 = 0 := by unfold lookB; rw [if_neg (by omega), if_neg (by omega)]
  have l3 : t < T → lookB s (T - 1) 1 = 0 := fun h9 => by unfold lookB; rw [if_neg (by omega), if_neg (by omega)]
  have e : tookB s T n = ⟨s.b, s.r, T, holdsB s T - 1000 * n, T⟩ := by unfold tookB; rw [if_neg (by omega), if_neg (by omega)]
  have hok := tookB_ok h T n
  have l4 : lookB (tookB s T n) T 1 = 0 := by rw [e]; unfold lookB; simp only; rw [if_neg (by omega), if_neg (by omega)]
  have e2 : holdsB (tookB s T n) T = holdsB s T - 1000 * n := by
    have := holds_now hok
    rw [e] at this ⊢
    exact this
  exact ⟨l1, l2, l3, decide_eq_true ⟨l1, h3⟩, l4, e2, if_pos l2, fun h9 => if_pos (l3 h9), (if_pos l4).trans e2⟩
end Go.Proofs.YteeaipehkhldhaaDoor
