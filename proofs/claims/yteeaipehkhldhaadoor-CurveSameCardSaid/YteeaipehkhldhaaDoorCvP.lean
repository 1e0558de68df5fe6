/- Plain arithmetic of curves: the least of lines. No program. No condition. -/
import Derived.Test.YteeaipehkhldhaaDoorCv1
namespace Go.Proofs.YteeaipehkhldhaaDoor
theorem valFrom_le (t : Int) (l : List Ln) (n : Int) : valFrom t n l ≤ n ∧ ∀ x ∈ l, valFrom t n l ≤ lineAt x t := by
  induction l generalizing n with
  | nil => exact ⟨Int.le_refl _, by simp⟩
  | cons x r ih =>
    obtain ⟨h1, h2⟩ := ih (if lineAt x t < n then lineAt x t else n)
    have h3 : (if lineAt x t < n then lineAt x t else n) ≤ n := by split <;> omega
    have h4 : (if lineAt x t < n then lineAt x t else n) ≤ lineAt x t := by split <;> omega
    refine ⟨Int.le_trans h1 h3, fun y hy => ?_⟩
    rcases List.mem_cons.1 hy with rfl | hy
    · exact Int.le_trans h1 h4
    · exact h2 y hy
theorem valFrom_mem (t : Int) (l : List Ln) (n : Int) : valFrom t n l = n ∨ ∃ x ∈ l, valFrom t n l = lineAt x t := by
  induction l generalizing n with
  | nil => exact .inl rfl
  | cons x r ih =>
    rcases ih (if lineAt x t < n then lineAt x t else n) with h | ⟨y, hy, h⟩
    · by_cases hc : lineAt x t < n
      · rw [if_pos hc] at h
        exact .inr ⟨x, List.mem_cons_self, by show valFrom t (if lineAt x t < n then lineAt x t else n) r = _; rw [if_pos hc]; exact h⟩
      · rw [if_neg hc] at h
        exact .inl (by show valFrom t (if lineAt x t < n then lineAt x t else n) r = _; rw [if_neg hc]; exact h)
    · exact .inr ⟨y, List.mem_cons_of_mem _ hy, h⟩
theorem valueL_le {l : List Ln} {x : Ln} (hx : x ∈ l) (t : Int) : valueL l t ≤ lineAt x t := by
  cases l with
  | nil => cases hx
  | cons y r => exact (valFrom_le t (y :: r) _).2 x hx
theorem valueL_mem {l : List Ln} (h0 : 0 < l.length) (t : Int) : ∃ x ∈ l, valueL l t = lineAt x t := by
  cases l with
  | nil => simp at h0
  | cons y r =>
    rcases valFrom_mem t (y :: r) (lineAt y t) with h | h
    · exact ⟨y, List.mem_cons_self, h⟩
    · exact h
theorem lineAt_mono {x : Ln} (h : okLn x) {s t : Int} (hst : s ≤ t) : lineAt x s ≤ lineAt x t := by
  unfold lineAt
  have := Int.ediv_le_ediv (by omega : (0:Int) < 1000) (Int.mul_le_mul_of_nonneg_left hst h.2.2.1)
  omega
theorem lineAt_pos {x : Ln} (h : okLn x) {t : Int} (ht : 0 ≤ t) : 1 ≤ lineAt x t := by
  unfold lineAt
  have h1 := Int.mul_nonneg h.2.2.1 ht
  have := h.1
  omega
theorem valueL_mono {l : List Ln} (h0 : 0 < l.length) (hok : ∀ x ∈ l, okLn x) {s t : Int} (hst : s ≤ t) : valueL l s ≤ valueL l t := by
  obtain ⟨x, hx, e⟩ := valueL_mem h0 t
  rw [e]
  exact Int.le_trans (valueL_le hx s) (lineAt_mono (hok x hx) hst)
theorem valueL_pos {l : List Ln} (h0 : 0 < l.length) (hok : ∀ x ∈ l, okLn x) {t : Int} (ht : 0 ≤ t) : 1 ≤ valueL l t := by
  obtain ⟨x, hx, e⟩ := valueL_mem h0 t
  rw [e]
  exact lineAt_pos (hok x hx) ht
theorem valueL_top {l : List Ln} (h0 : 0 < l.length) (hok : ∀ x ∈ l, okLn x) {t : Int} (ht : 0 ≤ t) (ht1 : t ≤ 1099511627776) : valueL l t ≤ 109951162797600 := by
  obtain ⟨x, hx, e⟩ := valueL_mem h0 t
  rw [e]
  have := okLn_mul (hok x hx) ht ht1
  have := (hok x hx).2.1
  unfold lineAt
  omega
theorem valueL_concave {l : List Ln} (h0 : 0 < l.length) (t : Int) : valueL l (t + 2) - valueL l (t + 1) ≤ valueL l (t + 1) - valueL l t + 1 := by
  obtain ⟨x, hx, e⟩ := valueL_mem h0 (t + 1)
  have h1 := valueL_le hx (t + 2)
  have h2 := valueL_le hx t
  rw [e]
  unfold lineAt at *
  have e1 : x.r * (t + 2) = x.r * t + 2 * x.r := by rw [Int.mul_add]; omega
  have e2 : x.r * (t + 1) = x.r * t + x.r := by rw [Int.mul_add]; omega
  rw [e1] at h1
  rw [e2] at *
  omega
theorem valueL_more {l : List Ln} (h0 : 0 < l.length) (x : Ln) (t : Int) : valueL (l ++ [x]) t ≤ valueL l t := by
  obtain ⟨y, hy, e⟩ := valueL_mem h0 t
  rw [e]
  exact valueL_le (List.mem_append_left _ hy) t
theorem badIdx_ok {l : List Ln} (h : ∀ x ∈ l, okLn x) (k : Nat) : badIdx l k = -1 := by
  induction l generalizing k with
  | nil => rfl
  | cons x r ih =>
    have hx : lineB x.b x.r = true := decide_eq_true (h x List.mem_cons_self)
    unfold badIdx
    rw [if_pos hx]
    exact ih (fun y hy => h y (List.mem_cons_of_mem _ hy)) _
theorem crvErr_of {l : List Ln} (h1 : 1 ≤ l.length) (h2 : l.length ≤ 6) (h : ∀ x ∈ l, okLn x) : crvErr l = (0, -1) := by
  unfold crvErr
  rw [if_neg (by omega), if_pos (badIdx_ok h 0)]
theorem atErr_of {l : List Ln} {t : Int} (h : (crvErr l).1 = 0) (h0 : 0 ≤ t) (h1 : t ≤ 1099511627776) : atErr l t = (0, -1) := by
  unfold atErr
  rw [if_neg (by omega), if_neg (by omega)]
theorem atErr_bad {l : List Ln} {t : Int} (h : (crvErr l).1 ≠ 0) : (atErr l t).1 ≠ 0 := by
  unfold atErr
  rw [if_pos h]
  exact h
theorem atVal_of {l : List Ln} {t : Int} (h : (crvErr l).1 = 0) (h0 : 0 ≤ t) (h1 : t ≤ 1099511627776) : atVal l t = valueL l t := by
  unfold atVal
  rw [atErr_of h h0 h1]
  rfl
theorem atVal_bad {l : List Ln} {t : Int} (h : (crvErr l).1 ≠ 0) : atVal l t = 0 := by
  unfold atVal
  rw [if_neg (atErr_bad h)]
end Go.Proofs.YteeaipehkhldhaaDoor
