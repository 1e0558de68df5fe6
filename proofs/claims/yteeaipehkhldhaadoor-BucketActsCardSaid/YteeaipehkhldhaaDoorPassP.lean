/- What a bucket passes, packet by packet, fits its line; one that it does not pass would not fit behind them: plainly. No program. No condition. -/
import Derived.Test.YteeaipehkhldhaaDoorFits
namespace Go.Proofs.YteeaipehkhldhaaDoor
def sumS : List Pk → Int
  | [] => 0
  | x :: r => x.s + sumS r
/-- So many bytes more at a tick fit behind those, window by window. -/
def winOk (l : Ln) (t n : Int) : List Pk → Prop
  | [] => True
  | x :: r => sumS (x :: r) + n ≤ lineAt l (t - x.a) ∧ winOk l t n r
theorem valueL_one (l : Ln) (t : Int) : valueL [l] t = lineAt l t := by
  show valFrom t (lineAt l t) [l] = _
  simp [valFrom]
theorem fitsGo_app (ls : List Ln) (ai : Int) (n : Int) (q : List Pk) (x : Pk) : fitsGo ls ai n (q ++ [x]) = (fitsGo ls ai n q && decide (n + sumS q + x.s ≤ valueL ls (x.a - ai))) := by
  induction q generalizing n with
  | nil =>
    show (if valueL ls (x.a - ai) < n + x.s then false else true) = _
    unfold fitsGo sumS
    by_cases h : valueL ls (x.a - ai) < n + x.s
    · rw [if_pos h, decide_eq_false (by omega)]; rfl
    · rw [if_neg h, decide_eq_true (by omega)]; rfl
  | cons y r ih =>
    rw [List.cons_append]
    unfold fitsGo
    by_cases h : valueL ls (y.a - ai) < n + y.s
    · rw [if_pos h, if_pos h]; rfl
    · rw [if_neg h, if_neg h, ih]
      have e : n + y.s + sumS r + x.s = n + sumS (y :: r) + x.s := by show _ = n + (y.s + sumS r) + x.s; omega
      rw [e]
theorem fitsL_app (l : Ln) (q : List Pk) (x : Pk) : fitsL [l] (q ++ [x]) = true ↔ fitsL [l] q = true ∧ winOk l x.a x.s q ∧ x.s ≤ l.b := by
  induction q with
  | nil =>
    show (if fitsGo [l] x.a 0 [x] then fitsL [l] [] else false) = true ↔ _
    have e : fitsGo [l] x.a 0 [x] = decide (x.s ≤ l.b) := by
      show (if valueL [l] (x.a - x.a) < 0 + x.s then false else true) = _
      rw [valueL_one]
      unfold lineAt
      rw [Int.sub_self, Int.mul_zero, Int.zero_ediv]
      by_cases h : x.s ≤ l.b
      · rw [if_neg (by omega), decide_eq_true h]
      · rw [if_pos (by omega), decide_eq_false h]
    rw [e]
    by_cases h : x.s ≤ l.b
    · rw [decide_eq_true h]; simp [fitsL, winOk, h]
    · rw [decide_eq_false h]; simp [h]
  | cons y r ih =>
    have e := fitsGo_app [l] y.a 0 (y :: r) x
    rw [List.cons_append] at e ⊢
    show (if fitsGo [l] y.a 0 (y :: (r ++ [x])) then fitsL [l] (r ++ [x]) else false) = true ↔ (if fitsGo [l] y.a 0 (y :: r) then fitsL [l] r else false) = true ∧ (sumS (y :: r) + x.s ≤ lineAt l (x.a - y.a) ∧ winOk l x.a x.s r) ∧ x.s ≤ l.b
    rw [e, valueL_one]
    by_cases h1 : fitsGo [l] y.a 0 (y :: r) = true
    · rw [h1, Bool.true_and]
      by_cases h2 : 0 + sumS (y :: r) + x.s ≤ lineAt l (x.a - y.a)
      · rw [decide_eq_true h2, if_pos rfl, if_pos rfl, ih]
        have : sumS (y :: r) + x.s ≤ lineAt l (x.a - y.a) := by omega
        simp only [this, true_and]
      · rw [decide_eq_false h2]
        have : ¬ sumS (y :: r) + x.s ≤ lineAt l (x.a - y.a) := by omega
        simp [this]
    · simp [h1]
theorem winOk_app (l : Ln) (t n : Int) (q : List Pk) (x : Pk) : winOk l t n (q ++ [x]) ↔ winOk l t (x.s + n) q ∧ x.s + n ≤ lineAt l (t - x.a) := by
  induction q with
  | nil =>
    show (x.s + 0 + n ≤ _ ∧ True) ↔ True ∧ _
    rw [show x.s + 0 + n = x.s + n by omega]
    simp
  | cons y r ih =>
    have e : sumS (y :: (r ++ [x])) + n = sumS (y :: r) + (x.s + n) := by
      have : ∀ r : List Pk, sumS (r ++ [x]) = sumS r + x.s := fun r => by
        induction r with
        | nil => show x.s + 0 = 0 + x.s; omega
        | cons z r ih => show z.s + sumS (r ++ [x]) = z.s + sumS r + x.s; rw [ih]; omega
      show y.s + sumS (r ++ [x]) + n = y.s + sumS r + (x.s + n)
      rw [this]; omega
    show (sumS (y :: (r ++ [x])) + n ≤ lineAt l (t - y.a) ∧ winOk l t n (r ++ [x])) ↔ (sumS (y :: r) + (x.s + n) ≤ lineAt l (t - y.a) ∧ winOk l t (x.s + n) r) ∧ _
    rw [e, ih, and_assoc]
theorem line_le {l : Ln} {m d : Int} : m ≤ lineAt l d ↔ 1000 * m ≤ 1000 * l.b + l.r * d := by
  unfold lineAt
  generalize l.r * d = y
  omega
/-- A bucket's state behind those that it passed. -/
def PassJ (l : Ln) (q : List Pk) (s : Bu) : Prop := s.b = l.b ∧ s.r = l.r ∧ ((q = [] ∧ s.has = 1000 * s.b) ∨ ∀ t n : Int, s.at_ ≤ t → (1000 * n ≤ s.has + s.r * (t - s.at_) ↔ winOk l t n q))
theorem pass_fits {l : Ln} {q : List Pk} {s : Bu} (hs : BuOk s) (hj : PassJ l q s) {t n : Int} (ht : s.at_ ≤ t) : 1000 * n ≤ holdsB s t ↔ winOk l t n q ∧ n ≤ l.b := by
  obtain ⟨e1, e2, hj⟩ := hj
  rw [holds_min hs ht]
  rcases hj with ⟨rfl, h1⟩ | h1
  · have m := Int.mul_nonneg hs.r1 (show 0 ≤ t - s.at_ by omega)
    generalize s.r * (t - s.at_) = y at m ⊢
    simp only [winOk, true_and]
    split <;> omega
  · rw [← h1 t n ht]
    generalize s.r * (t - s.at_) = y
    split <;> omega
theorem pass_step {l : Ln} {q : List Pk} {s : Bu} {x : Pk} (hs : BuOk s) (hj : PassJ l q s) (ht : s.at_ ≤ x.a) (hl : lookB s x.a x.s = 0) :
    PassJ l (if takeB s x.a x.s then q ++ [x] else q) (tookB s x.a x.s) := by
  have hline := took_line s x.a x.s
  unfold takeB
  by_cases hc : 1000 * x.s ≤ holdsB s x.a
  · rw [decide_eq_true ⟨hl, hc⟩, if_pos rfl]
    have e : tookB s x.a x.s = ⟨s.b, s.r, x.a, holdsB s x.a - 1000 * x.s, x.a⟩ := by unfold tookB; rw [if_neg (by omega), if_neg (by omega)]
    rw [e]
    refine ⟨hj.1, hj.2.1, .inr fun t n htt => ?_⟩
    simp only at htt ⊢
    rw [winOk_app, line_le]
    have hmin := holds_min hs ht
    obtain ⟨e1, e2, hj⟩ := hj
    rw [← e1, ← e2]
    have hd : s.r * (t - s.at_) = s.r * (x.a - s.at_) + s.r * (t - x.a) := by rw [← Int.mul_add]; congr 1; omega
    rcases hj with ⟨rfl, h1⟩ | h1
    · have m := Int.mul_nonneg hs.r1 (show 0 ≤ x.a - s.at_ by omega)
      simp only [winOk, true_and]
      rw [hmin, h1]
      generalize s.r * (x.a - s.at_) = y at m ⊢
      generalize s.r * (t - x.a) = z
      split <;> omega
    · rw [← h1 t (x.s + n) (by omega), hd, hmin]
      generalize s.r * (x.a - s.at_) = y
      generalize s.r * (t - x.a) = z
      split <;> omega
  · rw [decide_eq_false (fun h => hc h.2)]
    have e : tookB s x.a x.s = { s with last := x.a } := by unfold tookB; rw [if_neg (by omega), if_pos (by omega)]
    rw [e]
    exact hj
theorem pass_new (l : Ln) : PassJ l [] (newB l) := ⟨rfl, rfl, .inl ⟨rfl, rfl⟩⟩
/-- What is asked of the packets that passed. -/
theorem pass_tells {l : Ln} {q : List Pk} {s : Bu} {x : Pk} (hs : BuOk s) (hj : PassJ l q s) (hq : fitsL [l] q = true) (ht : s.at_ ≤ x.a) (hl : lookB s x.a x.s = 0) : fitsL [l] (q ++ [x]) = takeB s x.a x.s := by
  rw [Bool.eq_iff_iff, fitsL_app, ← pass_fits hs hj ht]
  unfold takeB
  rw [decide_eq_true_iff]
  simp [hq, hl]
end Go.Proofs.YteeaipehkhldhaaDoor
