/- Plain arithmetic of a curve's delay at a link, and of its busy ticks. No program. No condition. Plain arithmetic of a curve's busy ticks at a link. No program. No condition. -/
import Derived.Test.YtoomffajodheaaaGreatDoorQCvM
set_option linter.all false
namespace Go.Proofs.YtoomffajodheaaaGreatDoor
def ceilT (y : Int) (x : Ln) : Int := (1000 * (y - x.b) + x.r - 1) / x.r
def mostT (y : Int) : Int → List Ln → Int
  | t, [] => t
  | t, x :: r => mostT y (if x.b < y then max t (ceilT y x) else t) r
def mostL (l : List Ln) (per y : Int) : Int := per * y - mostT y 0 l
theorem mostT_le (y : Int) (l : List Ln) (t T : Int) : mostT y t l ≤ T ↔ t ≤ T ∧ ∀ x ∈ l, x.b < y → ceilT y x ≤ T := by
  induction l generalizing t with
  | nil => simp [mostT]
  | cons x r ih =>
    rw [mostT, ih]
    by_cases hx : x.b < y
    · rw [if_pos hx]
      constructor
      · rintro ⟨h1, h2⟩
        refine ⟨by omega, fun z hz hb => ?_⟩
        rcases List.mem_cons.1 hz with rfl | hz
        · omega
        · exact h2 z hz hb
      · rintro ⟨h1, h2⟩
        have := h2 x List.mem_cons_self hx
        exact ⟨by omega, fun z hz hb => h2 z (List.mem_cons_of_mem _ hz) hb⟩
    · rw [if_neg hx]
      constructor
      · rintro ⟨h1, h2⟩
        refine ⟨h1, fun z hz hb => ?_⟩
        rcases List.mem_cons.1 hz with rfl | hz
        · exact absurd hb hx
        · exact h2 z hz hb
      · rintro ⟨h1, h2⟩
        exact ⟨h1, fun z hz hb => h2 z (List.mem_cons_of_mem _ hz) hb⟩
theorem mostT_ge0 (y : Int) (l : List Ln) : 0 ≤ mostT y 0 l := ((mostT_le y l 0 _).1 (Int.le_refl _)).1
theorem mostT_in {y : Int} {l : List Ln} {x : Ln} (hx : x ∈ l) (hb : x.b < y) : ceilT y x ≤ mostT y 0 l := ((mostT_le y l 0 _).1 (Int.le_refl _)).2 x hx hb
theorem mostT_app (y : Int) (a b : List Ln) : mostT y 0 (a ++ b) = max (mostT y 0 a) (mostT y 0 b) := by
  have h1 : mostT y 0 (a ++ b) ≤ max (mostT y 0 a) (mostT y 0 b) := (mostT_le _ _ _ _).2 ⟨by have := mostT_ge0 y a; omega, fun x hx hb => by
    rcases List.mem_append.1 hx with h | h
    · have := mostT_in h hb; omega
    · have := mostT_in h hb; omega⟩
  have h2 : mostT y 0 a ≤ mostT y 0 (a ++ b) := (mostT_le _ _ _ _).2 ⟨mostT_ge0 _ _, fun x hx hb => mostT_in (List.mem_append_left _ hx) hb⟩
  have h3 : mostT y 0 b ≤ mostT y 0 (a ++ b) := (mostT_le _ _ _ _).2 ⟨mostT_ge0 _ _, fun x hx hb => mostT_in (List.mem_append_right _ hx) hb⟩
  omega
theorem ceilT_le {x : Ln} (hr : 0 < x.r) (y T : Int) : ceilT y x ≤ T ↔ 1000 * (y - x.b) ≤ x.r * T := by
  unfold ceilT
  rw [← Int.lt_add_one_iff, Int.ediv_lt_iff_lt_mul hr, Int.add_mul, Int.mul_comm T]
  omega
theorem lineAt_ge (x : Ln) (y T : Int) : y ≤ lineAt x T ↔ 1000 * (y - x.b) ≤ x.r * T := by
  unfold lineAt
  have := Int.le_ediv_iff_mul_le (a := y - x.b) (b := x.r * T) (show (0:Int) < 1000 by omega)
  omega
def steepL (per : Int) (l : List Ln) : List Ln := l.filter fun x => decide (1000 < x.r * per)
def flatL (per : Int) (l : List Ln) : List Ln := l.filter fun x => decide (0 < x.r ∧ x.r * per ≤ 1000)
def reachF : Int → List Ln → Int
  | t, [] => t
  | t, x :: r => reachF (if x.r = 0 ∧ (t = 0 ∨ x.b < t) then x.b else t) r
def topF : Int → List Ln → Int
  | t, [] => t
  | t, x :: r => topF (if t = 0 ∨ x.b < t then x.b else t) r
theorem topF_spec (l : List Ln) (hb : ∀ x ∈ l, 1 ≤ x.b) (t : Int) (ht : 0 ≤ t) : 0 ≤ topF t l ∧ (topF t l = 0 ↔ t = 0 ∧ l = []) ∧ (0 < t → topF t l ≤ t) ∧ (∀ x ∈ l, topF t l ≤ x.b) ∧ (topF t l = t ∨ ∃ x ∈ l, topF t l = x.b) := by
  induction l generalizing t with
  | nil => simp [topF, ht]
  | cons x r ih =>
    rw [topF]
    have hx := hb x List.mem_cons_self
    obtain ⟨i1, i2, i3, i4, i5⟩ := ih (fun z hz => hb z (List.mem_cons_of_mem _ hz)) (if t = 0 ∨ x.b < t then x.b else t) (by split <;> omega)
    refine ⟨i1, ⟨fun h => ?_, fun h => by cases h.2⟩, fun h => ?_, fun z hz => ?_, ?_⟩
    · have := i2.1 h
      by_cases hc : t = 0 ∨ x.b < t
      · rw [if_pos hc] at this; omega
      · rw [if_neg hc] at this; omega
    · by_cases hc : t = 0 ∨ x.b < t
      · rw [if_pos hc] at i3 ⊢
        have := i3 (by omega)
        omega
      · rw [if_neg hc] at i3 ⊢
        exact i3 h
    · rcases List.mem_cons.1 hz with rfl | hz
      · by_cases hc : t = 0 ∨ z.b < t
        · rw [if_pos hc] at i3 ⊢
          exact i3 (by omega)
        · rw [if_neg hc] at i3 ⊢
          have := i3 (by omega)
          omega
      · exact i4 z hz
    · rcases i5 with h | ⟨z, hz, h⟩
      · by_cases hc : t = 0 ∨ x.b < t
        · rw [if_pos hc] at h ⊢
          exact .inr ⟨x, List.mem_cons_self, h⟩
        · rw [if_neg hc] at h ⊢
          exact .inl h
      · exact .inr ⟨z, List.mem_cons_of_mem _ hz, h⟩
theorem reachF_top (l : List Ln) (t : Int) : reachF t l = topF t (l.filter fun x => decide (x.r = 0)) := by
  induction l generalizing t with
  | nil => rfl
  | cons x r ih =>
    by_cases hx : x.r = 0
    · have e : (x :: r).filter (fun x => decide (x.r = 0)) = x :: r.filter fun x => decide (x.r = 0) := List.filter_cons_of_pos (by simpa using hx)
      rw [e, reachF, topF, ih]
      simp only [hx, true_and]
    · have e : (x :: r).filter (fun x => decide (x.r = 0)) = r.filter fun x => decide (x.r = 0) := List.filter_cons_of_neg (by simpa using hx)
      rw [e, reachF, ih, if_neg (fun h => hx h.1)]
def dTop (per : Int) (l : List Ln) : Int := if 0 < reachF 0 l ∧ (topF 0 (flatL per l) = 0 ∨ reachF 0 l < topF 0 (flatL per l)) then reachF 0 l else topF 0 (flatL per l)
def dReach (l : List Ln) : Int := if reachF 0 l = 0 then 35184372088832 else reachF 0 l
def dP (per : Int) (l : List Ln) (i : Nat) : Bool := decide (mostL (flatL per l) per (dTop per l + i) ≤ mostL (steepL per l) per (dTop per l + i))
def dN (per : Int) (l : List Ln) : Nat := (List.range (dReach l - dTop per l).toNat).countP fun i => !dP per l i
def dAll (per : Int) (l : List Ln) (y : Int) : Int := mostL (steepL per l ++ flatL per l) per y
def dBest (per : Int) (l : List Ln) : Int := if 0 < dN per l then max (dAll per l (dTop per l + dN per l)) (dAll per l (dTop per l + dN per l - 1)) else dAll per l (dTop per l + dN per l)
theorem count_mono (p : Nat → Bool) (N : Nat) (hm : ∀ i, i + 1 < N → p i = true → p (i + 1) = true) (n : Nat) (hn : n = (List.range N).countP fun i => !p i) : n ≤ N ∧ (∀ i, i < n → p i = false) ∧ ∀ i, n ≤ i → i < N → p i = true := by
  subst hn
  induction N with
  | zero => exact ⟨by simp, fun i h => by simp at h, fun i _ h => by omega⟩
  | succ N ih =>
    obtain ⟨h1, h2, h3⟩ := ih (fun i hi => hm i (by omega))
    rw [List.range_succ, List.countP_append]
    generalize (List.range N).countP (fun i => !p i) = n at *
    cases hp : p N with
    | true =>
      have e : List.countP (fun i => !p i) [N] = 0 := by simp [hp]
      rw [e]
      refine ⟨by omega, fun i hi => h2 i (by omega), fun i hi hl => ?_⟩
      by_cases hiN : i = N
      · subst hiN; exact hp
      · exact h3 i (by omega) (by omega)
    | false =>
      have e : List.countP (fun i => !p i) [N] = 1 := by simp [hp]
      rw [e]
      have hnN : n = N := by
        by_cases h : n < N
        · have := hm (N - 1) (by omega) (h3 (N - 1) (by omega) (by omega))
          rw [show N - 1 + 1 = N by omega, hp] at this
          cases this
        · omega
      subst hnN
      refine ⟨by omega, fun i hi => ?_, fun i hi hl => by omega⟩
      by_cases hiN : i = n
      · subst hiN; exact hp
      · exact h2 i (by omega)
/-- The peak of the lesser one of two: one rises, the other one falls from top on. -/
theorem peak {S F : Int → Int} {top reach : Int} (hr : top ≤ reach) (hS : ∀ y, S y ≤ S (y + 1)) (hF : ∀ y, top ≤ y → y < reach → F (y + 1) ≤ F y) (hF0 : ∀ y, y ≤ top → F y ≤ F top) (n : Nat) (hn : n = (List.range (reach - top).toNat).countP fun i => !decide (F (top + (i : Nat)) ≤ S (top + (i : Nat)))) :
    (top + n ≤ reach ∧ ∀ y, y ≤ reach → min (S y) (F y) ≤ if 0 < n then max (min (S (top + n)) (F (top + n))) (min (S (top + n - 1)) (F (top + n - 1))) else min (S (top + n)) (F (top + n))) ∧ (0 < n → S (top + n - 1) < F (top + n - 1)) := by
  have hSm : ∀ (d : Nat) (y : Int), S y ≤ S (y + d) := fun d => by
    induction d with
    | zero => intro y; simp
    | succ d ih => intro y; have := ih y; have := hS (y + d); rw [show y + ((d + 1 : Nat) : Int) = y + d + 1 by omega]; omega
  have hSm' : ∀ y z : Int, y ≤ z → S y ≤ S z := fun y z h => by have := hSm (z - y).toNat y; rwa [show y + ((z - y).toNat : Int) = z by omega] at this
  have hFm : ∀ (d : Nat) (y : Int), top ≤ y → y + d ≤ reach → F (y + d) ≤ F y := fun d => by
    induction d with
    | zero => intro y _ _; simp
    | succ d ih => intro y hy hd; have := ih y hy (by omega); have := hF (y + d) (by omega) (by omega); rw [show y + ((d + 1 : Nat) : Int) = y + d + 1 by omega]; omega
  have hFm' : ∀ y z : Int, top ≤ y → y ≤ z → z ≤ reach → F z ≤ F y := fun y z h1 h h2 => by have := hFm (z - y).toNat y h1 (by omega); rwa [show y + ((z - y).toNat : Int) = z by omega] at this
  obtain ⟨h1, h2, h3⟩ := count_mono (fun i => decide (F (top + (i : Nat)) ≤ S (top + (i : Nat)))) (reach - top).toNat (fun i _ hi => by
    have hi := of_decide_eq_true hi
    apply decide_eq_true
    have a := hF (top + i) (by omega) (by omega)
    have b := hS (top + i)
    rw [show top + ((i + 1 : Nat) : Int) = top + i + 1 by omega]
    omega) n hn
  have hlast : 0 < n → S (top + n - 1) < F (top + n - 1) := fun h0 => by
    have := of_decide_eq_false (h2 (n - 1) (by omega))
    rw [show top + ((n - 1 : Nat) : Int) = top + n - 1 by omega] at this
    omega
  refine ⟨⟨by omega, fun y hy => ?_⟩, hlast⟩
  have key : min (S y) (F y) ≤ min (S (top + n)) (F (top + n)) ∨ (0 < n ∧ min (S y) (F y) ≤ min (S (top + n - 1)) (F (top + n - 1))) := by
    by_cases hyt : y < top + n
    · by_cases h0 : 0 < n
      · refine .inr ⟨h0, ?_⟩
        have := hlast h0
        have := hSm' y (top + n - 1) (by omega)
        omega
      · have := hSm' y (top + n) (by omega)
        have := hF0 y (by omega)
        rw [show top + (n : Int) = top by omega] at *
        exact .inl (by omega)
    · left
      by_cases hyr : top + n < reach
      · have h4 := of_decide_eq_true (h3 n (Nat.le_refl _) (by omega))
        have := hFm' (top + n) y (by omega) (by omega) hy
        omega
      · rw [show y = top + n by omega]
        omega
  by_cases h0 : 0 < n
  · rw [if_pos h0]
    rcases key with h | ⟨_, h⟩ <;> omega
  · rw [if_neg h0]
    rcases key with h | ⟨h, _⟩ <;> omega
section
variable {l : List Ln} {per : Int}
theorem mem_steep {x : Ln} : x ∈ steepL per l ↔ x ∈ l ∧ 1000 < x.r * per := by unfold steepL; rw [List.mem_filter, decide_eq_true_iff]
theorem mem_flat {x : Ln} : x ∈ flatL per l ↔ x ∈ l ∧ 0 < x.r ∧ x.r * per ≤ 1000 := by unfold flatL; rw [List.mem_filter, decide_eq_true_iff]
theorem steep_pos (hp : 1 ≤ per) {x : Ln} (h : x ∈ steepL per l) (hok : ∀ x ∈ l, okLn x) : 0 < x.r := by
  have h1 := mem_steep.1 h
  have := (hok x h1.1).2.2.1
  rcases Int.lt_or_eq_of_le this with h2 | h2
  · exact h2
  · rw [← h2] at h1; omega
theorem ceilT_step_steep {x : Ln} (hr : 0 < x.r) (h : 1000 < x.r * per) (y : Int) : ceilT (y + 1) x ≤ ceilT y x + per := by
  have h1 := (ceilT_le hr y _).1 (Int.le_refl (ceilT y x))
  refine (ceilT_le hr _ _).2 ?_
  rw [Int.mul_add]
  omega
theorem ceilT_step_flat {x : Ln} (hr : 0 < x.r) (h : x.r * per ≤ 1000) (y : Int) : ceilT y x + per ≤ ceilT (y + 1) x := by
  have h1 := (ceilT_le hr (y + 1) _).1 (Int.le_refl (ceilT (y + 1) x))
  have : ceilT y x ≤ ceilT (y + 1) x - per := by
    refine (ceilT_le hr _ _).2 ?_
    have e := Int.mul_sub x.r (ceilT (y + 1) x) per
    omega
  omega
theorem ceilT_at {x : Ln} (hr : 0 < x.r) : ceilT x.b x ≤ 0 := (ceilT_le hr _ _).2 (by simp)
theorem steep_rises (hp : 1 ≤ per) (hok : ∀ x ∈ l, okLn x) (y : Int) : mostL (steepL per l) per y ≤ mostL (steepL per l) per (y + 1) := by
  have h : mostT (y + 1) 0 (steepL per l) ≤ mostT y 0 (steepL per l) + per := (mostT_le _ _ _ _).2 ⟨by have := mostT_ge0 y (steepL per l); omega, fun x hx hb => by
    have hr := steep_pos hp hx hok
    have h1 := ceilT_step_steep hr (mem_steep.1 hx).2 y
    by_cases hb2 : x.b < y
    · have := mostT_in hx hb2; omega
    · have e : x.b = y := by omega
      have := ceilT_at hr
      rw [e] at this
      have := mostT_ge0 y (steepL per l)
      omega⟩
  unfold mostL
  rw [Int.mul_add]
  omega
theorem flat_falls {top : Int} (hp : 1 ≤ per) (hok : ∀ x ∈ l, okLn x) (hx : ∃ x ∈ flatL per l, x.b = top) (y : Int) (hy : top ≤ y) : mostL (flatL per l) per (y + 1) ≤ mostL (flatL per l) per y := by
  have h : mostT y 0 (flatL per l) ≤ mostT (y + 1) 0 (flatL per l) - per := (mostT_le _ _ _ _).2 ⟨by
    obtain ⟨x, hx, e⟩ := hx
    obtain ⟨h1, h2, h3⟩ := mem_flat.1 hx
    have h4 := mostT_in hx (show x.b < y + 1 by omega)
    have h5 := (ceilT_le h2 (y + 1) _).1 h4
    have h6 : ¬ mostT (y + 1) 0 (flatL per l) < per := fun h7 => by
      have := Int.mul_le_mul_of_nonneg_left (show mostT (y + 1) 0 (flatL per l) ≤ per - 1 by omega) (Int.le_of_lt h2)
      rw [Int.mul_sub] at this
      omega
    omega, fun x hx hb => by
    obtain ⟨h1, h2, h3⟩ := mem_flat.1 hx
    have := mostT_in hx (show x.b < y + 1 by omega)
    have := ceilT_step_flat h2 h3 y
    omega⟩
  unfold mostL
  rw [Int.mul_add]
  omega
theorem flat_low {top : Int} (hp : 1 ≤ per) (ht : ∀ x ∈ flatL per l, top ≤ x.b) (y : Int) (hy : y ≤ top) : mostL (flatL per l) per y ≤ mostL (flatL per l) per top := by
  have h : ∀ z, z ≤ top → mostT z 0 (flatL per l) = 0 := fun z hz => by
    have h1 : mostT z 0 (flatL per l) ≤ 0 := (mostT_le _ _ _ _).2 ⟨Int.le_refl _, fun x hx hb => by have := ht x hx; omega⟩
    have := mostT_ge0 z (flatL per l)
    omega
  unfold mostL
  rw [h y hy, h top (Int.le_refl _)]
  have := Int.mul_le_mul_of_nonneg_left hy (show 0 ≤ per by omega)
  omega
theorem dTop_spec (hok : ∀ x ∈ l, okLn x) : 0 ≤ dTop per l ∧ (dTop per l = 0 ↔ ∀ x ∈ l, x.r ≠ 0 ∧ ¬ (0 < x.r ∧ x.r * per ≤ 1000)) ∧ (∀ x ∈ flatL per l, dTop per l ≤ x.b) ∧ dTop per l ≤ dReach l ∧ (0 < dTop per l → dTop per l < dReach l → ∃ x ∈ flatL per l, x.b = dTop per l) ∧ (∀ x ∈ l, x.r = 0 → dReach l ≤ x.b) ∧ (0 < dTop per l → ∃ x ∈ l, x.b = dTop per l ∧ x.r * per ≤ 1000) ∧ (dReach l = 35184372088832 ∨ ∃ x ∈ l, x.r = 0 ∧ x.b = dReach l) ∧ (0 < dTop per l → dReach l = 35184372088832 → ∃ x ∈ flatL per l, True) := by
  have hz : ∀ x ∈ l.filter (fun x => decide (x.r = 0)), x ∈ l ∧ x.r = 0 := fun x hx => by rwa [List.mem_filter, decide_eq_true_iff] at hx
  obtain ⟨r1, r2, r3, r4, r5⟩ := topF_spec (l.filter fun x => decide (x.r = 0)) (fun x hx => (hok x (hz x hx).1).1) 0 (Int.le_refl _)
  obtain ⟨t1, t2, t3, t4, t5⟩ := topF_spec (flatL per l) (fun x hx => (hok x (mem_flat.1 hx).1).1) 0 (Int.le_refl _)
  rw [← reachF_top] at *
  have hb : ∀ x ∈ l, x.b ≤ 20000 := fun x hx => (hok x hx).2.1
  have hr0 : reachF 0 l = 0 → ∀ x ∈ l, x.r ≠ 0 := fun h x hx e => by
    have h9 := (r2.1 h).2
    have : x ∈ l.filter (fun x => decide (x.r = 0)) := List.mem_filter.2 ⟨hx, decide_eq_true e⟩
    rw [h9] at this
    cases this
  have ht0 : topF 0 (flatL per l) = 0 → ∀ x ∈ l, ¬ (0 < x.r ∧ x.r * per ≤ 1000) := fun h x hx e => by
    have h9 := (t2.1 h).2
    have : x ∈ flatL per l := mem_flat.2 ⟨hx, e⟩
    rw [h9] at this
    cases this
  have r6 : 0 < reachF 0 l → ∃ x ∈ l, x.r = 0 ∧ x.b = reachF 0 l := fun h => by
    rcases r5 with e | ⟨x, hx, e⟩
    · omega
    · exact ⟨x, (hz x hx).1, (hz x hx).2, e.symm⟩
  have t6 : 0 < topF 0 (flatL per l) → ∃ x ∈ flatL per l, x.b = topF 0 (flatL per l) := fun h => by
    rcases t5 with e | ⟨x, hx, e⟩
    · omega
    · exact ⟨x, hx, e.symm⟩
  have r7 : ∀ x ∈ l, x.r = 0 → reachF 0 l ≤ x.b := fun x hx e => r4 x (List.mem_filter.2 ⟨hx, decide_eq_true e⟩)
  have r8 : reachF 0 l ≤ 20000 := by
    rcases Int.lt_or_eq_of_le r1 with h | h
    · obtain ⟨x, hx, _, e⟩ := r6 h
      have := hb x hx
      omega
    · omega
  have t8 : topF 0 (flatL per l) ≤ 20000 := by
    rcases Int.lt_or_eq_of_le t1 with h | h
    · obtain ⟨x, hx, e⟩ := t6 h
      have := hb x (mem_flat.1 hx).1
      omega
    · omega
  generalize hR : reachF 0 l = R at *
  generalize hT : topF 0 (flatL per l) = T at *
  have eR : dReach l = if R = 0 then 35184372088832 else R := by unfold dReach; rw [hR]
  have eT : dTop per l = if 0 < R ∧ (T = 0 ∨ R < T) then R else T := by unfold dTop; rw [hR, hT]
  rw [eR, eT]
  refine ⟨by split <;> omega, ⟨fun h x hx => ?_, fun h => ?_⟩, fun x hx => ?_, ?_, fun h1 h2 => ?_, fun x hx e => ?_, fun h => ?_, ?_, fun h h2 => ?_⟩
  · have : R = 0 ∧ T = 0 := by split at h <;> omega
    exact ⟨hr0 this.1 x hx, ht0 this.2 x hx⟩
  · have e1 : R = 0 := by
      rcases Int.lt_or_eq_of_le r1 with h9 | h9
      · obtain ⟨x, hx, e, _⟩ := r6 h9; exact absurd e (h x hx).1
      · omega
    have e2 : T = 0 := by
      rcases Int.lt_or_eq_of_le t1 with h9 | h9
      · obtain ⟨x, hx, e⟩ := t6 h9; exact absurd (mem_flat.1 hx).2 (h x (mem_flat.1 hx).1).2
      · omega
    rw [if_neg (by omega)]
    exact e2
  · have := t4 x hx
    have : T ≠ 0 := fun e => ht0 e x (mem_flat.1 hx).1 (mem_flat.1 hx).2
    split <;> omega
  · by_cases hR0 : R = 0
    · rw [if_pos hR0, if_neg (by omega)]; omega
    · rw [if_neg hR0]
      by_cases hc : 0 < R ∧ (T = 0 ∨ R < T)
      · rw [if_pos hc]; exact Int.le_refl _
      · rw [if_neg hc]; omega
  · by_cases hc : 0 < R ∧ (T = 0 ∨ R < T)
    · rw [if_pos hc, if_neg (by omega)] at h2; omega
    · rw [if_neg hc] at h1 ⊢
      exact t6 h1
  · have := r7 x hx e
    have : R ≠ 0 := fun e2 => hr0 e2 x hx e
    rw [if_neg this]; omega
  · by_cases hc : 0 < R ∧ (T = 0 ∨ R < T)
    · rw [if_pos hc]
      obtain ⟨x, hx, e, e2⟩ := r6 hc.1
      exact ⟨x, hx, e2, by rw [e]; omega⟩
    · rw [if_neg hc] at h ⊢
      obtain ⟨x, hx, e⟩ := t6 h
      exact ⟨x, (mem_flat.1 hx).1, e, (mem_flat.1 hx).2.2⟩
  · by_cases hR0 : R = 0
    · rw [if_pos hR0]; exact .inl rfl
    · rw [if_neg hR0]
      exact .inr (r6 (by omega))
  · by_cases hR0 : R = 0
    · rw [if_neg (by omega)] at h
      obtain ⟨x, hx, _⟩ := t6 h
      exact ⟨x, hx, trivial⟩
    · rw [if_neg hR0] at h2
      omega
theorem dAll_min (y : Int) : dAll per l y = min (mostL (steepL per l) per y) (mostL (flatL per l) per y) := by
  unfold dAll mostL
  rw [mostT_app]
  omega
theorem delay_peak (hp : 1 ≤ per) (hok : ∀ x ∈ l, okLn x) (h0 : 0 < dTop per l) : (dTop per l + dN per l ≤ dReach l ∧ ∀ y, y ≤ dReach l → dAll per l y ≤ dBest per l) ∧ (0 < dN per l → mostT (dTop per l + dN per l - 1) 0 (flatL per l) < mostT (dTop per l + dN per l - 1) 0 (steepL per l)) := by
  obtain ⟨s1, s2, s3, s4, s5, s6, s7⟩ := dTop_spec (per := per) hok
  obtain ⟨⟨p1, p2⟩, p3⟩ := peak (S := mostL (steepL per l) per) (F := mostL (flatL per l) per) s4 (steep_rises hp hok) (fun y hy hy2 => flat_falls hp hok (s5 h0 (by omega)) y hy) (flat_low hp s3) (dN per l) rfl
  refine ⟨⟨p1, fun y hy => ?_⟩, fun h => ?_⟩
  · have := p2 y hy
    unfold dBest
    rw [dAll_min, dAll_min, dAll_min]
    exact this
  · have := p3 h
    unfold mostL at this
    omega
/-- No tick's bytes take longer than the delay. -/
theorem delay_top (hp : 1 ≤ per) (hok : ∀ x ∈ l, okLn x) (hl : 0 < l.length) (h0 : 0 < dTop per l) {T : Int} (hT0 : 0 ≤ T) (hT1 : T ≤ 1099511627776) : per * valueL l T - T ≤ dBest per l := by
  obtain ⟨s1, s2, s3, s4, s5, s6, s7, s8, s9⟩ := dTop_spec (per := per) hok
  obtain ⟨⟨p1, p2⟩, p3⟩ := delay_peak hp hok h0
  have hy : valueL l T ≤ dReach l := by
    rcases s8 with e | ⟨x, hx, e, e2⟩
    · obtain ⟨x, hx, _⟩ := s9 h0 e
      obtain ⟨m1, m2, m3⟩ := mem_flat.1 hx
      have h9 := valueL_le m1 T
      have h8 := (hok x m1).2.1
      have h7 : x.r ≤ 1000 := by
        have := Int.mul_le_mul_of_nonneg_left hp (Int.le_of_lt m2)
        omega
      have h6 := Int.mul_le_mul_of_nonneg_right h7 hT0
      unfold lineAt at h9
      omega
    · have h9 := valueL_le hx T
      unfold lineAt at h9
      rw [e, Int.zero_mul] at h9
      omega
  have hm : mostT (valueL l T) 0 (steepL per l ++ flatL per l) ≤ T := (mostT_le _ _ _ _).2 ⟨hT0, fun x hx hb => by
    have hxl : x ∈ l ∧ 0 < x.r := by
      rcases List.mem_append.1 hx with h | h
      · exact ⟨(mem_steep.1 h).1, steep_pos hp h hok⟩
      · exact ⟨(mem_flat.1 h).1, (mem_flat.1 h).2.1⟩
    exact (ceilT_le hxl.2 _ _).2 ((lineAt_ge x _ _).1 (valueL_le hxl.1 T))⟩
  have h9 := p2 _ hy
  unfold dAll mostL at h9
  omega
theorem dBest_hit : ∃ y, (y = dTop per l + dN per l ∨ (0 < dN per l ∧ y = dTop per l + dN per l - 1)) ∧ dBest per l = dAll per l y := by
  unfold dBest
  by_cases h : 0 < dN per l
  · rw [if_pos h]
    by_cases h2 : dAll per l (dTop per l + dN per l) ≤ dAll per l (dTop per l + dN per l - 1)
    · exact ⟨_, .inr ⟨h, rfl⟩, by omega⟩
    · exact ⟨_, .inl rfl, by omega⟩
  · rw [if_neg h]
    exact ⟨_, .inl rfl, rfl⟩
theorem dP_mono (hp : 1 ≤ per) (hok : ∀ x ∈ l, okLn x) (h0 : 0 < dTop per l) (a b : Nat) (hab : a ≤ b) (hb : b < (dReach l - dTop per l).toNat) (h : dP per l a = true) : dP per l b = true := by
  obtain ⟨s1, s2, s3, s4, s5, s6, s7⟩ := dTop_spec (per := per) hok
  obtain ⟨d, rfl⟩ : ∃ d, b = a + d := ⟨b - a, by omega⟩
  clear hab
  induction d with
  | zero => exact h
  | succ d ih =>
    have h1 := of_decide_eq_true (ih (by omega))
    apply decide_eq_true
    have e : dTop per l + ((a + (d + 1) : Nat) : Int) = dTop per l + ((a + d : Nat) : Int) + 1 := by omega
    rw [e]
    have h2 := steep_rises hp hok (dTop per l + ((a + d : Nat) : Int))
    have h3 := flat_falls hp hok (s5 h0 (by omega)) (dTop per l + ((a + d : Nat) : Int)) (by omega)
    omega
theorem dReach_top (hok : ∀ x ∈ l, okLn x) : dReach l ≤ 35184372088832 := by
  obtain ⟨s1, s2, s3, s4, s5, s6, s7, s8, s9⟩ := dTop_spec (per := 1) hok
  rcases s8 with e | ⟨x, hx, _, e⟩
  · omega
  · have := (hok x hx).2.1
    omega
end
end Go.Proofs.YtoomffajodheaaaGreatDoor
namespace Go.Proofs.YtoomffajodheaaaGreatDoor
def bzP (per : Int) (x : Ln) (k : Nat) : Bool := decide (x.r * (per * (x.b + k)) / 1000 ≤ k)
def bzK (per : Int) (x : Ln) : Nat := (List.range 68719476736).countP fun k => !bzP per x k
def bzT (per : Int) (x : Ln) : Int := per * (x.b + bzK per x)
def bzF (per : Int) : Int → List Ln → Int
  | t, [] => t
  | t, x :: r => bzF per (if 1000 ≤ x.r * per then t else if t = 0 ∨ bzT per x < t then bzT per x else t) r
section
variable {per : Int} {x : Ln} {l : List Ln}
theorem bzP_iff (k : Nat) : bzP per x k = true ↔ x.r * per * x.b + x.r * per * k < 1000 * (k + 1) := by
  unfold bzP
  rw [decide_eq_true_iff, ← Int.lt_add_one_iff, Int.ediv_lt_iff_lt_mul (by omega), ← Int.mul_assoc, Int.mul_add, Int.mul_comm 1000]
theorem bzP_mono (h : x.r * per < 1000) (k : Nat) (hk : bzP per x k = true) : bzP per x (k + 1) = true := by
  rw [bzP_iff] at hk ⊢
  have e : x.r * per * ((k + 1 : Nat) : Int) = x.r * per * k + x.r * per := by rw [show ((k + 1 : Nat) : Int) = (k : Int) + 1 by omega, Int.mul_add, Int.mul_one]
  rw [e]
  omega
theorem bz_some (hp : 1 ≤ per) (hok : okLn x) (h : x.r * per < 1000) : bzP per x (999 * x.b).toNat = true := by
  rw [bzP_iff]
  have h1 := hok.1
  have h0 : 0 ≤ x.r * per := Int.mul_nonneg hok.2.2.1 (by omega)
  have e : (((999 * x.b).toNat : Nat) : Int) = 999 * x.b := by omega
  rw [e]
  have e2 : x.r * per * (999 * x.b) = 999 * (x.r * per * x.b) := by rw [Int.mul_left_comm]
  rw [e2]
  have h2 := Int.mul_le_mul_of_nonneg_right (show x.r * per ≤ 999 by omega) (show 0 ≤ x.b by omega)
  omega
theorem bzK_spec (hp : 1 ≤ per) (hok : okLn x) (h : x.r * per < 1000) : bzP per x (bzK per x) = true ∧ (∀ k, k < bzK per x → bzP per x k = false) ∧ (bzK per x : Int) ≤ 999 * x.b := by
  obtain ⟨h1, h2, h3⟩ := count_mono (bzP per x) 68719476736 (fun k _ => bzP_mono h k) (bzK per x) rfl
  have hs := bz_some hp hok h
  have hb := hok.2.1
  have hb1 := hok.1
  have h4 : (bzK per x : Int) ≤ 999 * x.b := by
    by_cases hc : (bzK per x : Int) ≤ 999 * x.b
    · exact hc
    · have := h2 (999 * x.b).toNat (by omega)
      rw [this] at hs
      cases hs
  exact ⟨h3 _ (Nat.le_refl _) (by omega), h2, h4⟩
theorem bzT_pos (hp : 1 ≤ per) (hok : okLn x) : per ≤ bzT per x ∧ 1 ≤ bzT per x := by
  unfold bzT
  have h1 := hok.1
  have := Int.mul_le_mul_of_nonneg_left (show 1 ≤ x.b + bzK per x by omega) (show 0 ≤ per by omega)
  omega
theorem bzT_big (hp : 1 ≤ per) (hp2 : per ≤ 1000) (hok : okLn x) (h : x.r * per < 1000) : bzT per x ≤ 1000 * (1000 * x.b) := by
  unfold bzT
  have h1 := hok.1
  have h2 := (bzK_spec hp hok h).2.2
  exact Int.mul_le_mul hp2 (by omega) (by omega) (by omega)
theorem bzF_spec (hp : 1 ≤ per) (l : List Ln) (hok : ∀ x ∈ l, okLn x) (t : Int) (ht : 0 ≤ t) : 0 ≤ bzF per t l ∧ (bzF per t l = 0 ↔ t = 0 ∧ ∀ x ∈ l, 1000 ≤ x.r * per) ∧ (0 < t → bzF per t l ≤ t) ∧ (∀ x ∈ l, x.r * per < 1000 → bzF per t l ≤ bzT per x) ∧ (bzF per t l = t ∨ ∃ x ∈ l, x.r * per < 1000 ∧ bzF per t l = bzT per x) := by
  induction l generalizing t with
  | nil => simp [bzF, ht]
  | cons x r ih =>
    rw [bzF]
    have hx := (bzT_pos hp (hok x List.mem_cons_self)).2
    obtain ⟨i1, i2, i3, i4, i5⟩ := ih (fun z hz => hok z (List.mem_cons_of_mem _ hz)) (if 1000 ≤ x.r * per then t else if t = 0 ∨ bzT per x < t then bzT per x else t) (by split; exact ht; split <;> omega)
    by_cases hf : 1000 ≤ x.r * per
    · rw [if_pos hf] at *
      refine ⟨i1, ⟨fun h => ⟨(i2.1 h).1, fun z hz => ?_⟩, fun h => i2.2 ⟨h.1, fun z hz => h.2 z (List.mem_cons_of_mem _ hz)⟩⟩, i3, fun z hz hr => ?_, ?_⟩
      · rcases List.mem_cons.1 hz with rfl | hz
        · exact hf
        · exact (i2.1 h).2 z hz
      · rcases List.mem_cons.1 hz with rfl | hz
        · omega
        · exact i4 z hz hr
      · rcases i5 with h | ⟨z, hz, h⟩
        · exact .inl h
        · exact .inr ⟨z, List.mem_cons_of_mem _ hz, h⟩
    · rw [if_neg hf] at *
      refine ⟨i1, ⟨fun h => ?_, fun h => absurd (h.2 x List.mem_cons_self) hf⟩, fun h => ?_, fun z hz hr => ?_, ?_⟩
      · have := (i2.1 h).1
        by_cases hc : t = 0 ∨ bzT per x < t
        · rw [if_pos hc] at this; omega
        · rw [if_neg hc] at this; omega
      · by_cases hc : t = 0 ∨ bzT per x < t
        · rw [if_pos hc] at i3 ⊢
          have := i3 (by omega)
          omega
        · rw [if_neg hc] at i3 ⊢
          exact i3 h
      · rcases List.mem_cons.1 hz with rfl | hz
        · by_cases hc : t = 0 ∨ bzT per z < t
          · rw [if_pos hc] at i3 ⊢
            exact i3 (by omega)
          · rw [if_neg hc] at i3 ⊢
            have := i3 (by omega)
            omega
        · exact i4 z hz hr
      · rcases i5 with h | ⟨z, hz, h⟩
        · by_cases hc : t = 0 ∨ bzT per x < t
          · rw [if_pos hc] at h ⊢
            exact .inr ⟨x, List.mem_cons_self, by omega, h⟩
          · rw [if_neg hc] at h ⊢
            exact .inl h
        · exact .inr ⟨z, List.mem_cons_of_mem _ hz, h⟩
def bzV (per : Int) (l : List Ln) : Int := bzF per 0 l
theorem bzV_spec (hp : 1 ≤ per) (hok : ∀ x ∈ l, okLn x) : 0 ≤ bzV per l ∧ (bzV per l = 0 ↔ ∀ x ∈ l, 1000 ≤ x.r * per) ∧ (∀ x ∈ l, x.r * per < 1000 → bzV per l ≤ bzT per x) ∧ (0 < bzV per l → ∃ x ∈ l, x.r * per < 1000 ∧ bzV per l = bzT per x) := by
  obtain ⟨h1, h2, h3, h4, h5⟩ := bzF_spec hp l hok 0 (Int.le_refl _)
  refine ⟨h1, ⟨fun h => (h2.1 h).2, fun h => h2.2 ⟨rfl, h⟩⟩, h4, fun h => ?_⟩
  rcases h5 with e | e
  · unfold bzV at h; omega
  · exact e
end
end Go.Proofs.YtoomffajodheaaaGreatDoor
