/- Plain arithmetic of a curve's busy ticks at a link. No program. No condition. -/
import Derived.Test.YteeaipehkhldhaaDoorDlyP
namespace Go.Proofs.YteeaipehkhldhaaDoor
def bzP (per : Int) (x : Ln) (k : Nat) : Bool := decide (x.r * (per * (x.b + k)) / 1000 ≤ k)
def bzK (per : Int) (x : Ln) : Nat := (List.range 68719476736).countP fun k => !bzP per x k
def bzT (per : Int) (x : Ln) : Int := per * (x.b + bzK per x)
def bzF (per : Int) : Int → List Ln → Int
  | t, [] => t
  | t, x :: r => bzF per (if 1000 ≤ x.r * per then t else if t = 0 ∨ bzT per x < t then bzT per x else t) r
section
variable {per : Int} {x : Ln} {l : List Ln}
theorem bzP_iff (k : Nat) : bzP per x k = true ↔ x.r * per * x.b + x.r * per * k < 1000 * (k + 1) := by
  unfold bzP
  rw [decide_eq_true_iff, ← Int.lt_add_one_iff, Int.ediv_lt_iff_lt_mul (by omega), ← Int.mul_assoc, Int.mul_add, Int.mul_comm 1000]
theorem bzP_mono (h : x.r * per < 1000) (k : Nat) (hk : bzP per x k = true) : bzP per x (k + 1) = true := by
  rw [bzP_iff] at hk ⊢
  have e : x.r * per * ((k + 1 : Nat) : Int) = x.r * per * k + x.r * per := by rw [show ((k + 1 : Nat) : Int) = (k : Int) + 1 by omega, Int.mul_add, Int.mul_one]
  rw [e]
  omega
theorem bz_some (hp : 1 ≤ per) (hok : okLn x) (h : x.r * per < 1000) : bzP per x (999 * x.b).toNat = true := by
  rw [bzP_iff]
  have h1 := hok.1
  have h0 : 0 ≤ x.r * per := Int.mul_nonneg hok.2.2.1 (by omega)
  have e : (((999 * x.b).toNat : Nat) : Int) = 999 * x.b := by omega
  rw [e]
  have e2 : x.r * per * (999 * x.b) = 999 * (x.r * per * x.b) := by rw [Int.mul_left_comm]
  rw [e2]
  have h2 := Int.mul_le_mul_of_nonneg_right (show x.r * per ≤ 999 by omega) (show 0 ≤ x.b by omega)
  omega
theorem bzK_spec (hp : 1 ≤ per) (hok : okLn x) (h : x.r * per < 1000) : bzP per x (bzK per x) = true ∧ (∀ k, k < bzK per x → bzP per x k = false) ∧ (bzK per x : Int) ≤ 999 * x.b := by
  obtain ⟨h1, h2, h3⟩ := count_mono (bzP per x) 68719476736 (fun k _ => bzP_mono h k) (bzK per x) rfl
  have hs := bz_some hp hok h
  have hb := hok.2.1
  have hb1 := hok.1
  have h4 : (bzK per x : Int) ≤ 999 * x.b := by
    by_cases hc : (bzK per x : Int) ≤ 999 * x.b
    · exact hc
    · have := h2 (999 * x.b).toNat (by omega)
      rw [this] at hs
      cases hs
  exact ⟨h3 _ (Nat.le_refl _) (by omega), h2, h4⟩
theorem bzT_pos (hp : 1 ≤ per) (hok : okLn x) : per ≤ bzT per x ∧ 1 ≤ bzT per x := by
  unfold bzT
  have h1 := hok.1
  have := Int.mul_le_mul_of_nonneg_left (show 1 ≤ x.b + bzK per x by omega) (show 0 ≤ per by omega)
  omega
theorem bzT_big (hp : 1 ≤ per) (hp2 : per ≤ 1000) (hok : okLn x) (h : x.r * per < 1000) : bzT per x ≤ 1000 * (1000 * x.b) := by
  unfold bzT
  have h1 := hok.1
  have h2 := (bzK_spec hp hok h).2.2
  exact Int.mul_le_mul hp2 (by omega) (by omega) (by omega)
/-- A line's busy ticks end. -/
theorem bzT_end (hp : 1 ≤ per) (hok : okLn x) (h : x.r * per < 1000) : per * lineAt x (bzT per x) ≤ bzT per x ∧ lineAt x (bzT per x) ≤ x.b + bzK per x := by
  have h1 := (bzK_spec hp hok h).1
  unfold bzP at h1
  have h1 := of_decide_eq_true h1
  have h2 : lineAt x (bzT per x) ≤ x.b + bzK per x := by
    unfold lineAt bzT
    omega
  exact ⟨Int.mul_le_mul_of_nonneg_left h2 (by omega), h2⟩
theorem bzT_low (hp : 1 ≤ per) (hok : okLn x) (h : x.r * per < 1000) {t : Int} (ht : 0 ≤ t) (hl : per * lineAt x t ≤ t) : bzT per x ≤ t := by
  have hj0 : 0 ≤ x.r * t / 1000 := Int.ediv_nonneg (Int.mul_nonneg hok.2.2.1 ht) (by omega)
  obtain ⟨j, hj⟩ : ∃ j : Nat, (j : Int) = x.r * t / 1000 := ⟨(x.r * t / 1000).toNat, by omega⟩
  have hP : bzP per x j = true := by
    unfold bzP
    apply decide_eq_true
    have h1 : per * (x.b + j) ≤ t := by rw [hj]; exact hl
    have h2 := Int.mul_le_mul_of_nonneg_left h1 hok.2.2.1
    have h3 := Int.ediv_le_ediv (show (0:Int) < 1000 by omega) h2
    omega
  have h2 : bzK per x ≤ j := by
    by_cases hc : bzK per x ≤ j
    · exact hc
    · have := (bzK_spec hp hok h).2.1 j (by omega)
      rw [hP] at this
      cases this
  have h3 : per * (x.b + bzK per x) ≤ per * (x.b + j) := Int.mul_le_mul_of_nonneg_left (by omega) (by omega)
  have h4 : per * (x.b + j) ≤ t := by rw [hj]; exact hl
  unfold bzT
  omega
theorem fast_line (hp : 1 ≤ per) (hok : okLn x) (h : 1000 ≤ x.r * per) {t : Int} (ht : 0 ≤ t) : t < per * lineAt x t := by
  unfold lineAt
  have h1 := hok.1
  have h2 := Int.lt_mul_ediv_self_add (x := x.r * t) (k := 1000) (by omega)
  have h3 : x.r * t < 1000 * (x.r * t / 1000 + 1) := by omega
  have h4 := Int.mul_lt_mul_of_pos_left h3 (show 0 < per by omega)
  have h5 := Int.mul_le_mul_of_nonneg_right h ht
  have e1 : per * (x.r * t) = x.r * per * t := by rw [Int.mul_comm, Int.mul_assoc, Int.mul_comm t, Int.mul_assoc]
  have e2 : per * (1000 * (x.r * t / 1000 + 1)) = 1000 * (per * (x.r * t / 1000 + 1)) := Int.mul_left_comm _ _ _
  have h6 := Int.mul_le_mul_of_nonneg_left (show x.r * t / 1000 + 1 ≤ x.b + x.r * t / 1000 by omega) (show 0 ≤ per by omega)
  omega
theorem bzF_spec (hp : 1 ≤ per) (l : List Ln) (hok : ∀ x ∈ l, okLn x) (t : Int) (ht : 0 ≤ t) : 0 ≤ bzF per t l ∧ (bzF per t l = 0 ↔ t = 0 ∧ ∀ x ∈ l, 1000 ≤ x.r * per) ∧ (0 < t → bzF per t l ≤ t) ∧ (∀ x ∈ l, x.r * per < 1000 → bzF per t l ≤ bzT per x) ∧ (bzF per t l = t ∨ ∃ x ∈ l, x.r * per < 1000 ∧ bzF per t l = bzT per x) := by
  induction l generalizing t with
  | nil => simp [bzF, ht]
  | cons x r ih =>
    rw [bzF]
    have hx := (bzT_pos hp (hok x List.mem_cons_self)).2
    obtain ⟨i1, i2, i3, i4, i5⟩ := ih (fun z hz => hok z (List.mem_cons_of_mem _ hz)) (if 1000 ≤ x.r * per then t else if t = 0 ∨ bzT per x < t then bzT per x else t) (by split; exact ht; split <;> omega)
    by_cases hf : 1000 ≤ x.r * per
    · rw [if_pos hf] at *
      refine ⟨i1, ⟨fun h => ⟨(i2.1 h).1, fun z hz => ?_⟩, fun h => i2.2 ⟨h.1, fun z hz => h.2 z (List.mem_cons_of_mem _ hz)⟩⟩, i3, fun z hz hr => ?_, ?_⟩
      · rcases List.mem_cons.1 hz with rfl | hz
        · exact hf
        · exact (i2.1 h).2 z hz
      · rcases List.mem_cons.1 hz with rfl | hz
        · omega
        · exact i4 z hz hr
      · rcases i5 with h | ⟨z, hz, h⟩
        · exact .inl h
        · exact .inr ⟨z, List.mem_cons_of_mem _ hz, h⟩
    · rw [if_neg hf] at *
      refine ⟨i1, ⟨fun h => ?_, fun h => absurd (h.2 x List.mem_cons_self) hf⟩, fun h => ?_, fun z hz hr => ?_, ?_⟩
      · have := (i2.1 h).1
        by_cases hc : t = 0 ∨ bzT per x < t
        · rw [if_pos hc] at this; omega
        · rw [if_neg hc] at this; omega
      · by_cases hc : t = 0 ∨ bzT per x < t
        · rw [if_pos hc] at i3 ⊢
          have := i3 (by omega)
          omega
        · rw [if_neg hc] at i3 ⊢
          exact i3 h
      · rcases List.mem_cons.1 hz with rfl | hz
        · by_cases hc : t = 0 ∨ bzT per z < t
          · rw [if_pos hc] at i3 ⊢
            exact i3 (by omega)
          · rw [if_neg hc] at i3 ⊢
            have := i3 (by omega)
            omega
        · exact i4 z hz hr
      · rcases i5 with h | ⟨z, hz, h⟩
        · by_cases hc : t = 0 ∨ bzT per x < t
          · rw [if_pos hc] at h ⊢
            exact .inr ⟨x, List.mem_cons_self, by omega, h⟩
          · rw [if_neg hc] at h ⊢
            exact .inl h
        · exact .inr ⟨z, List.mem_cons_of_mem _ hz, h⟩
def bzV (per : Int) (l : List Ln) : Int := bzF per 0 l
theorem bzV_spec (hp : 1 ≤ per) (hok : ∀ x ∈ l, okLn x) : 0 ≤ bzV per l ∧ (bzV per l = 0 ↔ ∀ x ∈ l, 1000 ≤ x.r * per) ∧ (∀ x ∈ l, x.r * per < 1000 → bzV per l ≤ bzT per x) ∧ (0 < bzV per l → ∃ x ∈ l, x.r * per < 1000 ∧ bzV per l = bzT per x) := by
  obtain ⟨h1, h2, h3, h4, h5⟩ := bzF_spec hp l hok 0 (Int.le_refl _)
  refine ⟨h1, ⟨fun h => (h2.1 h).2, fun h => h2.2 ⟨rfl, h⟩⟩, h4, fun h => ?_⟩
  rcases h5 with e | e
  · unfold bzV at h; omega
  · exact e
/-- When what is busy ends, all is through. -/
theorem bz_end (hp : 1 ≤ per) (hok : ∀ x ∈ l, okLn x) (h : 0 < bzV per l) : per * valueL l (bzV per l) ≤ bzV per l := by
  obtain ⟨x, hx, hr, e⟩ := (bzV_spec hp hok).2.2.2 h
  have h1 := valueL_le hx (bzV per l)
  have h2 := (bzT_end hp (hok x hx) hr).1
  have h3 := Int.mul_le_mul_of_nonneg_left h1 (show 0 ≤ per by omega)
  rw [e] at *
  omega
theorem bz_low (hp : 1 ≤ per) (hl : 0 < l.length) (hok : ∀ x ∈ l, okLn x) {t : Int} (ht : 0 ≤ t) (htb : t < bzV per l) : t < per * valueL l t := by
  obtain ⟨x, hx, e⟩ := valueL_mem hl t
  rw [e]
  by_cases hr : 1000 ≤ x.r * per
  · exact fast_line hp (hok x hx) hr ht
  · by_cases hc : t < per * lineAt x t
    · exact hc
    · have h1 := bzT_low hp (hok x hx) (by omega) ht (by omega)
      have h2 := (bzV_spec hp hok).2.2.1 x hx (by omega)
      omega
theorem bz_none (hp : 1 ≤ per) (hl : 0 < l.length) (hok : ∀ x ∈ l, okLn x) (h : bzV per l = 0) {t : Int} (ht : 0 ≤ t) : t < per * valueL l t := by
  obtain ⟨x, hx, e⟩ := valueL_mem hl t
  rw [e]
  exact fast_line hp (hok x hx) ((bzV_spec hp hok).2.1.1 h x hx) ht
/-- A delay is at most what is busy. -/
theorem bz_delay (hp : 1 ≤ per) (hl : 0 < l.length) (hok : ∀ x ∈ l, okLn x) (h : 0 < bzV per l) {T : Int} (hT : 0 ≤ T) : per * valueL l T - T ≤ bzV per l := by
  by_cases hTb : T ≤ bzV per l
  · have h1 := Int.mul_le_mul_of_nonneg_left (valueL_mono hl hok hTb) (show 0 ≤ per by omega)
    have := bz_end hp hok h
    omega
  · obtain ⟨x, hx, hr, e⟩ := (bzV_spec hp hok).2.2.2 h
    have hok' := hok x hx
    have h1 := Int.mul_le_mul_of_nonneg_left (valueL_le hx T) (show 0 ≤ per by omega)
    have h2 := (bzT_end hp hok' hr).2
    obtain ⟨h3, h4⟩ := bzT_pos hp hok'
    rw [← e] at h2 h3 h4
    have e2 : bzV per l = per * (x.b + bzK per x) := e
    obtain ⟨s, hs⟩ : ∃ s, s = T - bzV per l := ⟨_, rfl⟩
    have hs0 : 0 ≤ s := by omega
    have e3 : T = bzV per l + s := by omega
    have h5 : lineAt x T ≤ x.b + bzK per x + x.r * s / 1000 + 1 := by
      unfold lineAt at h2 ⊢
      rw [e3, Int.mul_add]
      omega
    have h6 := Int.mul_le_mul_of_nonneg_left h5 (show 0 ≤ per by omega)
    have h7 : per * (x.r * s / 1000) ≤ s := by
      have a1 : 1000 * (x.r * s / 1000) ≤ x.r * s := Int.mul_ediv_self_le (by omega)
      have a2 := Int.mul_le_mul_of_nonneg_left a1 (show 0 ≤ per by omega)
      have a3 : per * (x.r * s) = x.r * per * s := by rw [Int.mul_comm, Int.mul_assoc, Int.mul_comm s, Int.mul_assoc]
      have a4 := Int.mul_le_mul_of_nonneg_right (show x.r * per ≤ 1000 by omega) hs0
      have a5 : per * (1000 * (x.r * s / 1000)) = 1000 * (per * (x.r * s / 1000)) := Int.mul_left_comm _ _ _
      omega
    have e4 : per * (x.b + bzK per x + x.r * s / 1000 + 1) = per * (x.b + bzK per x) + per * (x.r * s / 1000) + per := by rw [Int.mul_add, Int.mul_add, Int.mul_one]
    omega
theorem bz_small (hp : 1 ≤ per) (hp2 : per ≤ 1000) (hok : ∀ x ∈ l, okLn x) : bzV per l ≤ 20000000000 ∧ ((∀ x ∈ l, x.b ≤ 60) → bzV per l ≤ 60000000) := by
  by_cases h : 0 < bzV per l
  · obtain ⟨x, hx, hr, e⟩ := (bzV_spec hp hok).2.2.2 h
    have h1 := bzT_big hp hp2 (hok x hx) hr
    have h2 := (hok x hx).2.1
    exact ⟨by omega, fun h3 => by have := h3 x hx; omega⟩
  · exact ⟨by omega, fun _ => by omega⟩
end
end Go.Proofs.YteeaipehkhldhaaDoor
