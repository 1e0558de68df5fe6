/- A stable sort, plain: rotations, merges, blocks. No program in sight. A stable sort, plain: blocks in order, joined two by two. No program in sight. Numbers in the order of keys, of these in the order of numbers; plainly: there is but one such order. No program in sight. slices.swapRangeCmpFunc, slices.rotateCmpFunc, at []int: over a row of the caller's own. Conditions: the bounds that the callers keep. slices.symMergeCmpFunc at []int, over a row of the caller's own, by keys that lie still: two runs in order are one. slices.symMergeCmpFunc at []int, whole: two runs in order are one. slices.insertionSortCmpFunc at []int, over a row of the caller's own whose numbers rise. slices.stableCmpFunc at []int, over a row of the caller's own that holds 0, 1, ..: first its blocks. cmp.Compare at int, the comparing function of gate.Run, slices.SortStableFunc at []int. Conditions: the rows that are read lie apart from the one that is sorted. -/
import Derived.Test.YtoomffajodheaaaGreatDoorQBaseM
import Derived.BigRegion
import Derived.Deep.CutRange
import Derived.Test.YtoomffajodheaaaGreatDoorProg
import Derived.Deep.RegionHeld3
import Derived.BigQuiet
set_option linter.all false
namespace Go.Proofs.YtoomffajodheaaaGreatDoor
/-- By key, then by number. -/
def LexI (key : Int → Int) (x y : Int) : Prop := key x < key y ∨ (key x = key y ∧ x < y)
theorem LexI.trans {key : Int → Int} {x y z : Int} (h : LexI key x y) (h' : LexI key y z) : LexI key x z := by
  unfold LexI at *
  omega
theorem LexI.of_le {key : Int → Int} {x y : Int} (h : ¬ key y < key x) (hxy : x < y) : LexI key x y := by
  unfold LexI
  omega
theorem LexI.of_lt {key : Int → Int} {x y : Int} (h : key x < key y) : LexI key x y := .inl h
def SrtF (key : Int → Int) (f : Nat → Int) (a b : Nat) : Prop := ∀ i j, a ≤ i → i < j → j < b → LexI key (f i) (f j)
def SubF (f f' : Nat → Int) (a b : Nat) : Prop := ∀ k, a ≤ k → k < b → ∃ k', a ≤ k' ∧ k' < b ∧ f' k = f k'
def OutF (f f' : Nat → Int) (a b : Nat) : Prop := ∀ k, k < a ∨ b ≤ k → f' k = f k
def CrsF (f : Nat → Int) (a m b : Nat) : Prop := ∀ i j, a ≤ i → i < m → m ≤ j → j < b → f i < f j
theorem SubF.refl (f : Nat → Int) (a b : Nat) : SubF f f a b := fun k h1 h2 => ⟨k, h1, h2, rfl⟩
theorem SubF.trans {f g h : Nat → Int} {a b : Nat} (h1 : SubF f g a b) (h2 : SubF g h a b) : SubF f h a b := fun k a1 a2 => by
  obtain ⟨k1, b1, b2, e1⟩ := h2 k a1 a2
  obtain ⟨k2, c1, c2, e2⟩ := h1 k1 b1 b2
  exact ⟨k2, c1, c2, e1.trans e2⟩
theorem SubF.wide {f g : Nat → Int} {a b a' b' : Nat} (h : SubF f g a b) (ho : OutF f g a b) (ha : a' ≤ a) (hb : b ≤ b') : SubF f g a' b' := fun k h1 h2 => by
  by_cases hk : a ≤ k ∧ k < b
  · obtain ⟨k', c1, c2, e⟩ := h k hk.1 hk.2
    exact ⟨k', by omega, by omega, e⟩
  · exact ⟨k, h1, h2, ho k (by omega)⟩
theorem OutF.trans {f g h : Nat → Int} {a b : Nat} (h1 : OutF f g a b) (h2 : OutF g h a b) : OutF f h a b := fun k hk => (h2 k hk).trans (h1 k hk)
theorem OutF.wide {f g : Nat → Int} {a b a' b' : Nat} (h : OutF f g a b) (ha : a' ≤ a) (hb : b ≤ b') : OutF f g a' b' := fun k hk => h k (by omega)
theorem SrtF.out {key : Int → Int} {f g : Nat → Int} {a b a' b' : Nat} (h : SrtF key f a' b') (ho : OutF f g a b) (hd : b' ≤ a ∨ b ≤ a') : SrtF key g a' b' := fun i j h1 h2 h3 => by
  rw [ho i (by omega), ho j (by omega)]
  exact h i j h1 h2 h3
/-- Swapped ranges. -/
def swF (f : Nat → Int) (a b n : Nat) : Nat → Int := fun k => if a ≤ k ∧ k < a + n then f (k + b - a) else if b ≤ k ∧ k < b + n then f (k + a - b) else f k
/-- A rotation: [a, m) and [m, b) change their places. -/
def rotF (f : Nat → Int) (a m b : Nat) : Nat → Int := fun k => if a ≤ k ∧ k < a + (b - m) then f (k + m - a) else if a + (b - m) ≤ k ∧ k < b then f (k - (b - m)) else f k
theorem swF_lo (f : Nat → Int) {a b n k : Nat} (h1 : a ≤ k) (h2 : k < a + n) : swF f a b n k = f (k + b - a) := if_pos ⟨h1, h2⟩
theorem swF_hi (f : Nat → Int) {a b n k : Nat} (h : k < a ∨ a + n ≤ k) (h1 : b ≤ k) (h2 : k < b + n) : swF f a b n k = f (k + a - b) := (if_neg (by omega)).trans (if_pos ⟨h1, h2⟩)
theorem swF_no (f : Nat → Int) {a b n k : Nat} (h : k < a ∨ a + n ≤ k) (h1 : k < b ∨ b + n ≤ k) : swF f a b n k = f k := (if_neg (by omega)).trans (if_neg (by omega))
theorem rotF_lo (f : Nat → Int) {a m b k : Nat} (h1 : a ≤ k) (h2 : k < a + (b - m)) : rotF f a m b k = f (k + m - a) := if_pos ⟨h1, h2⟩
theorem rotF_hi (f : Nat → Int) {a m b k : Nat} (h1 : a + (b - m) ≤ k) (h2 : k < b) : rotF f a m b k = f (k - (b - m)) := (if_neg (by omega)).trans (if_pos ⟨h1, h2⟩)
theorem rotF_no (f : Nat → Int) {a m b k : Nat} (h : k < a ∨ (a + (b - m) ≤ k ∧ b ≤ k)) : rotF f a m b k = f k := (if_neg (by omega)).trans (if_neg (by omega))
theorem swF_zero (f : Nat → Int) (a b : Nat) : swF f a b 0 = f := by
  funext k
  exact swF_no f (by omega) (by omega)
theorem swF_succ (f : Nat → Int) {a b n : Nat} (h : a + n < b) (k : Nat) : swF f a b (n + 1) k = if k = b + n then f (a + n) else if k = a + n then f (b + n) else swF f a b n k := by
  by_cases h1 : k = b + n
  · subst h1
    rw [if_pos rfl, swF_hi f (by omega) (by omega) (by omega)]
    congr 1
    omega
  · rw [if_neg h1]
    by_cases h2 : k = a + n
    · subst h2
      rw [if_pos rfl, swF_lo f (by omega) (by omega)]
      congr 1
      omega
    · rw [if_neg h2]
      by_cases h3 : a ≤ k ∧ k < a + n
      · rw [swF_lo f h3.1 (by omega), swF_lo f h3.1 h3.2]
      · by_cases h4 : b ≤ k ∧ k < b + n
        · rw [swF_hi f (by omega) h4.1 (by omega), swF_hi f (by omega) h4.1 h4.2]
        · rw [swF_no f (by omega) (by omega), swF_no f (by omega) (by omega)]
/-- What lies at the two ends while the ranges are swapped. -/
theorem swF_a (f : Nat → Int) {a b n : Nat} (h : a + n < b) : swF f a b n (a + n) = f (a + n) := swF_no f (by omega) (by omega)
theorem swF_b (f : Nat → Int) {a b n : Nat} (h : a + n < b) : swF f a b n (b + n) = f (b + n) := swF_no f (by omega) (by omega)
theorem swF_eq_rot (f : Nat → Int) {m i : Nat} (hi : i ≤ m) : swF f (m - i) m i = rotF f (m - i) m (m + i) := by
  funext k
  by_cases h1 : m - i ≤ k ∧ k < m - i + i
  · rw [swF_lo f h1.1 h1.2, rotF_lo f h1.1 (by omega)]
  · by_cases h2 : m ≤ k ∧ k < m + i
    · rw [swF_hi f (by omega) h2.1 h2.2, rotF_hi f (by omega) (by omega)]
      congr 1
      omega
    · rw [swF_no f (by omega) (by omega), rotF_no f (by omega)]
theorem rotF_left (f : Nat → Int) {m i j : Nat} (hi : i ≤ m) (hj : j < i) : rotF (swF f (m - i) m j) (m - (i - j)) m (m + j) = rotF f (m - i) m (m + j) := by
  funext k
  by_cases h1 : k < m - i
  · rw [rotF_no _ (by omega), rotF_no _ (by omega), swF_no f (by omega) (by omega)]
  · by_cases h2 : k < m - i + j
    · rw [rotF_no _ (by omega), rotF_lo _ (by omega) (by omega), swF_lo f (by omega) (by omega)]
    · by_cases h3 : k < m + j
      · by_cases h4 : k < m - (i - j) + j
        · rw [rotF_lo _ (by omega) (by omega), rotF_hi _ (by omega) (by omega), swF_hi f (by omega) (by omega) (by omega)]
          congr 1
          omega
        · rw [rotF_hi _ (by omega) (by omega), rotF_hi _ (by omega) (by omega), swF_no f (by omega) (by omega)]
      · rw [rotF_no _ (by omega), rotF_no _ (by omega), swF_no f (by omega) (by omega)]
theorem rotF_right (f : Nat → Int) {m i j : Nat} (hi : i ≤ m) (h0 : 0 < i) (hj : i < j) : rotF (swF f (m - i) (m + j - i) i) (m - i) m (m + (j - i)) = rotF f (m - i) m (m + j) := by
  funext k
  by_cases h1 : k < m - i
  · rw [rotF_no _ (by omega), rotF_no _ (by omega), swF_no f (by omega) (by omega)]
  · by_cases h2 : k < m - i + (j - i)
    · rw [rotF_lo _ (by omega) (by omega), rotF_lo _ (by omega) (by omega)]
      by_cases h5 : k + m - (m - i) < m + j - i
      · rw [swF_no f (by omega) (by omega)]
      · rw [swF_no f (by omega) (by omega)]
    · by_cases h3 : k < m - i + j
      · rw [rotF_hi _ (by omega) (by omega), rotF_lo _ (by omega) (by omega), swF_lo f (by omega) (by omega)]
        congr 1
        omega
      · by_cases h4 : k < m + j
        · rw [rotF_no _ (by omega), rotF_hi _ (by omega) (by omega), swF_hi f (by omega) (by omega) (by omega)]
          congr 1
          omega
        · rw [rotF_no _ (by omega), rotF_no _ (by omega), swF_no f (by omega) (by omega)]
theorem rotF_out (f : Nat → Int) {a m b : Nat} (h1 : a ≤ m) (h2 : m ≤ b) : OutF f (rotF f a m b) a b := fun k hk => rotF_no f (by omega)
theorem rotF_sub (f : Nat → Int) {a m b : Nat} (h1 : a ≤ m) (h2 : m ≤ b) : SubF f (rotF f a m b) a b := fun k k1 k2 => by
  by_cases h : k < a + (b - m)
  · exact ⟨k + m - a, by omega, by omega, rotF_lo f k1 h⟩
  · exact ⟨k - (b - m), by omega, by omega, rotF_hi f (by omega) k2⟩
/-- A rotation of nothing. -/
theorem rotF_nil (f : Nat → Int) (a m b : Nat) (h : a = m ∨ (m = b ∧ a ≤ m)) : rotF f a m b = f := by
  funext k
  by_cases h1 : a ≤ k ∧ k < b
  · by_cases h2 : k < a + (b - m)
    · rw [rotF_lo f h1.1 h2]; congr 1; omega
    · rw [rotF_hi f (by omega) h1.2]; congr 1; omega
  · by_cases h3 : k < a + (b - m) ∧ a ≤ k
    · omega
    · exact rotF_no f (by omega)
/-- THE STEP OF A MERGE: behind a rotation each half is two runs, and all of the left one lie ahead of all of the right one. -/
structure HalfF (key : Int → Int) (f : Nat → Int) (a s d e b : Nat) : Prop where
  l1 : SrtF key f a s
  l2 : SrtF key f s d
  lc : CrsF f a s d
  r1 : SrtF key f d e
  r2 : SrtF key f e b
  rc : CrsF f d e b
  lr : ∀ i j, a ≤ i → i < d → d ≤ j → j < b → LexI key (f i) (f j)
theorem half_of {key : Int → Int} {f : Nat → Int} {a s m e b : Nat} (h1 : a ≤ s) (h2 : s ≤ m) (h3 : m ≤ e) (h4 : e ≤ b) (hl : SrtF key f a m) (hr : SrtF key f m b) (hc : CrsF f a m b)
    (ha : a < s → e < b → LexI key (f (s - 1)) (f e)) (hb : m < e → s < m → LexI key (f (e - 1)) (f s)) : HalfF key (rotF f s m e) a s (s + (e - m)) e b := by
  have lo : ∀ k, s ≤ k → k < s + (e - m) → rotF f s m e k = f (k + m - s) := fun k a1 a2 => rotF_lo f a1 a2
  have hi : ∀ k, s + (e - m) ≤ k → k < e → rotF f s m e k = f (k - (e - m)) := fun k a1 a2 => rotF_hi f a1 a2
  have no : ∀ k, k < s ∨ e ≤ k → rotF f s m e k = f k := fun k a1 => rotF_no f (by omega)
  refine ⟨fun i j a1 a2 a3 => ?_, fun i j a1 a2 a3 => ?_, fun i j a1 a2 a3 a4 => ?_, fun i j a1 a2 a3 => ?_, fun i j a1 a2 a3 => ?_, fun i j a1 a2 a3 a4 => ?_, fun i j a1 a2 a3 a4 => ?_⟩
  · rw [no i (by omega), no j (by omega)]
    exact hl i j a1 a2 (by omega)
  · rw [lo i a1 (by omega), lo j (by omega) a3]
    exact hr _ _ (by omega) (by omega) (by omega)
  · rw [no i (by omega), lo j a3 a4]
    exact hc _ _ a1 (by omega) (by omega) (by omega)
  · rw [hi i a1 (by omega), hi j (by omega) a3]
    exact hl _ _ (by omega) (by omega) (by omega)
  · rw [no i (by omega), no j (by omega)]
    exact hr _ _ (by omega) a2 a3
  · rw [hi i a1 (by omega), no j (by omega)]
    exact hc _ _ (by omega) (by omega) (by omega) a4
  · by_cases c1 : i < s
    · rw [no i (by omega)]
      by_cases c2 : j < e
      · rw [hi j a3 c2]
        exact hl _ _ a1 (by omega) (by omega)
      · rw [no j (by omega)]
        have q := ha (by omega) (by omega)
        have q1 : LexI key (f i) (f e) := by
          by_cases g : i = s - 1
          · rw [g]; exact q
          · exact (hl i (s - 1) a1 (by omega) (by omega)).trans q
        by_cases g : j = e
        · rw [g]; exact q1
        · exact q1.trans (hr e j (by omega) (by omega) a4)
    · rw [lo i (by omega) a2]
      by_cases c2 : j < e
      · rw [hi j a3 c2]
        have q := hb (by omega) (by omega)
        have q1 : LexI key (f (i + m - s)) (f s) := by
          by_cases g : i + m - s = e - 1
          · rw [g]; exact q
          · exact (hr _ (e - 1) (by omega) (by omega) (by omega)).trans q
        by_cases g : j - (e - m) = s
        · rw [g]; exact q1
        · exact q1.trans (hl s _ h1 (by omega) (by omega))
      · rw [no j (by omega)]
        exact hr _ _ (by omega) (by omega) a4
/-- Both halves merged. -/
theorem half_done {key : Int → Int} {f g h : Nat → Int} {a d b : Nat} (hd : a ≤ d) (hb : d ≤ b) (lr : ∀ i j, a ≤ i → i < d → d ≤ j → j < b → LexI key (f i) (f j)) (s1 : SrtF key g a d) (u1 : SubF f g a d) (o1 : OutF f g a d) (s2 : SrtF key h d b) (u2 : SubF g h d b) (o2 : OutF g h d b) : SrtF key h a b ∧ SubF f h a b ∧ OutF f h a b := by
  refine ⟨fun i j a1 a2 a3 => ?_, (u1.wide o1 (Nat.le_refl _) hb).trans (u2.wide o2 hd (Nat.le_refl _)), (o1.wide (Nat.le_refl _) hb).trans (o2.wide hd (Nat.le_refl _))⟩
  by_cases c1 : j < d
  · rw [o2 i (by omega), o2 j (by omega)]
    exact s1 i j a1 a2 c1
  · by_cases c2 : i < d
    · rw [o2 i (by omega)]
      obtain ⟨i', b1, b2, e1⟩ := u1 i a1 c2
      obtain ⟨j', b3, b4, e2⟩ := u2 j (by omega) a3
      rw [e1, e2, o1 j' (by omega)]
      exact lr i' j' b1 b2 b3 b4
    · exact s2 i j (by omega) a2 a3
/-- One element goes up to its place: [a, m) in order, the element at m comes to i. -/
theorem ins_up {key : Int → Int} {f : Nat → Int} {a i m : Nat} (h1 : a ≤ i) (h2 : i ≤ m) (hl : SrtF key f a m) (hu : a < i → LexI key (f (i - 1)) (f m)) (hd : i < m → LexI key (f m) (f i)) : SrtF key (rotF f i m (m + 1)) a (m + 1) := by
  have lo : rotF f i m (m + 1) i = f m := by rw [rotF_lo f (Nat.le_refl _) (by omega)]; congr 1; omega
  have hi : ∀ k, i + 1 ≤ k → k < m + 1 → rotF f i m (m + 1) k = f (k - 1) := fun k a1 a2 => by rw [rotF_hi f (by omega) a2]; congr 1; omega
  have no : ∀ k, k < i → rotF f i m (m + 1) k = f k := fun k a1 => rotF_no f (by omega)
  have up : ∀ k, a ≤ k → k < i → LexI key (f k) (f m) := fun k a1 a2 => by
    by_cases g : k = i - 1
    · rw [g]; exact hu (by omega)
    · exact (hl k (i - 1) a1 (by omega) (by omega)).trans (hu (by omega))
  have dn : ∀ k, i ≤ k → k < m → LexI key (f m) (f k) := fun k a1 a2 => by
    by_cases g : k = i
    · rw [g]; exact hd (by omega)
    · exact (hd (by omega)).trans (hl i k h1 (by omega) a2)
  intro x y a1 a2 a3
  by_cases c1 : y < i
  · rw [no x (by omega), no y c1]
    exact hl x y a1 a2 (by omega)
  · by_cases c2 : y = i
    · rw [c2, lo, no x (by omega)]
      exact up x a1 (by omega)
    · rw [hi y (by omega) a3]
      by_cases c3 : x < i
      · rw [no x c3]
        exact hl x _ a1 (by omega) (by omega)
      · by_cases c4 : x = i
        · rw [c4, lo]
          exact dn _ (by omega) (by omega)
        · rw [hi x (by omega) (by omega)]
          exact hl _ _ (by omega) (by omega) (by omega)
/-- One element goes down to its place: the element at a comes to i - 1, of [a + 1, b) in order. -/
theorem ins_down {key : Int → Int} {f : Nat → Int} {a i b : Nat} (h1 : a + 1 ≤ i) (h2 : i ≤ b) (hr : SrtF key f (a + 1) b) (hu : a + 1 < i → LexI key (f (i - 1)) (f a)) (hd : i < b → LexI key (f a) (f i)) : SrtF key (rotF f a (a + 1) i) a b := by
  have lo : ∀ k, a ≤ k → k < i - 1 → rotF f a (a + 1) i k = f (k + 1) := fun k a1 a2 => by rw [rotF_lo f a1 (by omega)]; congr 1; omega
  have hi : rotF f a (a + 1) i (i - 1) = f a := by rw [rotF_hi f (by omega) (by omega)]; congr 1; omega
  have no : ∀ k, i ≤ k → rotF f a (a + 1) i k = f k := fun k a1 => rotF_no f (by omega)
  have up : ∀ k, a + 1 ≤ k → k < i → LexI key (f k) (f a) := fun k a1 a2 => by
    by_cases g : k = i - 1
    · rw [g]; exact hu (by omega)
    · exact (hr k (i - 1) a1 (by omega) (by omega)).trans (hu (by omega))
  have dn : ∀ k, i ≤ k → k < b → LexI key (f a) (f k) := fun k a1 a2 => by
    by_cases g : k = i
    · rw [g]; exact hd (by omega)
    · exact (hd (by omega)).trans (hr i k h1 (by omega) a2)
  intro x y a1 a2 a3
  by_cases c1 : y < i - 1
  · rw [lo x a1 (by omega), lo y (by omega) c1]
    exact hr _ _ (by omega) (by omega) (by omega)
  · by_cases c2 : y = i - 1
    · rw [c2, hi, lo x a1 (by omega)]
      exact up _ (by omega) (by omega)
    · rw [no y (by omega)]
      by_cases c3 : x < i - 1
      · rw [lo x a1 c3]
        exact hr _ _ (by omega) (by omega) a3
      · by_cases c4 : x = i - 1
        · rw [c4, hi]
          exact dn _ (by omega) a3
        · rw [no x (by omega)]
          exact hr _ _ (by omega) a2 a3
theorem rot_down_step (f : Nat → Int) {a k : Nat} (h : a ≤ k) (x : Nat) : rotF f a (a + 1) (k + 2) x = if x = k + 1 then rotF f a (a + 1) (k + 1) k else if x = k then rotF f a (a + 1) (k + 1) (k + 1) else rotF f a (a + 1) (k + 1) x := by
  by_cases h1 : x = k + 1
  · rw [if_pos h1, h1, rotF_hi f (by omega) (by omega), rotF_hi f (by omega) (by omega)]
    congr 1
    omega
  · rw [if_neg h1]
    by_cases h2 : x = k
    · rw [if_pos h2, h2, rotF_lo f (by omega) (by omega), rotF_no f (by omega)]
      congr 1
      omega
    · rw [if_neg h2]
      by_cases h3 : a ≤ x ∧ x < k
      · rw [rotF_lo f h3.1 (by omega), rotF_lo f h3.1 (by omega)]
      · rw [rotF_no f (by omega), rotF_no f (by omega)]
theorem rot_up_step (f : Nat → Int) {k m : Nat} (h : k + 1 ≤ m) (x : Nat) : rotF f k m (m + 1) x = if x = k then rotF f (k + 1) m (m + 1) (k + 1) else if x = k + 1 then rotF f (k + 1) m (m + 1) k else rotF f (k + 1) m (m + 1) x := by
  by_cases h1 : x = k
  · rw [if_pos h1, h1, rotF_lo f (by omega) (by omega), rotF_lo f (by omega) (by omega)]
    congr 1
    omega
  · rw [if_neg h1]
    by_cases h2 : x = k + 1
    · rw [if_pos h2, h2, rotF_hi f (by omega) (by omega), rotF_no f (by omega)]
      congr 1
      omega
    · rw [if_neg h2]
      by_cases h3 : k + 2 ≤ x ∧ x < m + 1
      · rw [rotF_hi f (by omega) h3.2, rotF_hi f (by omega) h3.2]
      · rw [rotF_no f (by omega), rotF_no f (by omega)]
def cmpI (x y : Int) : Int := if x < y then -1 else if y < x then 1 else 0
theorem cmpI_lt {x y : Int} (h : x < y) : cmpI x y = -1 := if_pos h
theorem cmpI_ge {x y : Int} (h : ¬ x < y) : ∃ z : Int, ¬ z < 0 ∧ cmpI x y = z := by
  refine ⟨_, ?_, rfl⟩
  unfold cmpI
  rw [if_neg h]
  split <;> omega
def ValF (f : Nat → Int) (n : Nat) : Prop := ∀ k, k < n → 0 ≤ f k ∧ f k < (n : Int)
theorem ValF.sub {f g : Nat → Int} {n a b : Nat} (h : ValF f n) (hs : SubF f g a b) (ho : OutF f g a b) (hb : b ≤ n) : ValF g n := fun k hk => by
  obtain ⟨k', -, h2, e⟩ := hs.wide ho (Nat.zero_le _) hb k (Nat.zero_le _) hk
  rw [e]
  exact h k' h2
end Go.Proofs.YtoomffajodheaaaGreatDoor
namespace Go.Proofs.YtoomffajodheaaaGreatDoor
/-- A segment in order that holds its own numbers. -/
def Sg (key : Int → Int) (f : Nat → Int) (a b : Nat) : Prop := SrtF key f a b ∧ ∀ k, a ≤ k → k < b → (a : Int) ≤ f k ∧ f k < (b : Int)
theorem Sg.out {key : Int → Int} {f g : Nat → Int} {a b x y : Nat} (h : Sg key f a b) (ho : OutF f g x y) (hd : b ≤ x ∨ y ≤ a) : Sg key g a b :=
  ⟨h.1.out ho hd, fun k h1 h2 => by rw [ho k (by omega)]; exact h.2 k h1 h2⟩
theorem Sg.crs {key : Int → Int} {f : Nat → Int} {a m b : Nat} (h : Sg key f a m) (h' : Sg key f m b) : CrsF f a m b := fun i j h1 h2 h3 h4 => by
  have := h.2 i h1 h2
  have := h'.2 j h3 h4
  omega
theorem Sg.merged {key : Int → Int} {f g : Nat → Int} {a b : Nat} (hr : ∀ k, a ≤ k → k < b → (a : Int) ≤ f k ∧ f k < (b : Int)) (hs : SrtF key g a b) (hu : SubF f g a b) : Sg key g a b :=
  ⟨hs, fun k h1 h2 => by obtain ⟨k', c1, c2, e⟩ := hu k h1 h2; rw [e]; exact hr k' c1 c2⟩
theorem Sg.both {key : Int → Int} {f : Nat → Int} {a m b : Nat} (h : Sg key f a m) (h' : Sg key f m b) (h1 : a ≤ m) (h2 : m ≤ b) : ∀ k, a ≤ k → k < b → (a : Int) ≤ f k ∧ f k < (b : Int) := fun k c1 c2 => by
  by_cases hk : k < m
  · have := h.2 k c1 hk; omega
  · have := h'.2 k (by omega) c2; omega
inductive Segs (key : Int → Int) (f : Nat → Int) (bs n : Nat) : Nat → Prop
  | done {a : Nat} : n ≤ a → Segs key f bs n a
  | step {a : Nat} : a < n → Sg key f a (min (a + bs) n) → Segs key f bs n (a + bs) → Segs key f bs n a
inductive Pres (key : Int → Int) (f : Nat → Int) (bs : Nat) : Nat → Prop
  | nil : Pres key f bs 0
  | snoc {a : Nat} : Pres key f bs a → Sg key f a (a + bs) → Pres key f bs (a + bs)
theorem Segs.out {key : Int → Int} {f g : Nat → Int} {bs n a x y : Nat} (h : Segs key f bs n a) (ho : OutF f g x y) (hy : y ≤ a) : Segs key g bs n a := by
  induction h with
  | done h => exact .done h
  | step h1 h2 _ ih => exact .step h1 (h2.out ho (.inr hy)) (ih (by omega))
theorem Pres.out {key : Int → Int} {f g : Nat → Int} {bs a x y : Nat} (h : Pres key f bs a) (ho : OutF f g x y) (hx : a ≤ x) : Pres key g bs a := by
  induction h with
  | nil => exact .nil
  | snoc _ h2 ih => exact .snoc (ih (by omega)) (h2.out ho (.inl (by omega)))
theorem Pres.join {key : Int → Int} {f : Nat → Int} {bs n a : Nat} (h : Pres key f bs a) (h0 : 0 < bs) (ha : a ≤ n) (hs : Segs key f bs n a) : Segs key f bs n 0 := by
  induction h with
  | nil => exact hs
  | snoc _ h2 ih => exact ih (by omega) (.step (by omega) (by rw [Nat.min_eq_left ha]; exact h2) hs)
theorem Segs.head {key : Int → Int} {f : Nat → Int} {bs n a : Nat} (h : Segs key f bs n a) (ha : a < n) : Sg key f a (min (a + bs) n) ∧ Segs key f bs n (a + bs) := by
  cases h with
  | done h => omega
  | step _ h1 h2 => exact ⟨h1, h2⟩
end Go.Proofs.YtoomffajodheaaaGreatDoor
namespace Go.Proofs.YtoomffajodheaaaGreatDoor
def LexN (key : Nat → Int) (x y : Nat) : Prop := key x < key y ∨ (key x = key y ∧ x < y)
/-- One more, behind those of keys not greater. -/
def insO (key : Nat → Int) (n : Nat) (l : List Nat) : List Nat := (l.filter fun x => decide (key x ≤ key n)) ++ n :: (l.filter fun x => !decide (key x ≤ key n))
def ordL (key : Nat → Int) : Nat → List Nat
  | 0 => []
  | n + 1 => insO key n (ordL key n)
theorem insO_perm (key : Nat → Int) (n : Nat) (l : List Nat) : (insO key n l).Perm (n :: l) :=
  List.perm_middle.trans ((List.filter_append_perm _ l).cons n)
theorem ordL_perm (key : Nat → Int) (n : Nat) : (ordL key n).Perm (List.range n) := by
  induction n with
  | zero => exact .nil
  | succ n ih =>
    rw [List.range_succ]
    exact ((insO_perm key n _).trans (ih.cons n)).trans (List.perm_append_comm (l₁ := [n]))
theorem insO_lex {key : Nat → Int} {n : Nat} {l : List Nat} (h : l.Pairwise (LexN key)) (hn : ∀ x ∈ l, x < n) : (insO key n l).Pairwise (LexN key) := by
  refine List.pairwise_append.2 ⟨h.sublist List.filter_sublist, List.pairwise_cons.2 ⟨fun y hy => ?_, h.sublist List.filter_sublist⟩, fun x hx y hy => ?_⟩
  · have := List.mem_filter.1 hy
    simp only [Bool.not_eq_true', decide_eq_false_iff_not] at this
    exact .inl (by omega)
  · have h1 := List.mem_filter.1 hx
    simp only [decide_eq_true_eq] at h1
    have h2 := hn x h1.1
    rcases List.mem_cons.1 hy with rfl | hy
    · unfold LexN; omega
    · have h3 := List.mem_filter.1 hy
      simp only [Bool.not_eq_true', decide_eq_false_iff_not] at h3
      unfold LexN; omega
theorem ordL_lt {key : Nat → Int} {n x : Nat} (h : x ∈ ordL key n) : x < n := List.mem_range.1 ((ordL_perm key n).mem_iff.1 h)
theorem ordL_lex (key : Nat → Int) (n : Nat) : (ordL key n).Pairwise (LexN key) := by
  induction n with
  | zero => exact .nil
  | succ n ih => exact insO_lex ih fun x hx => ordL_lt hx
theorem ordL_only {key : Nat → Int} {n : Nat} {l : List Nat} (hp : l.Perm (List.range n)) (hs : l.Pairwise (LexN key)) : l = ordL key n :=
  List.Perm.eq_of_pairwise (le := LexN key) (fun a b _ _ h1 h2 => by unfold LexN at h1 h2; omega) hs (ordL_lex key n) (hp.trans (ordL_perm key n).symm)
theorem ordL_len (key : Nat → Int) (n : Nat) : (ordL key n).length = n := by have := (ordL_perm key n).length_eq; simpa using this
theorem perm_range {l : List Nat} {n : Nat} (hnd : l.Nodup) (hl : l.length = n) (hlt : ∀ x ∈ l, x < n) : l.Perm (List.range n) := by
  refine (List.perm_ext_iff_of_nodup hnd List.nodup_range).2 fun x => ⟨fun hx => List.mem_range.2 (hlt x hx), fun hx => ?_⟩
  refine Classical.byContradiction fun hno => ?_
  have h1 := List.Nodup.length_le_of_subset (List.nodup_cons.2 ⟨hno, hnd⟩) (l₂ := List.range n) (fun y hy => by
    rcases List.mem_cons.1 hy with rfl | hy
    · exact hx
    · exact List.mem_range.2 (hlt y hy))
  simp at h1
  omega
/-- A row in order that holds its own numbers is that order. -/
theorem sg_ord {key : Int → Int} {f : Nat → Int} {n : Nat} (h : Sg key f 0 n) : (List.range n).map (fun k => (f k).toNat) = ordL (fun k => key k) n := by
  have hv : ∀ k, k < n → ((f k).toNat : Int) = f k := fun k hk => by have := h.2 k (Nat.zero_le _) hk; omega
  have hs : ((List.range n).map fun k => (f k).toNat).Pairwise (LexN fun k => key k) := by
    rw [List.pairwise_iff_getElem]
    intro i j hi hj hij
    simp only [List.length_map, List.length_range] at hi hj
    simp only [List.getElem_map, List.getElem_range]
    have := h.1 i j (Nat.zero_le _) hij hj
    unfold LexI at this
    unfold LexN
    simp only
    rw [hv i hi, hv j hj]
    have := hv i hi
    have := hv j hj
    omega
  refine ordL_only ?_ hs
  have hnd : ((List.range n).map fun k => (f k).toNat).Nodup := hs.imp fun {a b} hab e => by subst e; unfold LexN at hab; omega
  refine perm_range hnd (by simp) fun x hx => ?_
  obtain ⟨k, hk, rfl⟩ := List.mem_map.1 hx
  have := h.2 k (Nat.zero_le _) (List.mem_range.1 hk)
  have := List.mem_range.1 hk
  omega
end Go.Proofs.YtoomffajodheaaaGreatDoor
namespace Go.Proofs.YtoomffajodheaaaGreatDoor
open Go.RowKit
set_option maxRecDepth 100000
abbrev IA (w : World) (g n : Nat) (f : Nat → Int) : Prop := Arw w g 3 n fun k => .int .i64 (f k)
theorem IA.swap {w : World} {g n : Nat} {f f' : Nat → Int} (h : IA w g n f) {x y : Nat} (hf : ∀ k, f' k = if k = y then f x else if k = x then f y else f k) :
    IA ((w.setCell ⟨g, x, none⟩ (.int .i64 (f y))).setCell ⟨g, y, none⟩ (.int .i64 (f x))) g n f' := by
  refine (h.set_ (k := x) (d' := fun k => .int .i64 (if k = x then f y else f k)) _ fun j _ => ?_).set_ (k := y) _ fun j _ => ?_
  · by_cases hj : j = x
    · rw [if_pos hj, if_pos hj]
    · rw [if_neg hj, if_neg hj]
  · rw [hf j]
    by_cases hj : j = y
    · rw [if_pos hj, if_pos hj]
    · rw [if_neg hj, if_neg hj]
set_option maxHeartbeats 4000000 in
theorem swapR_any (g n a b m : Nat) (f : Nat → Int) (v : Value) (w : World) (h : IA w g n f) (hab : a + m ≤ b) (hb : b + m ≤ n) (hn : n ≤ 1000000) :
    Calls Tryz.prog 221 #[.slice (some ⟨g, 0, none⟩) n n, .int .i64 a, .int .i64 b, .int .i64 m, v] w fun e w' => e = .returned (.tuple #[]) ∧ IA w' g n (swF f a b m) ∧ OnlyG g w w' := by
  go_enter Tryz.func221, Tryz.ntmps221
  go_wp2_with fail
  go_loopw [10] (fun iv wr => ∃ i : Nat, i ≤ m ∧ iv = .int .i64 i ∧ IA wr g n (swF f a b i) ∧ OnlyG g w wr) (fun iv _ => m - (intOf iv).toNat)
  case atStart => exact ⟨0, Nat.zero_le _, rfl, by rw [swF_zero]; exact h, OnlyG.refl _ _⟩
  case round =>
    obtain ⟨i, hi, rfl, hr, ho⟩ := hrel
    by_cases him : i < m
    · obtain ⟨x, hx⟩ : ∃ x, x = a + i := ⟨_, rfl⟩
      obtain ⟨y, hy⟩ : ∃ y, y = b + i := ⟨_, rfl⟩
      have c0 := hr.cell (k := x) (by omega)
      have c1 := hr.cell (k := y) (by omega)
      have z0 := hr.frozen x
      have z1 := hr.frozen y
      have hq := hr.swap (x := x) (y := y) (f' := swF f a b (i + 1)) (fun k => by
        rw [swF_succ f (by omega) k, hx, hy, swF_a f (by omega), swF_b f (by omega)])
      have HQ := Lib.hid hq
      have HO := Lib.hid (ho.set_ x (.int .i64 (swF f a b i y)) |>.set_ y (.int .i64 (swF f a b i x)))
      have i0 : (0 : Int) ≤ (i : Int) := by omega
      have i1 : (i : Int) < (m : Int) := by omega
      have x0 : (0 : Int) ≤ (x : Int) := by omega
      have x1 : (x : Int) < (n : Int) := by omega
      have y0 : (0 : Int) ≤ (y : Int) := by omega
      have y1 : (y : Int) < (n : Int) := by omega
      have sx : (a : Int) + (i : Int) = (x : Int) := by omega
      have sy : (b : Int) + (i : Int) = (y : Int) := by omega
      have wx : IntKind.i64.wrap (x : Int) = (x : Int) := by rw [IntKind.wrap_i64]; omega
      have wy : IntKind.i64.wrap (y : Int) = (y : Int) := by rw [IntKind.wrap_i64]; omega
      have hne : x ≠ y := by omega
      have hne2 : ¬ y = x := by omega
      obtain ⟨p, hp⟩ : ∃ p, p = swF f a b i x := ⟨_, rfl⟩
      obtain ⟨q, hq⟩ : ∃ q, q = swF f a b i y := ⟨_, rfl⟩
      rw [← hp] at c0
      rw [← hq] at c1
      rw [← hp, ← hq] at HQ HO
      clear hx hy hp hq hr ho
      go_upto_region 3 with fail
      go_region
      go_wp2_with fail
      go_roundw
      case rel => exact ⟨i + 1, him, by go_num, HQ.out, HO.out.drewN 1⟩
      case measure => simp [intOf]; omega
    · obtain rfl : i = m := by omega
      have HR := Lib.hid hr
      go_wp2_with fail
      go_end0
      exact ⟨rfl, HR.out, ho⟩
theorem wrapN {x : Nat} (h : x ≤ 4000000) : IntKind.i64.wrap (x : Int) = (x : Int) := by rw [IntKind.wrap_i64]; omega
set_option maxHeartbeats 4000000 in
theorem rot_any (g n a m b : Nat) (f : Nat → Int) (v : Value) (w : World) (h : IA w g n f) (ham : a < m) (hmb : m < b) (hb : b ≤ n) (hn : n ≤ 1000000) :
    Calls Tryz.prog 206 #[.slice (some ⟨g, 0, none⟩) n n, .int .i64 a, .int .i64 m, .int .i64 b, v] w fun e w' => e = .returned (.tuple #[]) ∧ IA w' g n (rotF f a m b) ∧ OnlyG g w w' := by
  obtain ⟨i0, hi0⟩ : ∃ i0, i0 = m - a := ⟨_, rfl⟩
  obtain ⟨j0, hj0⟩ : ∃ j0, j0 = b - m := ⟨_, rfl⟩
  have si : (m : Int) - (a : Int) = (i0 : Int) := by omega
  have sj : (b : Int) - (m : Int) = (j0 : Int) := by omega
  have wi := wrapN (x := i0) (by omega)
  have wj := wrapN (x := j0) (by omega)
  have hst : rotF f (m - i0) m (m + j0) = rotF f a m b := by rw [hi0, hj0, show m - (m - a) = a by omega, show m + (b - m) = b by omega]
  have b1 : i0 ≤ m := by omega
  have b2 : m + j0 ≤ n := by omega
  have b3 : 0 < i0 := by omega
  have b4 : 0 < j0 := by omega
  have HST := Lib.hid hst
  have HI := Lib.hid h
  clear hi0 hj0 hst h
  go_enter Tryz.func206, Tryz.ntmps206
  go_wp2_with fail
  go_loopw [10, 11] (fun iv jv wr => ∃ (i j : Nat) (F : Nat → Int), 0 < i ∧ 0 < j ∧ i ≤ m ∧ m + j ≤ n ∧ iv = .int .i64 i ∧ jv = .int .i64 j ∧ IA wr g n F ∧ OnlyG g w wr ∧ rotF F (m - i) m (m + j) = rotF f a m b) (fun iv jv _ => (intOf iv).toNat + (intOf jv).toNat)
  case atStart => exact ⟨i0, j0, f, b3, b4, b1, b2, rfl, rfl, HI.out, OnlyG.refl _ _, HST.out⟩
  case round =>
    obtain ⟨i, j, F, c1, c2, c3, c4, rfl, rfl, hr, ho, he⟩ := hrel
    have HR := Lib.hid hr
    have HO := Lib.hid ho
    have HE := Lib.hid he
    clear hr ho he HST HI si sj wi wj b1 b2 b3 b4
    obtain ⟨x, hx⟩ : ∃ x, x = m - i := ⟨_, rfl⟩
    have sx : (m : Int) - (i : Int) = (x : Int) := by omega
    have wx := wrapN (x := x) (by omega)
    have HX := Lib.hid hx
    clear hx
    rcases Nat.lt_trichotomy i j with hij | hij | hij
    · obtain ⟨y, hy⟩ : ∃ y, y = m + j - i := ⟨_, rfl⟩
      obtain ⟨z, hz⟩ : ∃ z, z = m + j := ⟨_, rfl⟩
      have sz : (m : Int) + (j : Int) = (z : Int) := by omega
      have wz := wrapN (x := z) (by omega)
      have sy : (z : Int) - (i : Int) = (y : Int) := by omega
      have wy := wrapN (x := y) (by omega)
      obtain ⟨d, hd⟩ : ∃ d, d = j - i := ⟨_, rfl⟩
      have sd : (j : Int) - (i : Int) = (d : Int) := by omega
      have wd := wrapN (x := d) (by omega)
      have q1 : ¬ (j : Int) < (i : Int) := by omega
      have q2 : ((i : Int) != (j : Int)) = true := by simp; omega
      have hd0 : 0 < d := by omega
      have hdj : d < j := by omega
      have q3 : x + i ≤ y := by rw [HX.out]; omega
      have q4 : y + i ≤ n := by omega
      have q5 : m + d ≤ n := by omega
      have HN := Lib.hid (show rotF (swF F x y i) (m - i) m (m + d) = rotF f a m b by rw [HX.out, hy, hd, rotF_right F c3 c1 hij]; exact HE.out)
      clear hy hz hd
      go_wp2_with fail
      refine (swapR_any g n x y i F v wr HR.out q3 q4 hn).mono ?_
      rintro e w2 ⟨rfl, r2, o2⟩
      have R2 := Lib.hid r2
      have O2 := Lib.hid (HO.out.trans o2)
      clear r2 o2
      go_wp2_with fail
      go_roundw
      case rel => exact ⟨i, d, _, c1, hd0, c3, q5, rfl, rfl, R2.out, O2.out, HN.out⟩
      case measure => simp [intOf]; omega
    · have q2 : ((i : Int) != (j : Int)) = false := by simp; omega
      have HN := Lib.hid (show swF F x m i = rotF f a m b by rw [HX.out, swF_eq_rot F c3]; rw [← HE.out, hij])
      have q3 : x + i ≤ m := by rw [HX.out]; omega
      have q4 : m + i ≤ n := by omega
      clear hij
      go_wp2_with fail
      refine (swapR_any g n x m i F v wr HR.out q3 q4 hn).mono ?_
      rintro e w2 ⟨rfl, r2, o2⟩
      rw [HN.out] at r2
      have R2 := Lib.hid r2
      have O2 := Lib.hid (HO.out.trans o2)
      clear r2 o2
      go_wp2_with fail
      go_end0
      exact ⟨rfl, R2.out, O2.out⟩
    · obtain ⟨d, hd⟩ : ∃ d, d = i - j := ⟨_, rfl⟩
      have sd : (i : Int) - (j : Int) = (d : Int) := by omega
      have wd := wrapN (x := d) (by omega)
      have q1 : (j : Int) < (i : Int) := by omega
      have q2 : ((i : Int) != (j : Int)) = true := by simp; omega
      have hd0 : 0 < d := by omega
      have hdj : d < i := by omega
      have hdm : d ≤ m := by omega
      have q3 : x + j ≤ m := by rw [HX.out]; omega
      have HN := Lib.hid (show rotF (swF F x m j) (m - d) m (m + j) = rotF f a m b by rw [HX.out, hd, rotF_left F c3 hij]; exact HE.out)
      clear hd
      go_wp2_with fail
      refine (swapR_any g n x m j F v wr HR.out q3 c4 hn).mono ?_
      rintro e w2 ⟨rfl, r2, o2⟩
      have R2 := Lib.hid r2
      have O2 := Lib.hid (HO.out.trans o2)
      clear r2 o2
      go_wp2_with fail
      go_roundw
      case rel => exact ⟨d, j, _, hd0, c2, hdm, c4, rfl, rfl, R2.out, O2.out, HN.out⟩
      case measure => simp [intOf]; omega
end Go.Proofs.YtoomffajodheaaaGreatDoor
namespace Go.Proofs.YtoomffajodheaaaGreatDoor
open Go.RowKit
set_option maxRecDepth 100000
/-- What the caller's function compares: numbers, by their keys; and it changes nothing. -/
def CmpOk (key : Int → Int) (n g bA : Nat) (w0 : World) : Prop := ∀ W, OnlyG g w0 W → ∀ x y : Int, 0 ≤ x → x < (n : Int) → 0 ≤ y → y < (n : Int) →
  Calls Tryz.prog 127 #[.int .i64 x, .int .i64 y, .pointer (some ⟨bA, 0, none⟩)] W fun e w' => e = .returned (.int .i64 (cmpI (key x) (key y))) ∧ ∃ q, w' = W.drewN q
def Merged (key : Int → Int) (n g a b : Nat) (f : Nat → Int) (w : World) (e : Ending) (w' : World) : Prop := e = .returned (.tuple #[]) ∧ ∃ f', IA w' g n f' ∧ OnlyG g w w' ∧ SrtF key f' a b ∧ SubF f f' a b ∧ OutF f f' a b
set_option maxHeartbeats 8000000 in
theorem sym_one (key : Int → Int) (g n bA a m b : Nat) (f : Nat → Int) (w0 w : World) (HC : Hid (CmpOk key n g bA w0)) (hm : m = a + 1) (hmb : m < b) (hb : b ≤ n) (hn : n ≤ 1000000) (h : IA w g n f) (ho : OnlyG g w0 w) (hv : ValF f n) (hr : SrtF key f m b) (hc : CrsF f a m b) :
    Calls Tryz.prog 183 #[.slice (some ⟨g, 0, none⟩) n n, .int .i64 a, .int .i64 m, .int .i64 b, .func (.func 127) #[] #[.pointer (some ⟨bA, 0, none⟩)]] w (Merged key n g a b f w) := by
  have s1 : (m : Int) - (a : Int) = 1 := by omega
  have a0 : (0 : Int) ≤ (a : Int) := by omega
  have a1 : (a : Int) < (n : Int) := by omega
  have ce := h.cell (k := a) (by omega)
  have HM := Lib.hid hm
  have HI := Lib.hid h
  have HO := Lib.hid ho
  have HV := Lib.hid hv
  have HR := Lib.hid hr
  have HX := Lib.hid hc
  have ham : a < m := by omega
  clear hm h ho hv hr hc
  go_enter Tryz.func183, Tryz.ntmps183
  go_wp2_with fail
  go_loopw [10, 11] (fun iv jv wr => ∃ i j q : Nat, m ≤ i ∧ i ≤ j ∧ j ≤ b ∧ iv = .int .i64 i ∧ jv = .int .i64 j ∧ wr = w.drewN q ∧ (m < i → LexI key (f (i - 1)) (f a)) ∧ (j < b → LexI key (f a) (f j))) (fun iv jv _ => (intOf jv).toNat - (intOf iv).toNat)
  case atStart => exact ⟨m, b, 0, Nat.le_refl _, by omega, Nat.le_refl _, rfl, rfl, rfl, fun h => by omega, fun h => by omega⟩
  case round =>
    obtain ⟨i, j, q, c1, c2, c3, rfl, rfl, rfl, l1, l2⟩ := hrel
    have L1 := Lib.hid l1
    have L2 := Lib.hid l2
    clear l1 l2
    by_cases hij : i < j
    · skip
      obtain ⟨t, ht⟩ : ∃ t, t = (i + j) / 2 := ⟨_, rfl⟩
      have t0 : i ≤ t := by omega
      have t1 : t < j := by omega
      have c4 : i + j ≤ 4000000 := by omega
      obtain ⟨z, hz⟩ : ∃ z, z = i + j := ⟨_, rfl⟩
      have sz : (i : Int) + (j : Int) = (z : Int) := by omega
      have wz := wrapN (x := z) (by omega)
      have wz2 : IntKind.u64.wrap (z : Int) = (z : Int) := by rw [IntKind.wrap_u64]; omega
      have sh : ((z : Int)) / 2 = (t : Int) := by omega
      have HT := Lib.hid ht
      clear hz ht c4
      go_upto_region 5 with fail
      have T0 : (0 : Int) ≤ (t : Int) := by omega
      have T1 : (t : Int) < (n : Int) := by omega
      have wt := wrapN (x := t) (by omega)
      have ct := HI.out.cell (k := t) (by omega)
      obtain ⟨fe, hfe⟩ : ∃ fe, fe = f a := ⟨_, rfl⟩
      obtain ⟨ft, hft⟩ : ∃ ft, ft = f t := ⟨_, rfl⟩
      have ve := HV.out a (by omega)
      have vt := HV.out t (by omega)
      have hcr := HX.out a t (Nat.le_refl _) ham (by omega) (by omega)
      rw [← hfe] at ce ve hcr
      rw [← hft] at ct vt hcr
      have CC := Lib.hid (show ∀ W, OnlyG g w0 W → Calls Tryz.prog 127 #[.int .i64 ft, .int .i64 fe, .pointer (some ⟨bA, 0, none⟩)] W fun e w' => e = .returned (.int .i64 (cmpI (key ft) (key fe))) ∧ ∃ q, w' = W.drewN q from fun W hW => HC.out W hW ft fe vt.1 vt.2 ve.1 ve.2)
      have HFE := Lib.hid hfe
      have HFT := Lib.hid hft
      by_cases hk : key ft < key fe
      · have HK := Lib.hid (cmpI_lt hk)
        have L3 := Lib.hid (show m < t + 1 → LexI key (f (t + 1 - 1)) (f a) from fun _ => by rw [show t + 1 - 1 = t by omega, ← HFT.out, ← HFE.out]; exact .of_lt hk)
        clear hk hfe hft ve vt hcr
        go_region_held3 (fun W => W.cell? ⟨g, t, none⟩ = some (.int .i64 ft) ∧ W.cell? ⟨g, a, none⟩ = some (.int .i64 fe))
          (first | go_keep | exact ⟨ct, ce⟩)
          ((go_at_call 127; refine (CC.out _ (HO.out.drewN (q + 1))).mono ?_; rw [HK.out]; rintro e w6 ⟨rfl, q6, rfl⟩))
        go_wp2_with fail
        go_roundw
        case rel => exact ⟨t + 1, j, q + 1 + q6, by omega, by omega, c3, by go_num, rfl, rfl, L3.out, L2.out⟩
        case measure => simp [intOf]; omega
      · obtain ⟨y, hy0, hy⟩ := cmpI_ge hk
        have hy1 : decide (y < 0) = false := decide_eq_false hy0
        have hy2 : (0 : Int) ≤ y := by omega
        have HK := Lib.hid hy
        have L3 := Lib.hid (show t < b → LexI key (f a) (f t) from fun _ => by rw [← HFT.out, ← HFE.out]; exact .of_le hk hcr)
        clear hk hfe hft ve vt hcr hy
        go_region_held3 (fun W => W.cell? ⟨g, t, none⟩ = some (.int .i64 ft) ∧ W.cell? ⟨g, a, none⟩ = some (.int .i64 fe))
          (first | go_keep | exact ⟨ct, ce⟩)
          ((go_at_call 127; refine (CC.out _ (HO.out.drewN (q + 1))).mono ?_; rw [HK.out]; rintro e w6 ⟨rfl, q6, rfl⟩))
        go_wp2_with fail
        go_roundw
        case rel => exact ⟨i, t, q + 1 + q6, c1, t0, by omega, rfl, rfl, rfl, L1.out, L3.out⟩
        case measure => simp [intOf]; omega
    · obtain rfl : i = j := by omega
      obtain ⟨i1, hi1⟩ : ∃ i1, i1 = i - 1 := ⟨_, rfl⟩
      have si : (i : Int) - 1 = (i1 : Int) := by omega
      have wi := wrapN (x := i1) (by omega)
      have c5 : a ≤ i1 := by omega
      have c6 : i1 < b := by omega
      have HE := Lib.hid (show i1 + 1 = i by omega)
      have HS := Lib.hid (show SrtF key (rotF f a (a + 1) i) a b from ins_down (by rw [← HM.out]; exact c1) c3 (by rw [← HM.out]; exact HR.out) (fun h => L1.out (by rw [HM.out]; exact h)) L2.out)
      clear hi1 L1 L2 ce
      go_wp2_with fail
      go_loopw [13] (fun kv wr => ∃ k : Nat, a ≤ k ∧ k ≤ i1 ∧ kv = .int .i64 k ∧ IA wr g n (rotF f a (a + 1) (k + 1)) ∧ OnlyG g w wr) (fun kv _ => i1 - (intOf kv).toNat)
      case atStart => exact ⟨a, Nat.le_refl _, c5, rfl, by rw [rotF_nil f a (a + 1) (a + 1) (.inr ⟨rfl, by omega⟩)]; exact HI.out, (OnlyG.refl _ _).drewN q⟩
      case round =>
        obtain ⟨x, d1, d2, rfl, hr, ho2⟩ := hrel
        by_cases hxi : x < i1
        · obtain ⟨y, hy⟩ : ∃ y, y = x + 1 := ⟨_, rfl⟩
          have sy : (x : Int) + 1 = (y : Int) := by omega
          obtain ⟨F, hF⟩ : ∃ F, F = rotF f a (a + 1) (x + 1) := ⟨_, rfl⟩
          rw [← hF] at hr
          have HSTEP := Lib.hid (show ∀ k, rotF f a (a + 1) (y + 1) k = if k = y then F x else if k = x then F y else F k from fun k => by rw [hF, hy]; exact rot_down_step f d1 k)
          have hyx : x < y := by omega
          have hyi : y ≤ i1 := by omega
          have hay : a ≤ y := by omega
          clear hy hF
          have e0 := hr.cell (k := x) (by omega)
          have e1 := hr.cell (k := y) (by omega)
          have z0 := hr.frozen x
          have z1 := hr.frozen y
          have HQ := Lib.hid (hr.swap (x := x) (y := y) HSTEP.out)
          have x0 : (0 : Int) ≤ (x : Int) := by omega
          have x1 : (x : Int) < (n : Int) := by omega
          have y0 : (0 : Int) ≤ (y : Int) := by omega
          have y1 : (y : Int) < (n : Int) := by omega
          have wx := wrapN (x := x) (by omega)
          have wy := wrapN (x := y) (by omega)
          have hne : x ≠ y := by omega
          have hne2 : ¬ y = x := by omega
          obtain ⟨P, hP⟩ : ∃ P, P = F x := ⟨_, rfl⟩
          obtain ⟨Q, hQ⟩ : ∃ Q, Q = F y := ⟨_, rfl⟩
          have HO2 := Lib.hid (ho2.set_ x (.int .i64 (F y)) |>.set_ y (.int .i64 (F x)))
          rw [← hP] at e0
          rw [← hQ] at e1
          rw [← hP, ← hQ] at HQ HO2
          clear hP hQ hr ho2
          go_upto_region 11 with fail
          go_region
          go_wp2_with fail
          go_roundw
          case rel => exact ⟨y, hay, hyi, by first | rfl | go_num, HQ.out, HO2.out.drewN 1⟩
          case measure => simp [intOf]; omega
        · obtain rfl : x = i1 := by omega
          rw [HE.out] at hr
          have HRR := Lib.hid hr
          have HOO := Lib.hid ho2
          have HEN := Lib.hid (show SubF f (rotF f a (a + 1) i) a b ∧ OutF f (rotF f a (a + 1) i) a b from by
            have h1 : a + 1 ≤ i := by rw [← HM.out]; exact c1
            exact ⟨(rotF_sub f (Nat.le_succ a) h1).wide (rotF_out f (Nat.le_succ a) h1) (Nat.le_refl _) c3, (rotF_out f (Nat.le_succ a) h1).wide (Nat.le_refl _) c3⟩)
          clear hr ho2
          go_wp2_with fail
          go_end0
          exact ⟨rfl, _, HRR.out, HOO.out, HS.out, HEN.out.1, HEN.out.2⟩
set_option maxHeartbeats 8000000 in
theorem sym_last (key : Int → Int) (g n bA a m b : Nat) (f : Nat → Int) (w0 w : World) (HC : Hid (CmpOk key n g bA w0)) (ham : a + 1 < m) (hmb : b = m + 1) (hb : b ≤ n) (hn : n ≤ 1000000) (h : IA w g n f) (ho : OnlyG g w0 w) (hv : ValF f n) (hl : SrtF key f a m) (hc : CrsF f a m b) :
    Calls Tryz.prog 183 #[.slice (some ⟨g, 0, none⟩) n n, .int .i64 a, .int .i64 m, .int .i64 b, .func (.func 127) #[] #[.pointer (some ⟨bA, 0, none⟩)]] w (Merged key n g a b f w) := by
  obtain ⟨u, hu⟩ : ∃ u, u = m - a := ⟨_, rfl⟩
  have s0 : (m : Int) - (a : Int) = (u : Int) := by omega
  have u1 : ((u : Int) == 1) = false := beq_eq_false_iff_ne.2 (by omega)
  have u2 : (u : Int) ≠ 1 := by omega
  have wu := wrapN (x := u) (by omega)
  have s1 : (b : Int) - (m : Int) = 1 := by omega
  have m0 : (0 : Int) ≤ (m : Int) := by omega
  have m1 : (m : Int) < (n : Int) := by omega
  have ce := h.cell (k := m) (by omega)
  have hmn : m < n := by omega
  have HB := Lib.hid hmb
  have HI := Lib.hid h
  have HO := Lib.hid ho
  have HV := Lib.hid hv
  have HR := Lib.hid hl
  have HX := Lib.hid hc
  have hmb' : m < b := by omega
  have ham' : a ≤ m := by omega
  clear hmb h ho hv hl hc hu
  go_enter Tryz.func183, Tryz.ntmps183
  go_wp2_with fail
  go_loopw [14, 15] (fun iv jv wr => ∃ i j q : Nat, a ≤ i ∧ i ≤ j ∧ j ≤ m ∧ iv = .int .i64 i ∧ jv = .int .i64 j ∧ wr = w.drewN q ∧ (a < i → LexI key (f (i - 1)) (f m)) ∧ (j < m → LexI key (f m) (f j))) (fun iv jv _ => (intOf jv).toNat - (intOf iv).toNat)
  case atStart => exact ⟨a, m, 0, Nat.le_refl _, ham', Nat.le_refl _, rfl, rfl, rfl, fun h => by omega, fun h => by omega⟩
  case round =>
    obtain ⟨i, j, q, c1, c2, c3, rfl, rfl, rfl, l1, l2⟩ := hrel
    have L1 := Lib.hid l1
    have L2 := Lib.hid l2
    clear l1 l2
    by_cases hij : i < j
    · skip
      obtain ⟨t, ht⟩ : ∃ t, t = (i + j) / 2 := ⟨_, rfl⟩
      have t0 : i ≤ t := by omega
      have t1 : t < j := by omega
      have c4 : i + j ≤ 4000000 := by omega
      obtain ⟨z, hz⟩ : ∃ z, z = i + j := ⟨_, rfl⟩
      have sz : (i : Int) + (j : Int) = (z : Int) := by omega
      have wz := wrapN (x := z) (by omega)
      have wz2 : IntKind.u64.wrap (z : Int) = (z : Int) := by rw [IntKind.wrap_u64]; omega
      have sh : ((z : Int)) / 2 = (t : Int) := by omega
      have HT := Lib.hid ht
      clear hz ht c4
      go_upto_region 17 with fail
      have T0 : (0 : Int) ≤ (t : Int) := by omega
      have T1 : (t : Int) < (n : Int) := by omega
      have wt := wrapN (x := t) (by omega)
      have ct := HI.out.cell (k := t) (by omega)
      obtain ⟨fe, hfe⟩ : ∃ fe, fe = f m := ⟨_, rfl⟩
      obtain ⟨ft, hft⟩ : ∃ ft, ft = f t := ⟨_, rfl⟩
      have ve := HV.out m (by omega)
      have vt := HV.out t (by omega)
      have hcr := HX.out t m (by omega) (by omega) (Nat.le_refl _) hmb'
      rw [← hfe] at ce ve hcr
      rw [← hft] at ct vt hcr
      have CC := Lib.hid (show ∀ W, OnlyG g w0 W → Calls Tryz.prog 127 #[.int .i64 fe, .int .i64 ft, .pointer (some ⟨bA, 0, none⟩)] W fun e w' => e = .returned (.int .i64 (cmpI (key fe) (key ft))) ∧ ∃ q, w' = W.drewN q from fun W hW => HC.out W hW fe ft ve.1 ve.2 vt.1 vt.2)
      have HFE := Lib.hid hfe
      have HFT := Lib.hid hft
      by_cases hk : key fe < key ft
      · have HK := Lib.hid (cmpI_lt hk)
        have L3 := Lib.hid (show t < m → LexI key (f m) (f t) from fun _ => by rw [← HFT.out, ← HFE.out]; exact .of_lt hk)
        clear hk hfe hft ve vt hcr
        go_region_held3 (fun W => W.cell? ⟨g, t, none⟩ = some (.int .i64 ft) ∧ W.cell? ⟨g, m, none⟩ = some (.int .i64 fe))
          (first | go_keep | exact ⟨ct, ce⟩)
          ((go_at_call 127; refine (CC.out _ (HO.out.drewN (q + 1))).mono ?_; rw [HK.out]; rintro e w6 ⟨rfl, q6, rfl⟩))
        go_wp2_with fail
        go_roundw
        case rel => exact ⟨i, t, q + 1 + q6, c1, t0, by omega, rfl, rfl, rfl, L1.out, L3.out⟩
        case measure => simp [intOf]; omega
      · obtain ⟨y, hy0, hy⟩ := cmpI_ge hk
        have hy1 : decide (y < 0) = false := decide_eq_false hy0
        have hy2 : (0 : Int) ≤ y := by omega
        have HK := Lib.hid hy
        have L3 := Lib.hid (show a < t + 1 → LexI key (f (t + 1 - 1)) (f m) from fun _ => by rw [show t + 1 - 1 = t by omega, ← HFT.out, ← HFE.out]; exact .of_le hk hcr)
        clear hk hfe hft ve vt hcr hy
        go_region_held3 (fun W => W.cell? ⟨g, t, none⟩ = some (.int .i64 ft) ∧ W.cell? ⟨g, m, none⟩ = some (.int .i64 fe))
          (first | go_keep | exact ⟨ct, ce⟩)
          ((go_at_call 127; refine (CC.out _ (HO.out.drewN (q + 1))).mono ?_; rw [HK.out]; rintro e w6 ⟨rfl, q6, rfl⟩))
        go_wp2_with fail
        go_roundw
        case rel => exact ⟨t + 1, j, q + 1 + q6, by omega, by omega, c3, by go_num, rfl, rfl, L3.out, L2.out⟩
        case measure => simp [intOf]; omega
    · obtain rfl : i = j := by omega
      have HS := Lib.hid (show SrtF key (rotF f i m (m + 1)) a b by rw [HB.out]; exact ins_up c1 c3 HR.out L1.out L2.out)
      clear L1 L2 ce
      go_wp2_with fail
      go_loopw [17] (fun kv wr => ∃ k : Nat, i ≤ k ∧ k ≤ m ∧ kv = .int .i64 k ∧ IA wr g n (rotF f k m (m + 1)) ∧ OnlyG g w wr) (fun kv _ => (intOf kv).toNat)
      case atStart => exact ⟨m, c3, Nat.le_refl _, rfl, by rw [rotF_nil f m m (m + 1) (.inl rfl)]; exact HI.out, (OnlyG.refl _ _).drewN q⟩
      case round =>
        obtain ⟨x, d1, d2, rfl, hr, ho2⟩ := hrel
        by_cases hxi : i < x
        · obtain ⟨y, hy⟩ : ∃ y, y = x - 1 := ⟨_, rfl⟩
          have sy : (x : Int) - 1 = (y : Int) := by omega
          obtain ⟨F, hF⟩ : ∃ F, F = rotF f x m (m + 1) := ⟨_, rfl⟩
          rw [← hF] at hr
          have HSTEP := Lib.hid (show ∀ k, rotF f y m (m + 1) k = if k = y then F x else if k = x then F y else F k from fun k => by
            have e : x = y + 1 := by omega
            rw [hF, e]; exact rot_up_step f (by omega) k)
          have hyx : y < x := by omega
          have hyi : i ≤ y := by omega
          have hay : y ≤ m := by omega
          clear hy hF
          have e0 := hr.cell (k := x) (by omega)
          have e1 := hr.cell (k := y) (by omega)
          have z0 := hr.frozen x
          have z1 := hr.frozen y
          have HQ := Lib.hid (hr.swap (x := x) (y := y) HSTEP.out)
          have x0 : (0 : Int) ≤ (x : Int) := by omega
          have x1 : (x : Int) < (n : Int) := by omega
          have y0 : (0 : Int) ≤ (y : Int) := by omega
          have y1 : (y : Int) < (n : Int) := by omega
          have wx := wrapN (x := x) (by omega)
          have wy := wrapN (x := y) (by omega)
          have hne : x ≠ y := by omega
          have hne2 : ¬ y = x := by omega
          obtain ⟨P, hP⟩ : ∃ P, P = F x := ⟨_, rfl⟩
          obtain ⟨Q, hQ⟩ : ∃ Q, Q = F y := ⟨_, rfl⟩
          have HO2 := Lib.hid (ho2.set_ x (.int .i64 (F y)) |>.set_ y (.int .i64 (F x)))
          rw [← hP] at e0
          rw [← hQ] at e1
          rw [← hP, ← hQ] at HQ HO2
          clear hP hQ hr ho2
          go_upto_region 23 with fail
          go_region
          go_wp2_with fail
          go_roundw
          case rel => exact ⟨y, hyi, hay, by first | rfl | go_num, HQ.out, HO2.out.drewN 1⟩
          case measure => simp [intOf]; omega
        · obtain rfl : x = i := by omega
          have HRR := Lib.hid hr
          have HOO := Lib.hid ho2
          have HEN := Lib.hid (show SubF f (rotF f x m (m + 1)) a b ∧ OutF f (rotF f x m (m + 1)) a b from by
            rw [HB.out]
            exact ⟨(rotF_sub f c3 (Nat.le_succ m)).wide (rotF_out f c3 (Nat.le_succ m)) c1 (Nat.le_refl _), (rotF_out f c3 (Nat.le_succ m)).wide c1 (Nat.le_refl _)⟩)
          clear hr ho2
          go_wp2_with fail
          go_end0
          exact ⟨rfl, _, HRR.out, HOO.out, HS.out, HEN.out.1, HEN.out.2⟩
end Go.Proofs.YtoomffajodheaaaGreatDoor
namespace Go.Proofs.YtoomffajodheaaaGreatDoor
open Go.RowKit
set_option maxRecDepth 100000
theorem CrsF.out {f g : Nat → Int} {a b a' m' b' : Nat} (h : CrsF f a' m' b') (ho : OutF f g a b) (hd : b' ≤ a ∨ b ≤ a') : CrsF g a' m' b' := fun i j h1 h2 h3 h4 => by
  rw [ho i (by omega), ho j (by omega)]
  exact h i j h1 h2 h3 h4
theorem sym_end {key : Int → Int} {f : Nat → Int} {a m b lo hi nn s : Nat} (e1 : lo ≤ s) (e2 : s ≤ hi) (h1 : a ≤ lo) (h2 : hi ≤ m) (h3 : hi + m ≤ nn) (h4 : nn ≤ lo + b) (h6 : lo = a ∨ nn = lo + b) (h7 : hi = m ∨ nn = hi + m)
    (l1 : lo < s → LexI key (f (s - 1)) (f (nn - 1 - (s - 1)))) (l2 : s < hi → LexI key (f (nn - 1 - s)) (f s)) (hl : SrtF key f a m) (hr : SrtF key f m b) (hc : CrsF f a m b) :
    HalfF key (rotF f s m (nn - s)) a s (s + (nn - s - m)) (nn - s) b :=
  half_of (by omega) (by omega) (by omega) (by omega) hl hr hc
    (fun g1 g2 => by
      have := l1 (by omega)
      rw [show nn - 1 - (s - 1) = nn - s by omega] at this
      exact this)
    (fun g1 g2 => by
      have := l2 (by omega)
      rw [show nn - 1 - s = nn - s - 1 by omega] at this
      exact this)
set_option maxHeartbeats 8000000 in
theorem sym_step (key : Int → Int) (g n bA a m b : Nat) (f : Nat → Int) (w0 w : World) (HC : Hid (CmpOk key n g bA w0)) (ham : a + 1 < m) (hmb : m + 1 < b) (hb : b ≤ n) (hn : n ≤ 1000000) (h : IA w g n f) (ho : OnlyG g w0 w) (hv : ValF f n) (hl : SrtF key f a m) (hr : SrtF key f m b) (hc : CrsF f a m b)
    (IH : ∀ (a' m' b' : Nat) (f' : Nat → Int) (w' : World), b' - a' < b - a → a' < m' → m' < b' → b' ≤ n → IA w' g n f' → OnlyG g w0 w' → ValF f' n → SrtF key f' a' m' → SrtF key f' m' b' → CrsF f' a' m' b' →
      Calls Tryz.prog 183 #[.slice (some ⟨g, 0, none⟩) n n, .int .i64 a', .int .i64 m', .int .i64 b', .func (.func 127) #[] #[.pointer (some ⟨bA, 0, none⟩)]] w' (Merged key n g a' b' f' w')) :
    Calls Tryz.prog 183 #[.slice (some ⟨g, 0, none⟩) n n, .int .i64 a, .int .i64 m, .int .i64 b, .func (.func 127) #[] #[.pointer (some ⟨bA, 0, none⟩)]] w (Merged key n g a b f w) := by
  obtain ⟨u, hu⟩ : ∃ u, u = m - a := ⟨_, rfl⟩
  have s0 : (m : Int) - (a : Int) = (u : Int) := by omega
  have u1 : ((u : Int) == 1) = false := beq_eq_false_iff_ne.2 (by omega)
  have u2 : (u : Int) ≠ 1 := by omega
  have wu := wrapN (x := u) (by omega)
  obtain ⟨v, hvv⟩ : ∃ v, v = b - m := ⟨_, rfl⟩
  have s1 : (b : Int) - (m : Int) = (v : Int) := by omega
  have v1 : ((v : Int) == 1) = false := beq_eq_false_iff_ne.2 (by omega)
  have v2 : (v : Int) ≠ 1 := by omega
  have wv := wrapN (x := v) (by omega)
  obtain ⟨z, hz⟩ : ∃ z, z = a + b := ⟨_, rfl⟩
  obtain ⟨mid, hmid⟩ : ∃ mid, mid = z / 2 := ⟨_, rfl⟩
  obtain ⟨nn, hnn⟩ : ∃ nn, nn = mid + m := ⟨_, rfl⟩
  obtain ⟨p, hp⟩ : ∃ p, p = nn - 1 := ⟨_, rfl⟩
  have sz : (a : Int) + (b : Int) = (z : Int) := by omega
  have wz := wrapN (x := z) (by omega)
  have wz2 : IntKind.u64.wrap (z : Int) = (z : Int) := by rw [IntKind.wrap_u64]; omega
  have sh : ((z : Int)) / 2 = (mid : Int) := by omega
  have wm := wrapN (x := mid) (by omega)
  have sn : (mid : Int) + (m : Int) = (nn : Int) := by omega
  have wn := wrapN (x := nn) (by omega)
  have sp : (nn : Int) - 1 = (p : Int) := by omega
  have wp := wrapN (x := p) (by omega)
  obtain ⟨lo, hi, hlh1, hlh2⟩ : ∃ lo hi : Nat, (mid < m → lo = nn - b ∧ hi = mid) ∧ (¬ mid < m → lo = a ∧ hi = m) := by
    by_cases hx : mid < m
    · exact ⟨nn - b, mid, fun _ => ⟨rfl, rfl⟩, fun h => absurd hx h⟩
    · exact ⟨a, m, fun h => absurd h hx, fun _ => ⟨rfl, rfl⟩⟩
  have k0 : lo ≤ hi ∧ a ≤ lo ∧ hi ≤ m ∧ hi + m ≤ nn ∧ nn ≤ lo + b ∧ hi ≤ mid ∧ (lo = a ∨ nn = lo + b) ∧ (hi = m ∨ nn = hi + m) := by
    by_cases hx : mid < m
    · obtain ⟨rfl, rfl⟩ := hlh1 hx
      omega
    · obtain ⟨rfl, rfl⟩ := hlh2 hx
      omega
  obtain ⟨k1, k2, k3, k4, k5, k6, k7, k8⟩ := k0
  have hsb : mid < m → (nn : Int) - (b : Int) = (lo : Int) := fun hx => by
    obtain ⟨h1, -⟩ := hlh1 hx
    omega
  have wlo := wrapN (x := lo) (by omega)
  have hma : a < mid ∧ mid < b := by omega
  have HK := Lib.hid (show (lo = a ∨ nn = lo + b) ∧ (hi = m ∨ nn = hi + m) from ⟨k7, k8⟩)
  have HL1 := Lib.hid hlh1
  have HL2 := Lib.hid hlh2
  have HSB := Lib.hid hsb
  have HN := Lib.hid (show nn = mid + m ∧ p = nn - 1 ∧ mid = (a + b) / 2 by omega)
  have HI := Lib.hid h
  have HO := Lib.hid ho
  have HV := Lib.hid hv
  have HL := Lib.hid hl
  have HR := Lib.hid hr
  have HX := Lib.hid hc
  have HIH := Lib.hid IH
  clear hu hvv hz hmid hnn hp hlh1 hlh2 hsb k7 k8 h ho hv hl hr hc IH
  go_enter Tryz.func183, Tryz.ntmps183
  go_upto_if 140 with fail
  go_cut [20, 21] from 141 to 146 (fun x y wx => x = .int .i64 lo ∧ y = .int .i64 hi ∧ wx = w)
  case first =>
    by_cases hx : mid < m
    · have hsl := HSB.out hx
      go_wp2_with fail
      go_meet
      obtain ⟨e1, e2⟩ := HL1.out hx
      exact ⟨by first | rfl | rw [e1], by rw [e2], rfl⟩
    · go_wp2_with fail
      go_meet
      obtain ⟨e1, e2⟩ := HL2.out hx
      exact ⟨by rw [e1], by rw [e2], rfl⟩
  case rest =>
  obtain ⟨rfl, rfl, rfl⟩ := hcut
  go_wp2_with fail
  go_loopw [20, 21] (fun iv jv wr => ∃ i j q : Nat, lo ≤ i ∧ i ≤ j ∧ j ≤ hi ∧ iv = .int .i64 i ∧ jv = .int .i64 j ∧ wr = wc.drewN q ∧ (lo < i → LexI key (f (i - 1)) (f (nn - 1 - (i - 1)))) ∧ (j < hi → LexI key (f (nn - 1 - j)) (f j))) (fun iv jv _ => (intOf jv).toNat - (intOf iv).toNat)
  case atStart => exact ⟨lo, hi, 0, Nat.le_refl _, k1, Nat.le_refl _, rfl, rfl, rfl, fun h => by omega, fun h => by omega⟩
  case round =>
    obtain ⟨i, j, q, c1, c2, c3, rfl, rfl, rfl, l1, l2⟩ := hrel
    have L1 := Lib.hid l1
    have L2 := Lib.hid l2
    clear l1 l2
    by_cases hij : i < j
    · obtain ⟨t, ht⟩ : ∃ t, t = (i + j) / 2 := ⟨_, rfl⟩
      have t0 : i ≤ t := by omega
      have t1 : t < j := by omega
      obtain ⟨y, hy⟩ : ∃ y, y = i + j := ⟨_, rfl⟩
      have sy : (i : Int) + (j : Int) = (y : Int) := by omega
      have wy := wrapN (x := y) (by omega)
      have wy2 : IntKind.u64.wrap (y : Int) = (y : Int) := by rw [IntKind.wrap_u64]; omega
      have sh2 : ((y : Int)) / 2 = (t : Int) := by omega
      obtain ⟨o, hoo⟩ : ∃ o, o = nn - 1 - t := ⟨_, rfl⟩
      obtain ⟨hn1, hn2, hn3⟩ := HN.out
      have so : (p : Int) - (t : Int) = (o : Int) := by omega
      have wo := wrapN (x := o) (by omega)
      have o0 : m ≤ o := by omega
      have o1 : o < b := by omega
      have HT := Lib.hid ht
      have HOO := Lib.hid hoo
      clear hy ht hoo hn1 hn2 hn3
      go_upto_region 35 with fail
      have T0 : (0 : Int) ≤ (t : Int) := by omega
      have T1 : (t : Int) < (n : Int) := by omega
      have O0 : (0 : Int) ≤ (o : Int) := by omega
      have O1 : (o : Int) < (n : Int) := by omega
      have wt := wrapN (x := t) (by omega)
      have ct := HI.out.cell (k := t) (by omega)
      have co := HI.out.cell (k := o) (by omega)
      obtain ⟨ft, hft⟩ : ∃ ft, ft = f t := ⟨_, rfl⟩
      obtain ⟨fo, hfo⟩ : ∃ fo, fo = f o := ⟨_, rfl⟩
      have vt := HV.out t (by omega)
      have vo := HV.out o (by omega)
      have hcr := HX.out t o (by omega) (by omega) o0 o1
      rw [← hft] at ct vt hcr
      rw [← hfo] at co vo hcr
      have CC := Lib.hid (show ∀ W, OnlyG g w0 W → Calls Tryz.prog 127 #[.int .i64 fo, .int .i64 ft, .pointer (some ⟨bA, 0, none⟩)] W fun e w' => e = .returned (.int .i64 (cmpI (key fo) (key ft))) ∧ ∃ q, w' = W.drewN q from fun W hW => HC.out W hW fo ft vo.1 vo.2 vt.1 vt.2)
      have HFT := Lib.hid hft
      have HFO := Lib.hid hfo
      by_cases hk : key fo < key ft
      · have HK2 := Lib.hid (cmpI_lt hk)
        have L3 := Lib.hid (show t < hi → LexI key (f (nn - 1 - t)) (f t) from fun _ => by rw [← HOO.out, ← HFT.out, ← HFO.out]; exact .of_lt hk)
        clear hk hft hfo vt vo hcr
        go_region_held3 (fun W => W.cell? ⟨g, o, none⟩ = some (.int .i64 fo) ∧ W.cell? ⟨g, t, none⟩ = some (.int .i64 ft))
          (first | go_keep | exact ⟨co, ct⟩)
          ((go_at_call 127; refine (CC.out _ (HO.out.drewN (q + 1))).mono ?_; rw [HK2.out]; rintro e w6 ⟨rfl, q6, rfl⟩))
        go_wp2_with fail
        go_roundw
        case rel => exact ⟨i, t, q + 1 + q6, c1, t0, by omega, rfl, rfl, rfl, L1.out, L3.out⟩
        case measure => simp [intOf]; omega
      · obtain ⟨x, hx0, hx⟩ := cmpI_ge hk
        have hx1 : decide (x < 0) = false := decide_eq_false hx0
        have hx2 : (0 : Int) ≤ x := by omega
        have HK2 := Lib.hid hx
        have L3 := Lib.hid (show lo < t + 1 → LexI key (f (t + 1 - 1)) (f (nn - 1 - (t + 1 - 1))) from fun _ => by rw [show t + 1 - 1 = t by omega, ← HOO.out, ← HFT.out, ← HFO.out]; exact .of_le hk hcr)
        clear hk hft hfo vt vo hcr hx
        go_region_held3 (fun W => W.cell? ⟨g, o, none⟩ = some (.int .i64 fo) ∧ W.cell? ⟨g, t, none⟩ = some (.int .i64 ft))
          (first | go_keep | exact ⟨co, ct⟩)
          ((go_at_call 127; refine (CC.out _ (HO.out.drewN (q + 1))).mono ?_; rw [HK2.out]; rintro e w6 ⟨rfl, q6, rfl⟩))
        go_wp2_with fail
        go_roundw
        case rel => exact ⟨t + 1, j, q + 1 + q6, by omega, by omega, c3, by go_num, rfl, rfl, L3.out, L2.out⟩
        case measure => simp [intOf]; omega
    · obtain rfl : i = j := by omega
      obtain ⟨X, hX⟩ : ∃ X : World, X = wc.drewN q := ⟨_, rfl⟩
      have HIX := Lib.hid (show IA X g n f by rw [hX]; exact HI.out.drewN q)
      have HOX := Lib.hid (show OnlyG g wc X by rw [hX]; exact (OnlyG.refl _ _).drewN q)
      rw [← hX]
      obtain ⟨e, he⟩ : ∃ e, e = nn - i := ⟨_, rfl⟩
      have se : (nn : Int) - (i : Int) = (e : Int) := by omega
      have we := wrapN (x := e) (by omega)
      have hmd : i + (nn - i - m) = mid := by have := HN.out; omega
      have HF := sym_end c1 c3 k2 k3 k4 k5 HK.out.1 HK.out.2 L1.out L2.out HL.out HR.out HX.out
      rw [hmd, ← he] at HF
      have HF := Lib.hid HF
      have q1 : m ≤ e := by omega
      have q2 : e ≤ b := by omega
      have q3 : i ≤ mid := by omega
      have q4 : mid ≤ e := by have := HN.out; omega
      have q5 : i ≤ m := by omega
      have q6 : a ≤ i := by omega
      clear hX he hmd L1 L2 HK HL HR
      go_upto_region 39 with fail
      go_cut [185] from 178 to 185 (fun x wx => x = .bool (decide (i < m ∧ m < e)) ∧ wx = X)
      case first =>
        by_cases d1 : i < m
        · have d3 : (i : Int) < (m : Int) := by omega
          by_cases d2 : m < e
          · have d4 : (m : Int) < (e : Int) := by omega
            go_wp2_with fail
            go_meet
            rw [decide_eq_true (show i < m ∧ m < e from ⟨d1, d2⟩)]
            exact ⟨rfl, rfl⟩
          · have d4 : ¬ (m : Int) < (e : Int) := by omega
            go_wp2_with fail
            go_meet
            rw [decide_eq_false (show ¬ (i < m ∧ m < e) from fun h => d2 h.2)]
            exact ⟨by first | rfl | simp [d2], rfl⟩
        · have d3 : ¬ (i : Int) < (m : Int) := by omega
          go_wp2_with fail
          go_meet
          rw [decide_eq_false (show ¬ (i < m ∧ m < e) from fun h => d1 h.1)]
          exact ⟨rfl, rfl⟩
      case rest =>
      obtain ⟨hbx, hwc⟩ := hcut
      obtain ⟨bb, hbb⟩ : ∃ bb, bb = decide (i < m ∧ m < e) := ⟨_, rfl⟩
      rw [← hbb] at hbx
      subst hbx
      have HBB := Lib.hid hbb
      clear hbb
      rename World => V0
      have HIX0 := Lib.hid (show IA V0 g n f by rw [hwc]; exact HIX.out)
      have HOX0 := Lib.hid (show OnlyG g wc V0 by rw [hwc]; exact HOX.out)
      clear hwc HIX HOX
      obtain ⟨F1, hF1⟩ : ∃ F1, F1 = rotF f i m e := ⟨_, rfl⟩
      have HRB := Lib.hid (show SubF f F1 a b ∧ OutF f F1 a b by rw [hF1]; exact ⟨(rotF_sub f q5 q1).wide (rotF_out f q5 q1) q6 q2, (rotF_out f q5 q1).wide q6 q2⟩)
      rw [← hF1] at HF
      have HF1 := Lib.hid hF1
      clear hF1 X
      go_upto_if 185 with fail
      go_cut [] from 186 to 191 (fun wx => IA wx g n F1 ∧ OnlyG g wc wx)
      case first =>
        cases bb with
        | true =>
          have d1 := of_decide_eq_true HBB.out.symm
          clear HBB
          obtain ⟨d1, d2⟩ := d1
          go_wp2_with fail
          refine (rot_any g n i m e f _ V0 HIX0.out d1 d2 (Nat.le_trans q2 hb) hn).mono ?_
          rintro e9 w9 ⟨rfl, r9, o9⟩
          rw [← HF1.out] at r9
          have R9 := Lib.hid r9
          have O9 := Lib.hid (HOX0.out.trans o9)
          clear r9 o9
          go_wp2_with fail
          go_meet
          exact ⟨R9.out, O9.out⟩
        | false =>
          have d1 := of_decide_eq_false HBB.out.symm
          clear HBB
          have hz : F1 = f := by rw [HF1.out]; exact rotF_nil f i m e (by omega)
          clear d1
          go_wp2_with fail
          go_meet
          rw [hz]
          exact ⟨HIX0.out, HOX0.out⟩
      case rest =>
      rename World => V1
      have HI1 := Lib.hid hcut.1
      have HO1 := Lib.hid hcut.2
      clear hcut HIX0 HOX0 HF1 V0
      have HV1 := Lib.hid (HV.out.sub HRB.out.1 HRB.out.2 hb)
      go_upto_region 41 with fail
      go_cut [199] from 192 to 199 (fun x wx => x = .bool (decide (a < i ∧ i < mid)) ∧ wx = V1)
      case first =>
        by_cases d1 : a < i
        · have d3 : (a : Int) < (i : Int) := by omega
          by_cases d2 : i < mid
          · have d4 : (i : Int) < (mid : Int) := by omega
            go_wp2_with fail
            go_meet
            rw [decide_eq_true (show a < i ∧ i < mid from ⟨d1, d2⟩)]
            exact ⟨rfl, rfl⟩
          · have d4 : ¬ (i : Int) < (mid : Int) := by omega
            go_wp2_with fail
            go_meet
            rw [decide_eq_false (show ¬ (a < i ∧ i < mid) from fun h => d2 h.2)]
            exact ⟨by first | rfl | simp [d2], rfl⟩
        · have d3 : ¬ (a : Int) < (i : Int) := by omega
          go_wp2_with fail
          go_meet
          rw [decide_eq_false (show ¬ (a < i ∧ i < mid) from fun h => d1 h.1)]
          exact ⟨rfl, rfl⟩
      case rest =>
      obtain ⟨hbx, hwc⟩ := hcut
      obtain ⟨bb, hbb⟩ : ∃ bb, bb = decide (a < i ∧ i < mid) := ⟨_, rfl⟩
      rw [← hbb] at hbx
      subst hbx
      have HBB := Lib.hid hbb
      clear hbb
      rename World => V2
      have HI2 := Lib.hid (show IA V2 g n F1 by rw [hwc]; exact HI1.out)
      have HO2 := Lib.hid (show OnlyG g wc V2 by rw [hwc]; exact HO1.out)
      clear hwc HI1 HO1 V1
      go_upto_if 199 with fail
      go_cut [] from 200 to 205 (fun wx => ∃ G, IA wx g n G ∧ OnlyG g wc wx ∧ SrtF key G a mid ∧ SubF F1 G a mid ∧ OutF F1 G a mid)
      case first =>
        cases bb with
        | true =>
          have d1 := of_decide_eq_true HBB.out.symm
          clear HBB
          obtain ⟨d1, d2⟩ := d1
          go_wp2_with fail
          refine (HIH.out a i mid F1 V2 (by omega) d1 d2 (by omega) HI2.out (HO.out.trans HO2.out) HV1.out HF.out.l1 HF.out.l2 HF.out.lc).mono ?_
          rintro e9 w9 ⟨rfl, G, r1, r2, r3, r4, r5⟩
          have R9 := Lib.hid (show ∃ G, IA w9 g n G ∧ OnlyG g wc w9 ∧ SrtF key G a mid ∧ SubF F1 G a mid ∧ OutF F1 G a mid from ⟨G, r1, HO2.out.trans r2, r3, r4, r5⟩)
          clear r1 r2 r3 r4 r5
          go_wp2_with fail
          go_meet
          exact R9.out
        | false =>
          have d1 := of_decide_eq_false HBB.out.symm
          clear HBB
          have hs : SrtF key F1 a mid := by
            by_cases d2 : i = a
            · have := HF.out.l2; rw [d2] at this; exact this
            · have := HF.out.l1; rw [show i = mid by omega] at this; exact this
          have HS := Lib.hid hs
          clear d1 hs
          go_wp2_with fail
          go_meet
          exact ⟨F1, HI2.out, HO2.out, HS.out, SubF.refl _ _ _, fun _ _ => rfl⟩
      case rest =>
      rename World => V3
      obtain ⟨G1, g1, g2, g3, g4, g5⟩ := hcut
      have HG1 := Lib.hid g1
      have HG2 := Lib.hid g2
      have HG := Lib.hid (show SrtF key G1 a mid ∧ SubF F1 G1 a mid ∧ OutF F1 G1 a mid from ⟨g3, g4, g5⟩)
      have HVG := Lib.hid (HV1.out.sub g4 g5 (by omega))
      have HR1 := Lib.hid (show SrtF key G1 mid e ∧ SrtF key G1 e b ∧ CrsF G1 mid e b from ⟨HF.out.r1.out g5 (.inr (Nat.le_refl _)), HF.out.r2.out g5 (.inr q4), HF.out.rc.out g5 (.inr (Nat.le_refl _))⟩)
      clear g1 g2 g3 g4 g5 HI2 HO2 V2 HV1
      go_upto_region 43 with fail
      go_cut [213] from 206 to 213 (fun x wx => x = .bool (decide (mid < e ∧ e < b)) ∧ wx = V3)
      case first =>
        by_cases d1 : mid < e
        · have d3 : (mid : Int) < (e : Int) := by omega
          by_cases d2 : e < b
          · have d4 : (e : Int) < (b : Int) := by omega
            go_wp2_with fail
            go_meet
            rw [decide_eq_true (show mid < e ∧ e < b from ⟨d1, d2⟩)]
            exact ⟨rfl, rfl⟩
          · have d4 : ¬ (e : Int) < (b : Int) := by omega
            go_wp2_with fail
            go_meet
            rw [decide_eq_false (show ¬ (mid < e ∧ e < b) from fun h => d2 h.2)]
            exact ⟨by first | rfl | simp [d2], rfl⟩
        · have d3 : ¬ (mid : Int) < (e : Int) := by omega
          go_wp2_with fail
          go_meet
          rw [decide_eq_false (show ¬ (mid < e ∧ e < b) from fun h => d1 h.1)]
          exact ⟨rfl, rfl⟩
      case rest =>
      obtain ⟨hbx, hwc⟩ := hcut
      obtain ⟨bb, hbb⟩ : ∃ bb, bb = decide (mid < e ∧ e < b) := ⟨_, rfl⟩
      rw [← hbb] at hbx
      subst hbx
      have HBB := Lib.hid hbb
      clear hbb
      rename World => V4
      have HI4 := Lib.hid (show IA V4 g n G1 by rw [hwc]; exact HG1.out)
      have HO4 := Lib.hid (show OnlyG g wc V4 by rw [hwc]; exact HG2.out)
      clear hwc HG1 HG2 V3
      cases bb with
      | true =>
        have d1 := of_decide_eq_true HBB.out.symm
        clear HBB
        obtain ⟨d1, d2⟩ := d1
        go_wp2_with fail
        refine (HIH.out mid e b G1 V4 (by omega) d1 d2 hb HI4.out (HO.out.trans HO4.out) HVG.out HR1.out.1 HR1.out.2.1 HR1.out.2.2).mono ?_
        rintro e9 w9 ⟨rfl, H9, r1, r2, r3, r4, r5⟩
        obtain ⟨z1, z2, z3⟩ := half_done (Nat.le_of_lt hma.1) (Nat.le_of_lt hma.2) HF.out.lr HG.out.1 HG.out.2.1 HG.out.2.2 r3 r4 r5
        have R9 := Lib.hid (show ∃ f', IA w9 g n f' ∧ OnlyG g wc w9 ∧ SrtF key f' a b ∧ SubF f f' a b ∧ OutF f f' a b from ⟨H9, r1, HO4.out.trans r2, z1, HRB.out.1.trans z2, HRB.out.2.trans z3⟩)
        clear r1 r2 r3 r4 r5 z1 z2 z3
        go_wp2_with fail
        go_end0
        exact ⟨rfl, R9.out⟩
      | false =>
        have d1 := of_decide_eq_false HBB.out.symm
        clear HBB
        have hs : SrtF key G1 mid b := by
          by_cases d2 : e = mid
          · have := HR1.out.2.1; rw [d2] at this; exact this
          · have := HR1.out.1; rw [show e = b by omega] at this; exact this
        obtain ⟨z1, z2, z3⟩ := half_done (Nat.le_of_lt hma.1) (Nat.le_of_lt hma.2) HF.out.lr HG.out.1 HG.out.2.1 HG.out.2.2 hs (SubF.refl _ _ _) (fun _ _ => rfl)
        have R9 := Lib.hid (show ∃ f', IA V4 g n f' ∧ OnlyG g wc V4 ∧ SrtF key f' a b ∧ SubF f f' a b ∧ OutF f f' a b from ⟨G1, HI4.out, HO4.out, z1, HRB.out.1.trans z2, HRB.out.2.trans z3⟩)
        clear d1 hs z1 z2 z3
        go_wp2_with fail
        go_end0
        exact ⟨rfl, R9.out⟩
theorem sym_any (key : Int → Int) (g n bA : Nat) (w0 : World) (HC : Hid (CmpOk key n g bA w0)) (hn : n ≤ 1000000) : ∀ (s a m b : Nat) (f : Nat → Int) (w : World), b - a ≤ s → a < m → m < b → b ≤ n → IA w g n f → OnlyG g w0 w → ValF f n → SrtF key f a m → SrtF key f m b → CrsF f a m b →
    Calls Tryz.prog 183 #[.slice (some ⟨g, 0, none⟩) n n, .int .i64 a, .int .i64 m, .int .i64 b, .func (.func 127) #[] #[.pointer (some ⟨bA, 0, none⟩)]] w (Merged key n g a b f w) := by
  intro s
  induction s with
  | zero => intro a m b f w h1 h2 h3; omega
  | succ s ih =>
    intro a m b f w h1 h2 h3 h4 h5 h6 h7 h8 h9 h10
    by_cases c1 : m = a + 1
    · exact sym_one key g n bA a m b f w0 w HC c1 h3 h4 hn h5 h6 h7 h9 h10
    · by_cases c2 : b = m + 1
      · exact sym_last key g n bA a m b f w0 w HC (by omega) c2 h4 hn h5 h6 h7 h8 h10
      · exact sym_step key g n bA a m b f w0 w HC (by omega) (by omega) h4 hn h5 h6 h7 h8 h9 h10 fun a' m' b' f' w' g1 => ih a' m' b' f' w' (by omega)
end Go.Proofs.YtoomffajodheaaaGreatDoor
namespace Go.Proofs.YtoomffajodheaaaGreatDoor
open Go.RowKit
set_option maxRecDepth 100000
set_option maxHeartbeats 8000000 in
theorem ins_any (key : Int → Int) (g n bA a b : Nat) (f : Nat → Int) (w0 w : World) (HC : Hid (CmpOk key n g bA w0)) (hab : a ≤ b) (hb : b ≤ n) (hn : n ≤ 1000000) (h : IA w g n f) (ho : OnlyG g w0 w) (hv : ValF f n) (hup : ∀ i j, a ≤ i → i < j → j < b → f i < f j) :
    Calls Tryz.prog 182 #[.slice (some ⟨g, 0, none⟩) n n, .int .i64 a, .int .i64 b, .func (.func 127) #[] #[.pointer (some ⟨bA, 0, none⟩)]] w (Merged key n g a b f w) := by
  obtain ⟨a1, ha1⟩ : ∃ a1, a1 = a + 1 := ⟨_, rfl⟩
  have sa : (a : Int) + 1 = (a1 : Int) := by omega
  have wa := wrapN (x := a1) (by omega)
  have HA := Lib.hid ha1
  have HI := Lib.hid h
  have HO := Lib.hid ho
  have HV := Lib.hid hv
  have HU := Lib.hid hup
  clear ha1 h ho hv hup
  go_enter Tryz.func182, Tryz.ntmps182
  go_wp2_with fail
  go_loopw [8] (fun iv wr => ∃ (i : Nat) (F : Nat → Int), a1 ≤ i ∧ (i ≤ b ∨ i = a1) ∧ iv = .int .i64 i ∧ IA wr g n F ∧ OnlyG g w wr ∧ SrtF key F a i ∧ SubF f F a i ∧ OutF f F a i) (fun iv _ => b - (intOf iv).toNat)
  case atStart => exact ⟨a1, f, Nat.le_refl _, .inr rfl, rfl, HI.out, OnlyG.refl _ _, fun i j h1 h2 h3 => by have := HA.out; omega, SubF.refl _ _ _, fun _ _ => rfl⟩
  case round =>
    obtain ⟨i, F, c1, c2, rfl, r1, r2, r3, r4, r5⟩ := hrel
    have R1 := Lib.hid r1
    have R2 := Lib.hid r2
    have R3 := Lib.hid r3
    have R4 := Lib.hid r4
    have R5 := Lib.hid r5
    clear r1 r2 r3 r4 r5
    by_cases hib : i < b
    · have hai : a < i := by have := HA.out; omega
      have HVF := Lib.hid (HV.out.sub R4.out R5.out (show i ≤ n by omega))
      have HLT := Lib.hid (show ∀ k, a ≤ k → k < i → F k < F i from fun k h1 h2 => by
        obtain ⟨k', d1, d2, e⟩ := R4.out k h1 h2
        rw [e, R5.out i (.inr (Nat.le_refl _))]
        exact HU.out k' i d1 d2 hib)
      go_wp2_with fail
      go_loopw [9] (fun jv wr => ∃ j : Nat, a ≤ j ∧ j ≤ i ∧ jv = .int .i64 j ∧ IA wr g n (rotF F j i (i + 1)) ∧ OnlyG g w wr ∧ (j < i → LexI key (F i) (F j))) (fun jv _ => (intOf jv).toNat)
      case atStart => exact ⟨i, Nat.le_of_lt hai, Nat.le_refl _, rfl, by rw [rotF_nil F i i (i + 1) (.inl rfl)]; exact R1.out, R2.out, fun h => by omega⟩
      case round =>
        obtain ⟨x, d1, d2, rfl, hr, ho2, l1⟩ := hrel
        have L1 := Lib.hid l1
        clear l1
        have HEND := Lib.hid (show (x = a ∨ (a < x ∧ LexI key (F (x - 1)) (F i))) → (SrtF key (rotF F x i (i + 1)) a (i + 1) ∧ SubF f (rotF F x i (i + 1)) a (i + 1) ∧ OutF f (rotF F x i (i + 1)) a (i + 1)) from fun hx =>
          ⟨ins_up d1 d2 R3.out (fun h9 => by rcases hx with hx | hx; omega; exact hx.2) L1.out, (R4.out.wide R5.out (Nat.le_refl _) (Nat.le_succ i)).trans ((rotF_sub F d2 (Nat.le_succ i)).wide (rotF_out F d2 (Nat.le_succ i)) d1 (Nat.le_refl _)), (R5.out.wide (Nat.le_refl _) (Nat.le_succ i)).trans ((rotF_out F d2 (Nat.le_succ i)).wide d1 (Nat.le_refl _))⟩)
        by_cases hax : a < x
        · obtain ⟨y, hy⟩ : ∃ y, y = x - 1 := ⟨_, rfl⟩
          have sy : (x : Int) - 1 = (y : Int) := by omega
          have wy := wrapN (x := y) (by omega)
          have hyx : y < x := by omega
          have hay : a ≤ y := by omega
          have x0 : (0 : Int) ≤ (x : Int) := by omega
          have x1 : (x : Int) < (n : Int) := by omega
          have y0 : (0 : Int) ≤ (y : Int) := by omega
          have y1 : (y : Int) < (n : Int) := by omega
          have t1 : (a : Int) < (x : Int) := by omega
          obtain ⟨G, hG⟩ : ∃ G, G = rotF F x i (i + 1) := ⟨_, rfl⟩
          have hGx : G x = F i := by rw [hG, rotF_lo F (Nat.le_refl _) (by omega)]; congr 1; omega
          have hGy : G y = F y := by rw [hG, rotF_no F (.inl hyx)]
          have HSTEP := Lib.hid (show ∀ k, rotF F y i (i + 1) k = if k = y then G x else if k = x then G y else G k from fun k => by
            have e : x = y + 1 := by omega
            rw [hG, e]; exact rot_up_step F (by omega) k)
          have HXY := Lib.hid (show x - 1 = y by omega)
          rw [← hG] at hr HEND
          have HGE := Lib.hid hG
          have e0 := hr.cell (k := x) (by omega)
          have e1 := hr.cell (k := y) (by omega)
          obtain ⟨P, hP⟩ : ∃ P, P = G x := ⟨_, rfl⟩
          obtain ⟨Q, hQ⟩ : ∃ Q, Q = G y := ⟨_, rfl⟩
          have vP : 0 ≤ P ∧ P < (n : Int) := by rw [hP, hGx]; exact HVF.out i (by omega)
          have vQ : 0 ≤ Q ∧ Q < (n : Int) := by rw [hQ, hGy]; exact HVF.out y (by omega)
          have hcr : Q < P := by rw [hP, hQ, hGx, hGy]; exact HLT.out y hay (by omega)
          have CC := Lib.hid (show ∀ W, OnlyG g w0 W → Calls Tryz.prog 127 #[.int .i64 P, .int .i64 Q, .pointer (some ⟨bA, 0, none⟩)] W fun e w' => e = .returned (.int .i64 (cmpI (key P) (key Q))) ∧ ∃ q, w' = W.drewN q from fun W hW => HC.out W hW P Q vP.1 vP.2 vQ.1 vQ.2)
          have HGX := Lib.hid (show F i = P by rw [hP, hGx])
          have HGY := Lib.hid (show F y = Q by rw [hQ, hGy])
          have HR := Lib.hid hr
          have HO2 := Lib.hid ho2
          have HOW := Lib.hid (HO.out.trans ho2)
          rw [← hP] at e0
          rw [← hQ] at e1
          by_cases hk : key P < key Q
          · have HK := Lib.hid (cmpI_lt hk)
            have HLX := Lib.hid (show y < i → LexI key (F i) (F y) from fun _ => by rw [HGX.out, HGY.out]; exact .of_lt hk)
            clear hk hG hGx hGy hP hQ hr ho2 vP vQ hcr hy HEND L1
            go_upto_region 4 with fail
            go_region_held3 (fun W => W.cell? ⟨g, x, none⟩ = some (.int .i64 P) ∧ W.cell? ⟨g, y, none⟩ = some (.int .i64 Q))
              (first | go_keep | exact ⟨e0, e1⟩)
              ((go_at_call 127; refine (CC.out _ (HOW.out.drewN 1)).mono ?_; rw [HK.out]; rintro e w6 ⟨rfl, q6, rfl⟩))
            obtain ⟨X, hX⟩ : ∃ X : World, X = wr.drewN (1 + q6) := ⟨_, rfl⟩
            have HRX := Lib.hid (show IA X g n G by rw [hX]; exact HR.out)
            have HOX := Lib.hid (show OnlyG g w X by rw [hX]; exact HO2.out.drewN (1 + q6))
            go_upto_region 6 with fail
            first | rw [← hX] | skip
            have e2 := HRX.out.cell (k := x) (by omega)
            have e3 := HRX.out.cell (k := y) (by omega)
            have z0 := HRX.out.frozen x
            have z1 := HRX.out.frozen y
            have HQ2 := Lib.hid (HRX.out.swap (x := x) (y := y) HSTEP.out)
            have HO3 := Lib.hid (HOX.out.set_ x (.int .i64 (G y)) |>.set_ y (.int .i64 (G x)))
            have wx := wrapN (x := x) (by omega)
            have hne : x ≠ y := by omega
            have hne2 : ¬ y = x := by omega
            have hyi : y ≤ i := by omega
            obtain ⟨P2, hP2⟩ : ∃ P2, P2 = G x := ⟨_, rfl⟩
            obtain ⟨Q2, hQ2⟩ : ∃ Q2, Q2 = G y := ⟨_, rfl⟩
            rw [← hP2] at e2
            rw [← hQ2] at e3
            rw [← hP2, ← hQ2] at HQ2 HO3
            clear hP2 hQ2 hX e0 e1 HSTEP HR HO2 HOW HRX HOX
            go_region
            go_wp2_with fail
            go_roundw
            case rel => exact ⟨y, hay, hyi, by first | rfl | go_num, HQ2.out, HO3.out.drewN 1, HLX.out⟩
            case measure => simp [intOf]; omega
          · obtain ⟨z, hz0, hz⟩ := cmpI_ge hk
            have hz1 : decide (z < 0) = false := decide_eq_false hz0
            have hz2 : (0 : Int) ≤ z := by omega
            have HK := Lib.hid hz
            have HD := Lib.hid (HEND.out (.inr ⟨hax, by rw [HXY.out, HGX.out, HGY.out]; exact .of_le hk hcr⟩))
            clear hk hG hGx hGy hP hQ hr ho2 vP vQ hcr hy HEND L1 hz HSTEP
            go_upto_region 4 with fail
            go_region_held3 (fun W => W.cell? ⟨g, x, none⟩ = some (.int .i64 P) ∧ W.cell? ⟨g, y, none⟩ = some (.int .i64 Q))
              (first | go_keep | exact ⟨e0, e1⟩)
              ((go_at_call 127; refine (CC.out _ (HOW.out.drewN 1)).mono ?_; rw [HK.out]; rintro e w6 ⟨rfl, q6, rfl⟩))
            go_wp2_with fail
            go_roundw
            case rel => exact ⟨i + 1, G, by omega, .inl hib, by go_num, HR.out.drewN _, HO2.out.drewN _, HD.out.1, HD.out.2.1, HD.out.2.2⟩
            case measure => simp [intOf]; omega
        · have hxa : x = a := by omega
          have t1 : ¬ (a : Int) < (x : Int) := by omega
          have t2 : decide ((a : Int) < (x : Int)) = false := decide_eq_false t1
          have t3 : (x : Int) ≤ (a : Int) := by omega
          have HR := Lib.hid hr
          have HO2 := Lib.hid ho2
          have HD := Lib.hid (HEND.out (.inl hxa))
          have hai1 : a1 ≤ i + 1 := by omega
          clear hr ho2 HEND L1 hxa sa wa HA HLT HVF hax
          go_upto_region 4 with fail
          go_cut [34] from 18 to 34 (fun v wx => v = .bool false ∧ IA wx g n (rotF F x i (i + 1)) ∧ OnlyG g w wx)
          case first =>
            have hgt : ((x : Int) > (a : Int)) = False := by simp; omega
            go_big_quiet (fail)
            go_wp2_with fail
            go_meet
            exact ⟨rfl, HR.out.drewN _, HO2.out.drewN _⟩
          case rest =>
          obtain ⟨rfl, g1, g2⟩ := hcut
          have G1 := Lib.hid g1
          have G2 := Lib.hid g2
          clear g1 g2
          go_wp2_with fail
          go_roundw
          case rel => exact ⟨i + 1, _, hai1, .inl hib, by go_num, G1.out, G2.out, HD.out.1, HD.out.2.1, HD.out.2.2⟩
          case measure => simp [intOf]; omega
    · have HD := Lib.hid (show SrtF key F a b ∧ SubF f F a b ∧ OutF f F a b from by
        rcases c2 with c2 | c2
        · obtain rfl : i = b := by omega
          exact ⟨R3.out, R4.out, R5.out⟩
        · by_cases e : i = b
          · subst e; exact ⟨R3.out, R4.out, R5.out⟩
          · have h0 : b = a := by have := HA.out; omega
            have hF : ∀ k, F k = f k := fun k => by
              by_cases hk : k < a ∨ i ≤ k
              · exact R5.out k hk
              · obtain ⟨k', d1, d2, e⟩ := R4.out k (by omega) (by omega)
                have h3 := HA.out
                rw [e, show k' = k by omega]
            exact ⟨fun x y h1 h2 h3 => by omega, fun k h1 h2 => by omega, fun k _ => hF k⟩)
      go_wp2_with fail
      go_end0
      exact ⟨rfl, F, R1.out, R2.out, HD.out.1, HD.out.2.1, HD.out.2.2⟩
end Go.Proofs.YtoomffajodheaaaGreatDoor
namespace Go.Proofs.YtoomffajodheaaaGreatDoor
open Go.RowKit
set_option maxRecDepth 100000
theorem Sg.id {key : Int → Int} {f : Nat → Int} {a b n : Nat} (h : ∀ k, a ≤ k → k < n → f k = (k : Int)) (hb : b ≤ n) : (∀ i j, a ≤ i → i < j → j < b → f i < f j) ∧ ∀ k, a ≤ k → k < b → (a : Int) ≤ f k ∧ f k < (b : Int) :=
  ⟨fun i j h1 h2 h3 => by rw [h i h1 (by omega), h j (by omega) (by omega)]; omega, fun k h1 h2 => by rw [h k h1 (by omega)]; omega⟩
set_option maxHeartbeats 8000000 in
theorem stable_any (key : Int → Int) (g n bA : Nat) (w : World) (HC : Hid (CmpOk key n g bA w)) (hn : n ≤ 1000000) (h : IA w g n fun k => (k : Int)) :
    Calls Tryz.prog 151 #[.slice (some ⟨g, 0, none⟩) n n, .int .i64 n, .func (.func 127) #[] #[.pointer (some ⟨bA, 0, none⟩)]] w (fun e w' => e = .returned (.tuple #[]) ∧ ∃ f', IA w' g n f' ∧ OnlyG g w w' ∧ Sg key f' 0 n) := by
  have HI := Lib.hid h
  clear h
  go_enter Tryz.func151, Tryz.ntmps151
  go_wp2_with fail
  go_loopw [7, 8] (fun iv jv wr => ∃ (a b : Nat) (F : Nat → Int), b = a + 20 ∧ a ≤ n ∧ iv = .int .i64 a ∧ jv = .int .i64 b ∧ IA wr g n F ∧ OnlyG g w wr ∧ Pres key F 20 a ∧ ValF F n ∧ ∀ k, a ≤ k → k < n → F k = (k : Int)) (fun iv _ _ => n - (intOf iv).toNat)
  case atStart => exact ⟨0, 20, _, rfl, Nat.zero_le _, rfl, rfl, HI.out, OnlyG.refl _ _, .nil, fun k hk => (show (0 : Int) ≤ (k : Int) ∧ (k : Int) < (n : Int) by omega), fun k _ _ => rfl⟩
  case round =>
    obtain ⟨a, b, F, hb, ha, rfl, rfl, r1, r2, r3, r4, r5⟩ := hrel
    have R1 := Lib.hid r1
    have R2 := Lib.hid r2
    have R3 := Lib.hid r3
    have R4 := Lib.hid r4
    have R5 := Lib.hid r5
    have HB := Lib.hid hb
    clear r1 r2 r3 r4 r5 hb
    by_cases hbn : b ≤ n
    · have HID := Lib.hid (Sg.id (key := key) R5.out hbn)
      have hab : a ≤ b := by have := HB.out; omega
      obtain ⟨b2, hb2⟩ : ∃ b2, b2 = b + 20 := ⟨_, rfl⟩
      have sb : (b : Int) + 20 = (b2 : Int) := by omega
      have wb := wrapN (x := b2) (by omega)
      have HB2 := Lib.hid hb2
      have hlt : a < b := by have := HB.out; omega
      clear hb2
      go_wp2_with fail
      refine (ins_any key g n bA a b F w wr HC hab hbn hn R1.out R2.out R4.out HID.out.1).mono ?_
      rintro e w2 ⟨rfl, G, g1, g2, g3, g4, g5⟩
      have G1 := Lib.hid g1
      have G2 := Lib.hid (R2.out.trans g2)
      have hsg : Sg key G a b := Sg.merged HID.out.2 g3 g4
      have G3 := Lib.hid (show Pres key G 20 b by have := (R3.out.out g5 (Nat.le_refl _)).snoc (by rw [← HB.out]; exact hsg); rw [← HB.out] at this; exact this)
      have G4 := Lib.hid (R4.out.sub g4 g5 hbn)
      have G5 := Lib.hid (show ∀ k, b ≤ k → k < n → G k = (k : Int) from fun k h1 h2 => by rw [g5 k (.inr h1)]; exact R5.out k (by omega) h2)
      clear g1 g2 g3 g4 g5 hsg
      go_wp2_with fail
      go_roundw
      case rel => exact ⟨b, b2, G, HB2.out, hbn, rfl, rfl, G1.out, G2.out, G3.out, G4.out, G5.out⟩
      case measure => simp [intOf]; omega
    · have HID := Lib.hid (Sg.id (key := key) R5.out (Nat.le_refl n))
      go_wp2_with fail
      refine (ins_any key g n bA a n F w wr HC ha (Nat.le_refl _) hn R1.out R2.out R4.out HID.out.1).mono ?_
      rintro e w2 ⟨rfl, G, g1, g2, g3, g4, g5⟩
      have hsg : Sg key G a n := Sg.merged HID.out.2 g3 g4
      have hnb : n < a + 20 := by rw [← HB.out]; omega
      have hseg : Segs key G 20 n a := by
        by_cases h9 : a < n
        · exact .step h9 (by rw [Nat.min_eq_right (Nat.le_of_lt hnb)]; exact hsg) (.done (Nat.le_of_lt hnb))
        · exact .done (by omega)
      have G1 := Lib.hid g1
      have G2 := Lib.hid (R2.out.trans g2)
      have G3 := Lib.hid (Pres.join (R3.out.out g5 (Nat.le_refl _)) (by omega) ha hseg)
      have G4 := Lib.hid (R4.out.sub g4 g5 (Nat.le_refl _))
      clear g1 g2 g3 g4 g5 hsg hseg hnb R1 R2 R3 R4 R5 HID HB
      go_wp2_with fail
      go_loopw [6, 7, 8, 9] (fun sv _ _ _ wr => ∃ (s : Nat) (F : Nat → Int), 0 < s ∧ s ≤ 2000000 ∧ sv = .int .i64 s ∧ IA wr g n F ∧ OnlyG g w wr ∧ Segs key F s n 0 ∧ ValF F n) (fun sv _ _ _ _ => n - (intOf sv).toNat)
      case atStart => exact ⟨20, G, by omega, by omega, rfl, G1.out, G2.out, G3.out, G4.out⟩
      case round =>
        obtain ⟨s, F, hs0, hs1, rfl, r1, r2, r3, r4⟩ := hrel
        have R1 := Lib.hid r1
        have R2 := Lib.hid r2
        have R3 := Lib.hid r3
        have R4 := Lib.hid r4
        clear r1 r2 r3 r4
        by_cases hsn : s < n
        · obtain ⟨d, hd⟩ : ∃ d, d = 2 * s := ⟨_, rfl⟩
          have sd : 2 * (s : Int) = (d : Int) := by omega
          have sd' : (s : Int) * 2 = (d : Int) := by omega
          have wd := wrapN (x := d) (by omega)
          have hd0 : 0 < d := by omega
          have hd1 : d ≤ 2000000 := by omega
          have hsd : s < d := by omega
          have HD := Lib.hid hd
          clear hd
          go_wp2_with fail
          go_loopw [7, 8] (fun iv jv wr => ∃ (a b : Nat) (F : Nat → Int), b = a + d ∧ a ≤ n ∧ iv = .int .i64 a ∧ jv = .int .i64 b ∧ IA wr g n F ∧ OnlyG g w wr ∧ Pres key F d a ∧ Segs key F s n a ∧ ValF F n) (fun iv _ _ => n - (intOf iv).toNat)
          case atStart => exact ⟨0, d, F, by omega, Nat.zero_le _, rfl, rfl, R1.out, R2.out, .nil, R3.out, R4.out⟩
          case round =>
            obtain ⟨a, b, F, hb, ha, rfl, rfl, r1, r2, r3, r4, r5⟩ := hrel
            have Q1 := Lib.hid r1
            have Q2 := Lib.hid r2
            have Q3 := Lib.hid r3
            have Q4 := Lib.hid r4
            have Q5 := Lib.hid r5
            have HB := Lib.hid hb
            clear r1 r2 r3 r4 r5 hb R1 R2 R3 R4
            obtain ⟨m, hm⟩ : ∃ m, m = a + s := ⟨_, rfl⟩
            have sm : (a : Int) + (s : Int) = (m : Int) := by omega
            have wm := wrapN (x := m) (by omega)
            have HM := Lib.hid hm
            have ham : a < m := by omega
            clear hm
            by_cases hbn : b ≤ n
            · have hmb : m < b := by have := HB.out; have := HM.out; omega
              have HH := Lib.hid (show Sg key F a m ∧ Sg key F m b ∧ Segs key F s n b from by
                obtain ⟨x1, x2⟩ := Q4.out.head (by omega)
                have e1 := HM.out
                have e2 := HB.out
                have e3 := HD.out
                rw [Nat.min_eq_left (by omega), ← e1] at x1
                rw [← e1] at x2
                obtain ⟨x3, x4⟩ := x2.head (by omega)
                rw [Nat.min_eq_left (by omega), show m + s = b by omega] at x3
                rw [show m + s = b by omega] at x4
                exact ⟨x1, x3, x4⟩)
              obtain ⟨b2, hb2⟩ : ∃ b2, b2 = b + d := ⟨_, rfl⟩
              have sb : (b : Int) + (d : Int) = (b2 : Int) := by omega
              have wb := wrapN (x := b2) (by omega)
              have HB2 := Lib.hid hb2
              clear hb2
              go_wp2_with fail
              refine (sym_any key g n bA w HC hn (b - a) a m b F wr (Nat.le_refl _) ham hmb hbn Q1.out Q2.out Q5.out HH.out.1.1 HH.out.2.1.1 (Sg.crs HH.out.1 HH.out.2.1)).mono ?_
              rintro e w3 ⟨rfl, G', g1, g2, g3, g4, g5⟩
              have hsg : Sg key G' a b := Sg.merged (Sg.both HH.out.1 HH.out.2.1 (Nat.le_of_lt ham) (Nat.le_of_lt hmb)) g3 g4
              have K1 := Lib.hid g1
              have K2 := Lib.hid (Q2.out.trans g2)
              have K3 := Lib.hid (show Pres key G' d b by have := (Q3.out.out g5 (Nat.le_refl _)).snoc (by rw [← HB.out]; exact hsg); rw [← HB.out] at this; exact this)
              have K4 := Lib.hid (HH.out.2.2.out g5 (Nat.le_refl _))
              have K5 := Lib.hid (Q5.out.sub g4 g5 hbn)
              clear g1 g2 g3 g4 g5 hsg
              go_wp2_with fail
              go_roundw
              case rel => exact ⟨b, b2, G', HB2.out, hbn, rfl, rfl, K1.out, K2.out, K3.out, K4.out, K5.out⟩
              case measure => simp [intOf]; omega
            · have hnb : n < a + d := by have := HB.out; omega
              by_cases hmn : m < n
              · have HH := Lib.hid (show Sg key F a m ∧ Sg key F m n from by
                  obtain ⟨x1, x2⟩ := Q4.out.head (by omega)
                  have e1 := HM.out
                  have e3 := HD.out
                  rw [Nat.min_eq_left (by omega), ← e1] at x1
                  rw [← e1] at x2
                  obtain ⟨x3, x4⟩ := x2.head hmn
                  rw [Nat.min_eq_right (by omega)] at x3
                  exact ⟨x1, x3⟩)
                go_wp2_with fail
                refine (sym_any key g n bA w HC hn (n - a) a m n F wr (Nat.le_refl _) ham hmn (Nat.le_refl _) Q1.out Q2.out Q5.out HH.out.1.1 HH.out.2.1 (Sg.crs HH.out.1 HH.out.2)).mono ?_
                rintro e w3 ⟨rfl, G', g1, g2, g3, g4, g5⟩
                have hsg : Sg key G' a n := Sg.merged (Sg.both HH.out.1 HH.out.2 (Nat.le_of_lt ham) (Nat.le_of_lt hmn)) g3 g4
                have K1 := Lib.hid g1
                have K2 := Lib.hid (Q2.out.trans g2)
                have K3 := Lib.hid (Pres.join (Q3.out.out g5 (Nat.le_refl _)) hd0 ha (.step (by omega) (by rw [Nat.min_eq_right (by omega)]; exact hsg) (.done (by omega))))
                have K5 := Lib.hid (Q5.out.sub g4 g5 (Nat.le_refl _))
                clear g1 g2 g3 g4 g5 hsg
                go_wp2_with fail
                go_roundw
                case rel => exact ⟨d, G', hd0, hd1, by first | rfl | go_num, K1.out, K2.out, K3.out, K5.out⟩
                case measure => simp [intOf]; omega
              · have K3 := Lib.hid (show Segs key F d n 0 from Pres.join Q3.out hd0 ha (by
                  by_cases h9 : a < n
                  · obtain ⟨x1, -⟩ := Q4.out.head h9
                    have e1 := HM.out
                    rw [Nat.min_eq_right (by omega)] at x1
                    exact .step h9 (by rw [Nat.min_eq_right (by omega)]; exact x1) (.done (by omega))
                  · exact .done (by omega)))
                go_wp2_with fail
                go_roundw
                case rel => exact ⟨d, F, hd0, hd1, by first | rfl | go_num, Q1.out, Q2.out, K3.out, Q5.out⟩
                case measure => simp [intOf]; omega
        · have HS := Lib.hid (show Sg key F 0 n by
            by_cases h0 : 0 < n
            · have := (R3.out.head h0).1
              rw [Nat.min_eq_right (by omega)] at this
              exact this
            · exact ⟨fun i j h1 h2 h3 => by omega, fun k h1 h2 => by omega⟩)
          go_wp2_with fail
          go_end0
          exact ⟨rfl, F, R1.out, R2.out, HS.out⟩
end Go.Proofs.YtoomffajodheaaaGreatDoor
namespace Go.Proofs.YtoomffajodheaaaGreatDoor
open Go.RowKit
set_option maxRecDepth 100000
set_option maxHeartbeats 1000000 in
theorem compare_any (x y : Int) (w : World) : Calls Tryz.prog 128 #[.int .i64 x, .int .i64 y] w fun e w' => e = .returned (.int .i64 (cmpI x y)) ∧ w' = w := by
  by_cases h1 : x < y
  · have HE := Lib.hid (show cmpI x y = -1 from if_pos h1)
    go_enter Tryz.func128, Tryz.ntmps128
    go_wp2
    go_ret
    rw [HE.out]
    exact ⟨rfl, rfl⟩
  · by_cases h2 : y < x
    · have HE := Lib.hid (show cmpI x y = 1 from (if_neg h1).trans (if_pos h2))
      go_enter Tryz.func128, Tryz.ntmps128
      go_wp2
      go_ret
      rw [HE.out]
      exact ⟨rfl, rfl⟩
    · have HE := Lib.hid (show cmpI x y = 0 from (if_neg h1).trans (if_neg h2))
      go_enter Tryz.func128, Tryz.ntmps128
      go_wp2
      go_ret
      rw [HE.out]
      exact ⟨rfl, rfl⟩
set_option maxHeartbeats 2000000 in
theorem runCmp_ok (key : Int → Int) (n g bA gA c : Nat) (w0 : World) (hA : w0.cell? ⟨bA, 0, none⟩ = some (.slice (some ⟨gA, 0, none⟩) n c)) (hbA : bA ≠ g) (hgA : gA ≠ g) (hr : IA w0 gA n fun k => key k) : CmpOk key n g bA w0 := by
  intro W hW x y x0 x1 y0 y1
  obtain ⟨a, rfl⟩ : ∃ a : Nat, x = a := ⟨x.toNat, by omega⟩
  obtain ⟨b, rfl⟩ : ∃ b : Nat, y = b := ⟨y.toNat, by omega⟩
  have c0 : W.cell? ⟨bA, 0, none⟩ = some (.slice (some ⟨gA, 0, none⟩) n c) := (World.cell?_of_block (a := ⟨bA, 0, none⟩) (hW.blk bA hbA)).trans hA
  have hr2 := hr.same (hW.blk gA hgA)
  have c1 : W.cell? ⟨gA, a, none⟩ = some (.int .i64 (key a)) := hr2.cell (k := a) (by omega)
  have c2 : W.cell? ⟨gA, b, none⟩ = some (.int .i64 (key b)) := hr2.cell (k := b) (by omega)
  have HK := Lib.hid (fun m => compare_any (key a) (key b) (W.drewN m))
  obtain ⟨u, hu⟩ : ∃ u, u = key a := ⟨_, rfl⟩
  obtain ⟨v, hv⟩ : ∃ v, v = key b := ⟨_, rfl⟩
  rw [← hu] at c1 HK ⊢
  rw [← hv] at c2 HK ⊢
  clear hu hv hr hr2 hW hA
  go_enter Tryz.func127, Tryz.ntmps127
  go_wp2_with fail
  go_quiet ((go_at_call 128; exact Calls.quiet_of_same (HK.out _)))
  go_wp2_with fail
  go_ret
  exact ⟨rfl, _, rfl⟩
set_option maxHeartbeats 1000000 in
theorem sortStable_any (key : Int → Int) (g n bA gA c : Nat) (w : World) (hA : w.cell? ⟨bA, 0, none⟩ = some (.slice (some ⟨gA, 0, none⟩) n c)) (hbA : bA ≠ g) (hgA : gA ≠ g) (hr : IA w gA n fun k => key k) (hn : n ≤ 1000000) (h : IA w g n fun k => (k : Int)) :
    Calls Tryz.prog 126 #[.slice (some ⟨g, 0, none⟩) n n, .func (.func 127) #[] #[.pointer (some ⟨bA, 0, none⟩)]] w (fun e w' => e = .returned (.tuple #[]) ∧ ∃ f', IA w' g n f' ∧ OnlyG g w w' ∧ (List.range n).map (fun k => (f' k).toNat) = ordL (fun k => key k) n ∧ ∀ k, k < n → 0 ≤ f' k) := by
  have HC := Lib.hid (runCmp_ok key n g bA gA c w hA hbA hgA hr)
  have HI := Lib.hid h
  clear hA hr h
  go_enter Tryz.func126, Tryz.ntmps126
  go_wp2_with fail
  refine (stable_any key g n bA w HC hn HI.out).mono ?_
  rintro e w2 ⟨rfl, f', q1, q2, q3⟩
  go_wp2_with fail
  go_end0
  exact ⟨rfl, f', q1, q2, sg_ord q3, fun k hk => by have := q3.2 k (Nat.zero_le _) hk; omega⟩
end Go.Proofs.YtoomffajodheaaaGreatDoor
