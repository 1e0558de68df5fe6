/- A stable sort, plain: rotations, merges, blocks. No program in sight. A stable sort, plain: blocks in order, joined two by two. No program in sight. Numbers in the order of keys, of these in the order of numbers; plainly: there is but one such order. No program in sight. -/
import Derived.Test.YthgpbdlmadjndaaDoorBaseM
namespace Go.Proofs.YthgpbdlmadjndaaDoor
/-- By key, then by number. -/
def LexI (key : Int → Int) (x y : Int) : Prop := key x < key y ∨ (key x = key y ∧ x < y)
theorem LexI.trans {key : Int → Int} {x y z : Int} (h : LexI key x y) (h' : LexI key y z) : LexI key x z := by
  unfold LexI at *
  omega
theorem LexI.of_le {key : Int → Int} {x y : Int} (h : ¬ key y < key x) (hxy : x < y) : LexI key x y := by
  unfold LexI
  omega
theorem LexI.of_lt {key : Int → Int} {x y : Int} (h : key x < key y) : LexI key x y := .inl h
def SrtF (key : Int → Int) (f : Nat → Int) (a b : Nat) : Prop := ∀ i j, a ≤ i → i < j → j < b → LexI key (f i) (f j)
def SubF (f f' : Nat → Int) (a b : Nat) : Prop := ∀ k, a ≤ k → k < b → ∃ k', a ≤ k' ∧ k' < b ∧ f' k = f k'
def OutF (f f' : Nat → Int) (a b : Nat) : Prop := ∀ k, k < a ∨ b ≤ k → f' k = f k
def CrsF (f : Nat → Int) (a m b : Nat) : Prop := ∀ i j, a ≤ i → i < m → m ≤ j → j < b → f i < f j
theorem SubF.refl (f : Nat → Int) (a b : Nat) : SubF f f a b := fun k h1 h2 => ⟨k, h1, h2, rfl⟩
theorem SubF.trans {f g h : Nat → Int} {a b : Nat} (h1 : SubF f g a b) (h2 : SubF g h a b) : SubF f h a b := fun k a1 a2 => by
  obtain ⟨k1, b1, b2, e1⟩ := h2 k a1 a2
  obtain ⟨k2, c1, c2, e2⟩ := h1 k1 b1 b2
  exact ⟨k2, c1, c2, e1.trans e2⟩
theorem SubF.wide {f g : Nat → Int} {a b a' b' : Nat} (h : SubF f g a b) (ho : OutF f g a b) (ha : a' ≤ a) (hb : b ≤ b') : SubF f g a' b' := fun k h1 h2 => by
  by_cases hk : a ≤ k ∧ k < b
  · obtain ⟨k', c1, c2, e⟩ := h k hk.1 hk.2
    exact ⟨k', by omega, by omega, e⟩
  · exact ⟨k, h1, h2, ho k (by omega)⟩
theorem OutF.trans {f g h : Nat → Int} {a b : Nat} (h1 : OutF f g a b) (h2 : OutF g h a b) : OutF f h a b := fun k hk => (h2 k hk).trans (h1 k hk)
theorem OutF.wide {f g : Nat → Int} {a b a' b' : Nat} (h : OutF f g a b) (ha : a' ≤ a) (hb : b ≤ b') : OutF f g a' b' := fun k hk => h k (by omega)
theorem SrtF.out {key : Int → Int} {f g : Nat → Int} {a b a' b' : Nat} (h : SrtF key f a' b') (ho : OutF f g a b) (hd : b' ≤ a ∨ b ≤ a') : SrtF key g a' b' := fun i j h1 h2 h3 => by
  rw [ho i (by omega), ho j (by omega)]
  exact h i j h1 h2 h3
/-- Swapped ranges. -/
def swF (f : Nat → Int) (a b n : Nat) : Nat → Int := fun k => if a ≤ k ∧ k < a + n then f (k + b - a) else if b ≤ k ∧ k < b + n then f (k + a - b) else f k
/-- A rotation: [a, m) and [m, b) change their places. -/
def rotF (f : Nat → Int) (a m b : Nat) : Nat → Int := fun k => if a ≤ k ∧ k < a + (b - m) then f (k + m - a) else if a + (b - m) ≤ k ∧ k < b then f (k - (b - m)) else f k
theorem swF_lo (f : Nat → Int) {a b n k : Nat} (h1 : a ≤ k) (h2 : k < a + n) : swF f a b n k = f (k + b - a) := if_pos ⟨h1, h2⟩
theorem swF_hi (f : Nat → Int) {a b n k : Nat} (h : k < a ∨ a + n ≤ k) (h1 : b ≤ k) (h2 : k < b + n) : swF f a b n k = f (k + a - b) := (if_neg (by omega)).trans (if_pos ⟨h1, h2⟩)
theorem swF_no (f : Nat → Int) {a b n k : Nat} (h : k < a ∨ a + n ≤ k) (h1 : k < b ∨ b + n ≤ k) : swF f a b n k = f k := (if_neg (by omega)).trans (if_neg (by omega))
theorem rotF_lo (f : Nat → Int) {a m b k : Nat} (h1 : a ≤ k) (h2 : k < a + (b - m)) : rotF f a m b k = f (k + m - a) := if_pos ⟨h1, h2⟩
theorem rotF_hi (f : Nat → Int) {a m b k : Nat} (h1 : a + (b - m) ≤ k) (h2 : k < b) : rotF f a m b k = f (k - (b - m)) := (if_neg (by omega)).trans (if_pos ⟨h1, h2⟩)
theorem rotF_no (f : Nat → Int) {a m b k : Nat} (h : k < a ∨ (a + (b - m) ≤ k ∧ b ≤ k)) : rotF f a m b k = f k := (if_neg (by omega)).trans (if_neg (by omega))
theorem swF_zero (f : Nat → Int) (a b : Nat) : swF f a b 0 = f := by
  funext k
  exact swF_no f (by omega) (by omega)
theorem swF_succ (f : Nat → Int) {a b n : Nat} (h : a + n < b) (k : Nat) : swF f a b (n + 1) k = if k = b + n then f (a + n) else if k = a + n then f (b + n) else swF f a b n k := by
  by_cases h1 : k = b + n
  · subst h1
    rw [if_pos rfl, swF_hi f (by omega) (by omega) (by omega)]
    congr 1
    omega
  · rw [if_neg h1]
    by_cases h2 : k = a + n
    · subst h2
      rw [if_pos rfl, swF_lo f (by omega) (by omega)]
      congr 1
      omega
    · rw [if_neg h2]
      by_cases h3 : a ≤ k ∧ k < a + n
      · rw [swF_lo f h3.1 (by omega), swF_lo f h3.1 h3.2]
      · by_cases h4 : b ≤ k ∧ k < b + n
        · rw [swF_hi f (by omega) h4.1 (by omega), swF_hi f (by omega) h4.1 h4.2]
        · rw [swF_no f (by omega) (by omega), swF_no f (by omega) (by omega)]
/-- What lies at the two ends while the ranges are swapped. -/
theorem swF_a (f : Nat → Int) {a b n : Nat} (h : a + n < b) : swF f a b n (a + n) = f (a + n) := swF_no f (by omega) (by omega)
theorem swF_b (f : Nat → Int) {a b n : Nat} (h : a + n < b) : swF f a b n (b + n) = f (b + n) := swF_no f (by omega) (by omega)
theorem swF_eq_rot (f : Nat → Int) {m i : Nat} (hi : i ≤ m) : swF f (m - i) m i = rotF f (m - i) m (m + i) := by
  funext k
  by_cases h1 : m - i ≤ k ∧ k < m - i + i
  · rw [swF_lo f h1.1 h1.2, rotF_lo f h1.1 (by omega)]
  · by_cases h2 : m ≤ k ∧ k < m + i
    · rw [swF_hi f (by omega) h2.1 h2.2, rotF_hi f (by omega) (by omega)]
      congr 1
      omega
    · rw [swF_no f (by omega) (by omega), rotF_no f (by omega)]
theorem rotF_left (f : Nat → Int) {m i j : Nat} (hi : i ≤ m) (hj : j < i) : rotF (swF f (m - i) m j) (m - (i - j)) m (m + j) = rotF f (m - i) m (m + j) := by
  funext k
  by_cases h1 : k < m - i
  · rw [rotF_no _ (by omega), rotF_no _ (by omega), swF_no f (by omega) (by omega)]
  · by_cases h2 : k < m - i + j
    · rw [rotF_no _ (by omega), rotF_lo _ (by omega) (by omega), swF_lo f (by omega) (by omega)]
    · by_cases h3 : k < m + j
      · by_cases h4 : k < m - (i - j) + j
        · rw [rotF_lo _ (by omega) (by omega), rotF_hi _ (by omega) (by omega), swF_hi f (by omega) (by omega) (by omega)]
          congr 1
          omega
        · rw [rotF_hi _ (by omega) (by omega), rotF_hi _ (by omega) (by omega), swF_no f (by omega) (by omega)]
      · rw [rotF_no _ (by omega), rotF_no _ (by omega), swF_no f (by omega) (by omega)]
theorem rotF_right (f : Nat → Int) {m i j : Nat} (hi : i ≤ m) (h0 : 0 < i) (hj : i < j) : rotF (swF f (m - i) (m + j - i) i) (m - i) m (m + (j - i)) = rotF f (m - i) m (m + j) := by
  funext k
  by_cases h1 : k < m - i
  · rw [rotF_no _ (by omega), rotF_no _ (by omega), swF_no f (by omega) (by omega)]
  · by_cases h2 : k < m - i + (j - i)
    · rw [rotF_lo _ (by omega) (by omega), rotF_lo _ (by omega) (by omega)]
      by_cases h5 : k + m - (m - i) < m + j - i
      · rw [swF_no f (by omega) (by omega)]
      · rw [swF_no f (by omega) (by omega)]
    · by_cases h3 : k < m - i + j
      · rw [rotF_hi _ (by omega) (by omega), rotF_lo _ (by omega) (by omega), swF_lo f (by omega) (by omega)]
        congr 1
        omega
      · by_cases h4 : k < m + j
        · rw [rotF_no _ (by omega), rotF_hi _ (by omega) (by omega), swF_hi f (by omega) (by omega) (by omega)]
          congr 1
          omega
        · rw [rotF_no _ (by omega), rotF_no _ (by omega), swF_no f (by omega) (by omega)]
theorem rotF_out (f : Nat → Int) {a m b : Nat} (h1 : a ≤ m) (h2 : m ≤ b) : OutF f (rotF f a m b) a b := fun k hk => rotF_no f (by omega)
theorem rotF_sub (f : Nat → Int) {a m b : Nat} (h1 : a ≤ m) (h2 : m ≤ b) : SubF f (rotF f a m b) a b := fun k k1 k2 => by
  by_cases h : k < a + (b - m)
  · exact ⟨k + m - a, by omega, by omega, rotF_lo f k1 h⟩
  · exact ⟨k - (b - m), by omega, by omega, rotF_hi f (by omega) k2⟩
/-- A rotation of nothing. -/
theorem rotF_nil (f : Nat → Int) (a m b : Nat) (h : a = m ∨ (m = b ∧ a ≤ m)) : rotF f a m b = f := by
  funext k
  by_cases h1 : a ≤ k ∧ k < b
  · by_cases h2 : k < a + (b - m)
    · rw [rotF_lo f h1.1 h2]; congr 1; omega
    · rw [rotF_hi f (by omega) h1.2]; congr 1; omega
  · by_cases h3 : k < a + (b - m) ∧ a ≤ k
    · omega
    · exact rotF_no f (by omega)
/-- THE STEP OF A MERGE: behind a rotation each half is two runs, and all of the left one lie ahead of all of the right one. -/
structure HalfF (key : Int → Int) (f : Nat → Int) (a s d e b : Nat) : Prop where
  l1 : SrtF key f a s
  l2 : SrtF key f s d
  lc : CrsF f a s d
  r1 : SrtF key f d e
  r2 : SrtF key f e b
  rc : CrsF f d e b
  lr : ∀ i j, a ≤ i → i < d → d ≤ j → j < b → LexI key (f i) (f j)
theorem half_of {key : Int → Int} {f : Nat → Int} {a s m e b : Nat} (h1 : a ≤ s) (h2 : s ≤ m) (h3 : m ≤ e) (h4 : e ≤ b) (hl : SrtF key f a m) (hr : SrtF key f m b) (hc : CrsF f a m b)
    (ha : a < s → e < b → LexI key (f (s - 1)) (f e)) (hb : m < e → s < m → LexI key (f (e - 1)) (f s)) : HalfF key (rotF f s m e) a s (s + (e - m)) e b := by
  have lo : ∀ k, s ≤ k → k < s + (e - m) → rotF f s m e k = f (k + m - s) := fun k a1 a2 => rotF_lo f a1 a2
  have hi : ∀ k, s + (e - m) ≤ k → k < e → rotF f s m e k = f (k - (e - m)) := fun k a1 a2 => rotF_hi f a1 a2
  have no : ∀ k, k < s ∨ e ≤ k → rotF f s m e k = f k := fun k a1 => rotF_no f (by omega)
  refine ⟨fun i j a1 a2 a3 => ?_, fun i j a1 a2 a3 => ?_, fun i j a1 a2 a3 a4 => ?_, fun i j a1 a2 a3 => ?_, fun i j a1 a2 a3 => ?_, fun i j a1 a2 a3 a4 => ?_, fun i j a1 a2 a3 a4 => ?_⟩
  · rw [no i (by omega), no j (by omega)]
    exact hl i j a1 a2 (by omega)
  · rw [lo i a1 (by omega), lo j (by omega) a3]
    exact hr _ _ (by omega) (by omega) (by omega)
  · rw [no i (by omega), lo j a3 a4]
    exact hc _ _ a1 (by omega) (by omega) (by omega)
  · rw [hi i a1 (by omega), hi j (by omega) a3]
    exact hl _ _ (by omega) (by omega) (by omega)
  · rw [no i (by omega), no j (by omega)]
    exact hr _ _ (by omega) a2 a3
  · rw [hi i a1 (by omega), no j (by omega)]
    exact hc _ _ (by omega) (by omega) (by omega) a4
  · by_cases c1 : i < s
    · rw [no i (by omega)]
      by_cases c2 : j < e
      · rw [hi j a3 c2]
        exact hl _ _ a1 (by omega) (by omega)
      · rw [no j (by omega)]
        have q := ha (by omega) (by omega)
        have q1 : LexI key (f i) (f e) := by
          by_cases g : i = s - 1
          · rw [g]; exact q
          · exact (hl i (s - 1) a1 (by omega) (by omega)).trans q
        by_cases g : j = e
        · rw [g]; exact q1
        · exact q1.trans (hr e j (by omega) (by omega) a4)
    · rw [lo i (by omega) a2]
      by_cases c2 : j < e
      · rw [hi j a3 c2]
        have q := hb (by omega) (by omega)
        have q1 : LexI key (f (i + m - s)) (f s) := by
          by_cases g : i + m - s = e - 1
          · rw [g]; exact q
          · exact (hr _ (e - 1) (by omega) (by omega) (by omega)).trans q
        by_cases g : j - (e - m) = s
        · rw [g]; exact q1
        · exact q1.trans (hl s _ h1 (by omega) (by omega))
      · rw [no j (by omega)]
        exact hr _ _ (by omega) (by omega) a4
/-- Both halves merged. -/
theorem half_done {key : Int → Int} {f g h : Nat → Int} {a d b : Nat} (hd : a ≤ d) (hb : d ≤ b) (lr : ∀ i j, a ≤ i → i < d → d ≤ j → j < b → LexI key (f i) (f j)) (s1 : SrtF key g a d) (u1 : SubF f g a d) (o1 : OutF f g a d) (s2 : SrtF key h d b) (u2 : SubF g h d b) (o2 : OutF g h d b) : SrtF key h a b ∧ SubF f h a b ∧ OutF f h a b := by
  refine ⟨fun i j a1 a2 a3 => ?_, (u1.wide o1 (Nat.le_refl _) hb).trans (u2.wide o2 hd (Nat.le_refl _)), (o1.wide (Nat.le_refl _) hb).trans (o2.wide hd (Nat.le_refl _))⟩
  by_cases c1 : j < d
  · rw [o2 i (by omega), o2 j (by omega)]
    exact s1 i j a1 a2 c1
  · by_cases c2 : i < d
    · rw [o2 i (by omega)]
      obtain ⟨i', b1, b2, e1⟩ := u1 i a1 c2
      obtain ⟨j', b3, b4, e2⟩ := u2 j (by omega) a3
      rw [e1, e2, o1 j' (by omega)]
      exact lr i' j' b1 b2 b3 b4
    · exact s2 i j (by omega) a2 a3
/-- One element goes up to its place: [a, m) in order, the element at m comes to i. -/
theorem ins_up {key : Int → Int} {f : Nat → Int} {a i m : Nat} (h1 : a ≤ i) (h2 : i ≤ m) (hl : SrtF key f a m) (hu : a < i → LexI key (f (i - 1)) (f m)) (hd : i < m → LexI key (f m) (f i)) : SrtF key (rotF f i m (m + 1)) a (m + 1) := by
  have lo : rotF f i m (m + 1) i = f m := by rw [rotF_lo f (Nat.le_refl _) (by omega)]; congr 1; omega
  have hi : ∀ k, i + 1 ≤ k → k < m + 1 → rotF f i m (m + 1) k = f (k - 1) := fun k a1 a2 => by rw [rotF_hi f (by omega) a2]; congr 1; omega
  have no : ∀ k, k < i → rotF f i m (m + 1) k = f k := fun k a1 => rotF_no f (by omega)
  have up : ∀ k, a ≤ k → k < i → LexI key (f k) (f m) := fun k a1 a2 => by
    by_cases g : k = i - 1
    · rw [g]; exact hu (by omega)
    · exact (hl k (i - 1) a1 (by omega) (by omega)).trans (hu (by omega))
  have dn : ∀ k, i ≤ k → k < m → LexI key (f m) (f k) := fun k a1 a2 => by
    by_cases g : k = i
    · rw [g]; exact hd (by omega)
    · exact (hd (by omega)).trans (hl i k h1 (by omega) a2)
  intro x y a1 a2 a3
  by_cases c1 : y < i
  · rw [no x (by omega), no y c1]
    exact hl x y a1 a2 (by omega)
  · by_cases c2 : y = i
    · rw [c2, lo, no x (by omega)]
      exact up x a1 (by omega)
    · rw [hi y (by omega) a3]
      by_cases c3 : x < i
      · rw [no x c3]
        exact hl x _ a1 (by omega) (by omega)
      · by_cases c4 : x = i
        · rw [c4, lo]
          exact dn _ (by omega) (by omega)
        · rw [hi x (by omega) (by omega)]
          exact hl _ _ (by omega) (by omega) (by omega)
/-- One element goes down to its place: the element at a comes to i - 1, of [a + 1, b) in order. -/
theorem ins_down {key : Int → Int} {f : Nat → Int} {a i b : Nat} (h1 : a + 1 ≤ i) (h2 : i ≤ b) (hr : SrtF key f (a + 1) b) (hu : a + 1 < i → LexI key (f (i - 1)) (f a)) (hd : i < b → LexI key (f a) (f i)) : SrtF key (rotF f a (a + 1) i) a b := by
  have lo : ∀ k, a ≤ k → k < i - 1 → rotF f a (a + 1) i k = f (k + 1) := fun k a1 a2 => by rw [rotF_lo f a1 (by omega)]; congr 1; omega
  have hi : rotF f a (a + 1) i (i - 1) = f a := by rw [rotF_hi f (by omega) (by omega)]; congr 1; omega
  have no : ∀ k, i ≤ k → rotF f a (a + 1) i k = f k := fun k a1 => rotF_no f (by omega)
  have up : ∀ k, a + 1 ≤ k → k < i → LexI key (f k) (f a) := fun k a1 a2 => by
    by_cases g : k = i - 1
    · rw [g]; exact hu (by omega)
    · exact (hr k (i - 1) a1 (by omega) (by omega)).trans (hu (by omega))
  have dn : ∀ k, i ≤ k → k < b → LexI key (f a) (f k) := fun k a1 a2 => by
    by_cases g : k = i
    · rw [g]; exact hd (by omega)
    · exact (hd (by omega)).trans (hr i k h1 (by omega) a2)
  intro x y a1 a2 a3
  by_cases c1 : y < i - 1
  · rw [lo x a1 (by omega), lo y (by omega) c1]
    exact hr _ _ (by omega) (by omega) (by omega)
  · by_cases c2 : y = i - 1
    · rw [c2, hi, lo x a1 (by omega)]
      exact up _ (by omega) (by omega)
    · rw [no y (by omega)]
      by_cases c3 : x < i - 1
      · rw [lo x a1 c3]
        exact hr _ _ (by omega) (by omega) a3
      · by_cases c4 : x = i - 1
        · rw [c4, hi]
          exact dn _ (by omega) a3
        · rw [no x (by omega)]
          exact hr _ _ (by omega) a2 a3
theorem rot_down_step (f : Nat → Int) {a k : Nat} (h : a ≤ k) (x : Nat) : rotF f a (a + 1) (k + 2) x = if x = k + 1 then rotF f a (a + 1) (k + 1) k else if x = k then rotF f a (a + 1) (k + 1) (k + 1) else rotF f a (a + 1) (k + 1) x := by
  by_cases h1 : x = k + 1
  · rw [if_pos h1, h1, rotF_hi f (by omega) (by omega), rotF_hi f (by omega) (by omega)]
    congr 1
    omega
  · rw [if_neg h1]
    by_cases h2 : x = k
    · rw [if_pos h2, h2, rotF_lo f (by omega) (by omega), rotF_no f (by omega)]
      congr 1
      omega
    · rw [if_neg h2]
      by_cases h3 : a ≤ x ∧ x < k
      · rw [rotF_lo f h3.1 (by omega), rotF_lo f h3.1 (by omega)]
      · rw [rotF_no f (by omega), rotF_no f (by omega)]
theorem rot_up_step (f : Nat → Int) {k m : Nat} (h : k + 1 ≤ m) (x : Nat) : rotF f k m (m + 1) x = if x = k then rotF f (k + 1) m (m + 1) (k + 1) else if x = k + 1 then rotF f (k + 1) m (m + 1) k else rotF f (k + 1) m (m + 1) x := by
  by_cases h1 : x = k
  · rw [if_pos h1, h1, rotF_lo f (by omega) (by omega), rotF_lo f (by omega) (by omega)]
    congr 1
    omega
  · rw [if_neg h1]
    by_cases h2 : x = k + 1
    · rw [if_pos h2, h2, rotF_hi f (by omega) (by omega), rotF_no f (by omega)]
      congr 1
      omega
    · rw [if_neg h2]
      by_cases h3 : k + 2 ≤ x ∧ x < m + 1
      · rw [rotF_hi f (by omega) h3.2, rotF_hi f (by omega) h3.2]
      · rw [rotF_no f (by omega), rotF_no f (by omega)]
def cmpI (x y : Int) : Int := if x < y then -1 else if y < x then 1 else 0
theorem cmpI_lt {x y : Int} (h : x < y) : cmpI x y = -1 := if_pos h
theorem cmpI_ge {x y : Int} (h : ¬ x < y) : ∃ z : Int, ¬ z < 0 ∧ cmpI x y = z := by
  refine ⟨_, ?_, rfl⟩
  unfold cmpI
  rw [if_neg h]
  split <;> omega
def ValF (f : Nat → Int) (n : Nat) : Prop := ∀ k, k < n → 0 ≤ f k ∧ f k < (n : Int)
theorem ValF.sub {f g : Nat → Int} {n a b : Nat} (h : ValF f n) (hs : SubF f g a b) (ho : OutF f g a b) (hb : b ≤ n) : ValF g n := fun k hk => by
  obtain ⟨k', -, h2, e⟩ := hs.wide ho (Nat.zero_le _) hb k (Nat.zero_le _) hk
  rw [e]
  exact h k' h2
end Go.Proofs.YthgpbdlmadjndaaDoor
namespace Go.Proofs.YthgpbdlmadjndaaDoor
/-- A segment in order that holds its own numbers. -/
def Sg (key : Int → Int) (f : Nat → Int) (a b : Nat) : Prop := SrtF key f a b ∧ ∀ k, a ≤ k → k < b → (a : Int) ≤ f k ∧ f k < (b : Int)
theorem Sg.out {key : Int → Int} {f g : Nat → Int} {a b x y : Nat} (h : Sg key f a b) (ho : OutF f g x y) (hd : b ≤ x ∨ y ≤ a) : Sg key g a b :=
  ⟨h.1.out ho hd, fun k h1 h2 => by rw [ho k (by omega)]; exact h.2 k h1 h2⟩
theorem Sg.crs {key : Int → Int} {f : Nat → Int} {a m b : Nat} (h : Sg key f a m) (h' : Sg key f m b) : CrsF f a m b := fun i j h1 h2 h3 h4 => by
  have := h.2 i h1 h2
  have := h'.2 j h3 h4
  omega
theorem Sg.merged {key : Int → Int} {f g : Nat → Int} {a b : Nat} (hr : ∀ k, a ≤ k → k < b → (a : Int) ≤ f k ∧ f k < (b : Int)) (hs : SrtF key g a b) (hu : SubF f g a b) : Sg key g a b :=
  ⟨hs, fun k h1 h2 => by obtain ⟨k', c1, c2, e⟩ := hu k h1 h2; rw [e]; exact hr k' c1 c2⟩
theorem Sg.both {key : Int → Int} {f : Nat → Int} {a m b : Nat} (h : Sg key f a m) (h' : Sg key f m b) (h1 : a ≤ m) (h2 : m ≤ b) : ∀ k, a ≤ k → k < b → (a : Int) ≤ f k ∧ f k < (b : Int) := fun k c1 c2 => by
  by_cases hk : k < m
  · have := h.2 k c1 hk; omega
  · have := h'.2 k (by omega) c2; omega
inductive Segs (key : Int → Int) (f : Nat → Int) (bs n : Nat) : Nat → Prop
  | done {a : Nat} : n ≤ a → Segs key f bs n a
  | step {a : Nat} : a < n → Sg key f a (min (a + bs) n) → Segs key f bs n (a + bs) → Segs key f bs n a
inductive Pres (key : Int → Int) (f : Nat → Int) (bs : Nat) : Nat → Prop
  | nil : Pres key f bs 0
  | snoc {a : Nat} : Pres key f bs a → Sg key f a (a + bs) → Pres key f bs (a + bs)
theorem Segs.out {key : Int → Int} {f g : Nat → Int} {bs n a x y : Nat} (h : Segs key f bs n a) (ho : OutF f g x y) (hy : y ≤ a) : Segs key g bs n a := by
  induction h with
  | done h => exact .done h
  | step h1 h2 _ ih => exact .step h1 (h2.out ho (.inr hy)) (ih (by omega))
theorem Pres.out {key : Int → Int} {f g : Nat → Int} {bs a x y : Nat} (h : Pres key f bs a) (ho : OutF f g x y) (hx : a ≤ x) : Pres key g bs a := by
  induction h with
  | nil => exact .nil
  | snoc _ h2 ih => exact .snoc (ih (by omega)) (h2.out ho (.inl (by omega)))
theorem Pres.join {key : Int → Int} {f : Nat → Int} {bs n a : Nat} (h : Pres key f bs a) (h0 : 0 < bs) (ha : a ≤ n) (hs : Segs key f bs n a) : Segs key f bs n 0 := by
  induction h with
  | nil => exact hs
  | snoc _ h2 ih => exact ih (by omega) (.step (by omega) (by rw [Nat.min_eq_left ha]; exact h2) hs)
theorem Segs.head {key : Int → Int} {f : Nat → Int} {bs n a : Nat} (h : Segs key f bs n a) (ha : a < n) : Sg key f a (min (a + bs) n) ∧ Segs key f bs n (a + bs) := by
  cases h with
  | done h => omega
  | step _ h1 h2 => exact ⟨h1, h2⟩
end Go.Proofs.YthgpbdlmadjndaaDoor
namespace Go.Proofs.YthgpbdlmadjndaaDoor
def LexN (key : Nat → Int) (x y : Nat) : Prop := key x < key y ∨ (key x = key y ∧ x < y)
/-- One more, behind those of keys not greater. -/
def insO (key : Nat → Int) (n : Nat) (l : List Nat) : List Nat := (l.filter fun x => decide (key x ≤ key n)) ++ n :: (l.filter fun x => !decide (key x ≤ key n))
def ordL (key : Nat → Int) : Nat → List Nat
  | 0 => []
  | n + 1 => insO key n (ordL key n)
theorem insO_perm (key : Nat → Int) (n : Nat) (l : List Nat) : (insO key n l).Perm (n :: l) :=
  List.perm_middle.trans ((List.filter_append_perm _ l).cons n)
theorem ordL_perm (key : Nat → Int) (n : Nat) : (ordL key n).Perm (List.range n) := by
  induction n with
  | zero => exact .nil
  | succ n ih =>
    rw [List.range_succ]
    exact ((insO_perm key n _).trans (ih.cons n)).trans (List.perm_append_comm (l₁ := [n]))
theorem insO_lex {key : Nat → Int} {n : Nat} {l : List Nat} (h : l.Pairwise (LexN key)) (hn : ∀ x ∈ l, x < n) : (insO key n l).Pairwise (LexN key) := by
  refine List.pairwise_append.2 ⟨h.sublist List.filter_sublist, List.pairwise_cons.2 ⟨fun y hy => ?_, h.sublist List.filter_sublist⟩, fun x hx y hy => ?_⟩
  · have := List.mem_filter.1 hy
    simp only [Bool.not_eq_true', decide_eq_false_iff_not] at this
    exact .inl (by omega)
  · have h1 := List.mem_filter.1 hx
    simp only [decide_eq_true_eq] at h1
    have h2 := hn x h1.1
    rcases List.mem_cons.1 hy with rfl | hy
    · unfold LexN; omega
    · have h3 := List.mem_filter.1 hy
      simp only [Bool.not_eq_true', decide_eq_false_iff_not] at h3
      unfold LexN; omega
theorem ordL_lt {key : Nat → Int} {n x : Nat} (h : x ∈ ordL key n) : x < n := List.mem_range.1 ((ordL_perm key n).mem_iff.1 h)
theorem ordL_lex (key : Nat → Int) (n : Nat) : (ordL key n).Pairwise (LexN key) := by
  induction n with
  | zero => exact .nil
  | succ n ih => exact insO_lex ih fun x hx => ordL_lt hx
theorem ordL_only {key : Nat → Int} {n : Nat} {l : List Nat} (hp : l.Perm (List.range n)) (hs : l.Pairwise (LexN key)) : l = ordL key n :=
  List.Perm.eq_of_pairwise (le := LexN key) (fun a b _ _ h1 h2 => by unfold LexN at h1 h2; omega) hs (ordL_lex key n) (hp.trans (ordL_perm key n).symm)
theorem ordL_len (key : Nat → Int) (n : Nat) : (ordL key n).length = n := by have := (ordL_perm key n).length_eq; simpa using this
theorem ordL_id {key : Nat → Int} {n : Nat} (h : ∀ i j, i ≤ j → j < n → key i ≤ key j) : ordL key n = List.range n := by
  refine (ordL_only (List.Perm.refl _) ?_).symm
  rw [List.pairwise_iff_getElem]
  intro i j hi hj hij
  simp only [List.length_range] at hi hj
  simp only [List.getElem_range]
  have := h i j (by omega) hj
  unfold LexN
  omega
theorem perm_range {l : List Nat} {n : Nat} (hnd : l.Nodup) (hl : l.length = n) (hlt : ∀ x ∈ l, x < n) : l.Perm (List.range n) := by
  refine (List.perm_ext_iff_of_nodup hnd List.nodup_range).2 fun x => ⟨fun hx => List.mem_range.2 (hlt x hx), fun hx => ?_⟩
  refine Classical.byContradiction fun hno => ?_
  have h1 := List.Nodup.length_le_of_subset (List.nodup_cons.2 ⟨hno, hnd⟩) (l₂ := List.range n) (fun y hy => by
    rcases List.mem_cons.1 hy with rfl | hy
    · exact hx
    · exact List.mem_range.2 (hlt y hy))
  simp at h1
  omega
/-- A row in order that holds its own numbers is that order. -/
theorem sg_ord {key : Int → Int} {f : Nat → Int} {n : Nat} (h : Sg key f 0 n) : (List.range n).map (fun k => (f k).toNat) = ordL (fun k => key k) n := by
  have hv : ∀ k, k < n → ((f k).toNat : Int) = f k := fun k hk => by have := h.2 k (Nat.zero_le _) hk; omega
  have hs : ((List.range n).map fun k => (f k).toNat).Pairwise (LexN fun k => key k) := by
    rw [List.pairwise_iff_getElem]
    intro i j hi hj hij
    simp only [List.length_map, List.length_range] at hi hj
    simp only [List.getElem_map, List.getElem_range]
    have := h.1 i j (Nat.zero_le _) hij hj
    unfold LexI at this
    unfold LexN
    simp only
    rw [hv i hi, hv j hj]
    have := hv i hi
    have := hv j hj
    omega
  refine ordL_only ?_ hs
  have hnd : ((List.range n).map fun k => (f k).toNat).Nodup := hs.imp fun {a b} hab e => by subst e; unfold LexN at hab; omega
  refine perm_range hnd (by simp) fun x hx => ?_
  obtain ⟨k, hk, rfl⟩ := List.mem_map.1 hx
  have := h.2 k (Nat.zero_le _) (List.mem_range.1 hk)
  have := List.mem_range.1 hk
  omega
end Go.Proofs.YthgpbdlmadjndaaDoor
