/- What a link may do, plainly: errors of what was sent, one by one. No program. No condition. -/
import Derived.Test.YthgpbdlmadjndaaGreatDoorFifoM2
namespace Go.Proofs.YthgpbdlmadjndaaGreatDoor
/-- Is one, that is not done, so? -/
def othGo (d P : Nat → Bool) : Nat → Nat → Bool
  | 0, _ => false
  | m + 1, k => (!d k && P k) || othGo d P m (k + 1)
def oth (n : Nat) (d P : Nat → Bool) : Bool := othGo d P n 0
theorem othGo_end {d P : Nat → Bool} {n k : Nat} (h : n ≤ k) : othGo d P (n - k) k = false := by rw [Nat.sub_eq_zero_of_le h]; rfl
theorem othGo_step {d P : Nat → Bool} {n k : Nat} (h : k < n) : othGo d P (n - k) k = ((!d k && P k) || othGo d P (n - (k + 1)) (k + 1)) := by
  rw [show n - k = (n - (k + 1)) + 1 by omega]; rfl
theorem othGo_congr {d P Q : Nat → Bool} (m k : Nat) (h : ∀ j, k ≤ j → j < k + m → P j = Q j) : othGo d P m k = othGo d Q m k := by
  induction m generalizing k with
  | zero => rfl
  | succ m ih =>
    show (!d k && P k || othGo d P m (k + 1)) = (!d k && Q k || othGo d Q m (k + 1))
    rw [h k (Nat.le_refl _) (by omega), ih (k + 1) fun j h1 h2 => h j (by omega) (by omega)]
theorem othGo_none {d P : Nat → Bool} (m k : Nat) (h : ∀ j, k ≤ j → j < k + m → P j = false) : othGo d P m k = false := by
  induction m generalizing k with
  | zero => rfl
  | succ m ih =>
    show (!d k && P k || othGo d P m (k + 1)) = false
    rw [h k (Nat.le_refl _) (by omega), ih (k + 1) fun j h1 h2 => h j (by omega) (by omega)]
    simp
theorem othGo_add {d P : Nat → Bool} (a b k : Nat) : othGo d P (a + b) k = (othGo d P a k || othGo d P b (k + a)) := by
  induction a generalizing k with
  | zero => simp [othGo]
  | succ a ih =>
    rw [show a + 1 + b = (a + b) + 1 by omega]
    show (!d k && P k || othGo d P (a + b) (k + 1)) = ((!d k && P k || othGo d P a (k + 1)) || othGo d P b (k + (a + 1)))
    rw [ih, Bool.or_assoc, show k + 1 + a = k + (a + 1) by omega]
/-- Those ahead of one. -/
theorem oth_lt {d P : Nat → Bool} {n k : Nat} (h : k ≤ n) : oth n d (fun j => decide (j < k) && P j) = othGo d P k 0 := by
  unfold oth
  have h0 : othGo d (fun j => decide (j < k) && P j) (n - k) (0 + k) = false := othGo_none (n - k) (0 + k) fun j h1 h2 => by
    have h3 : ¬ j < k := by omega
    simp [h3]
  have h4 : othGo d (fun j => decide (j < k) && P j) k 0 = othGo d P k 0 := othGo_congr k 0 fun j h1 h2 => by
    have h3 : j < k := by omega
    simp [h3]
  have e : n = k + (n - k) := by omega
  rw [e, othGo_add]
  rw [h0, h4, Bool.or_false]
def sameFl (p : List Pk) (k j : Nat) : Bool := decide (fOf p j = fOf p k)
def auErr (p : List Pk) (per : Int) (d : Nat → Bool) (to : Int) (x : Sn) : Nat :=
  if x.p < 0 ∨ (p.length : Int) ≤ x.p ∨ d x.p.toNat = true then 4
  else if x.f < aOf p x.p.toNat ∨ x.f < to then 5
  else if x.t ≠ x.f + per * sOf p x.p.toNat then 3
  else if to < x.f ∧ oth p.length d (fun j => decide (aOf p j < x.f)) = true then 7
  else if oth p.length d (fun j => decide (j < x.p.toNat) && sameFl p x.p.toNat j) = true then 8
  else 0
def dSet (d : Nat → Bool) (k : Nat) : Nat → Bool := fun j => d j || k == j
def auGo (p : List Pk) (per : Int) : (Nat → Bool) → Int → List Sn → Nat → Nat × Int
  | d, _, [], _ => if oth p.length d (fun _ => true) = true then (4, -1) else (0, -1)
  | d, to, x :: r, i => if auErr p per d to x ≠ 0 then (auErr p per d to x, (i : Int)) else auGo p per (dSet d x.p.toNat) x.t r (i + 1)
def audErr (p : List Pk) (per : Int) (l : List Sn) : Nat × Int := if (lookErr p per).1 ≠ 0 then lookErr p per else auGo p per (fun _ => false) 0 l 0
end Go.Proofs.YthgpbdlmadjndaaGreatDoor
