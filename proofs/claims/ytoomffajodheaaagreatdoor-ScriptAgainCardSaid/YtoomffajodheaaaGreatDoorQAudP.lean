/- What a link may do, plainly: errors of what was sent, one by one. No program. No condition. -/
import Derived.Test.YtoomffajodheaaaGreatDoorQFifoM2
set_option linter.all false
namespace Go.Proofs.YtoomffajodheaaaGreatDoor
/-- Is one, that is not done, so? -/
def othGo (d P : Nat → Bool) : Nat → Nat → Bool
  | 0, _ => false
  | m + 1, k => (!d k && P k) || othGo d P m (k + 1)
def oth (n : Nat) (d P : Nat → Bool) : Bool := othGo d P n 0
def sameFl (p : List Pk) (k j : Nat) : Bool := decide (fOf p j = fOf p k)
def auErr (p : List Pk) (per : Int) (d : Nat → Bool) (to : Int) (x : Sn) : Nat :=
  if x.p < 0 ∨ (p.length : Int) ≤ x.p ∨ d x.p.toNat = true then 4
  else if x.f < aOf p x.p.toNat ∨ x.f < to then 5
  else if x.t ≠ x.f + per * sOf p x.p.toNat then 3
  else if to < x.f ∧ oth p.length d (fun j => decide (aOf p j < x.f)) = true then 7
  else if oth p.length d (fun j => decide (j < x.p.toNat) && sameFl p x.p.toNat j) = true then 8
  else 0
def dSet (d : Nat → Bool) (k : Nat) : Nat → Bool := fun j => d j || k == j
def auGo (p : List Pk) (per : Int) : (Nat → Bool) → Int → List Sn → Nat → Nat × Int
  | d, _, [], _ => if oth p.length d (fun _ => true) = true then (4, -1) else (0, -1)
  | d, to, x :: r, i => if auErr p per d to x ≠ 0 then (auErr p per d to x, (i : Int)) else auGo p per (dSet d x.p.toNat) x.t r (i + 1)
def audErr (p : List Pk) (per : Int) (l : List Sn) : Nat × Int := if (lookErr p per).1 ≠ 0 then lookErr p per else auGo p per (fun _ => false) 0 l 0
end Go.Proofs.YtoomffajodheaaaGreatDoor
