/- Errors of the program: package api's sentinels, and a fault with a place, as values in memory. No condition. -/
import Derived.Test.YteeaipehkhldhaaDoorProg
import Derived.Test.YteeaipehkhldhaaDoorLib
namespace Go.Proofs.YteeaipehkhldhaaDoor
open Go.RowKit

/-- The global variable of the error with this number. -/
def G : Nat → Nat
 | 1 => 0
 | 2 => 1
 | 3 => 2
 | 4 => 3
 | 5 => 4
 | 6 => 5
 | 7 => 6
 | 8 => 7
 | 9 => 8
  | _ => 1000000
def tES : Nat := 98
/-- A sentinel's value. -/
def sv (S : Nat → Addr) (k : Nat) : Value := .iface 98 (.pointer (some (S k)))

/-- The sentinels ks lie in their variables, below block B. -/
def Snt (w : World) (B : Nat) (S : Nat → Addr) (ks : List Nat) : Prop := ∀ k ∈ ks, G k < B ∧ (S k).block < B ∧ w.cell? ⟨G k, 0, none⟩ = some (sv S k)
theorem Snt.below {w w' : World} {B : Nat} {S : Nat → Addr} {ks : List Nat} (h : Snt w B S ks) (hb : Below B w w') : Snt w' B S ks := fun k hk => by
  obtain ⟨h1, h2, h3⟩ := h k hk
  exact ⟨h1, h2, (hb.cell h1).trans h3⟩
theorem Snt.more {w : World} {B B' : Nat} {S : Nat → Addr} {ks : List Nat} (h : Snt w B S ks) (hB : B ≤ B') : Snt w B' S ks := fun k hk => by
  obtain ⟨h1, h2, h3⟩ := h k hk
  exact ⟨by omega, by omega, h3⟩
theorem Snt.sub {w : World} {B : Nat} {S : Nat → Addr} {ks ks' : List Nat} (h : Snt w B S ks) (hs : ∀ k ∈ ks', k ∈ ks) : Snt w B S ks' := fun k hk => h k (hs k hk)

/-- The value v is the error of this number (0: nil), with this place (-1: none), below block B. -/
inductive Er (w : World) (B : Nat) (S : Nat → Addr) : Value → Nat → Int → Prop
  | nil : Er w B S .nilIface 0 (-1)
  | bare (k : Nat) (h1 : 1 ≤ k) (h9 : k ≤ 9) : Er w B S (sv S k) k (-1)
  | fault (k : Nat) (h1 : 1 ≤ k) (h9 : k ≤ 9) (b : Nat) (at_ : Int) (hb : b < B) (hk : w.heap[b]? = some (.cells #[.int .i64 at_, sv S k] 40 (0, 0))) :
      Er w B S (.iface 38 (.pointer (some ⟨b, 0, none⟩))) k at_
theorem Er.below {w w' : World} {B : Nat} {S : Nat → Addr} {v : Value} {k : Nat} {a : Int} (h : Er w B S v k a) (hb : Below B w w') : Er w' B S v k a := by
  cases h with
  | nil => exact .nil
  | bare k h1 h9 => exact .bare _ h1 h9
  | fault k h1 h9 b a hlt hk => exact .fault _ h1 h9 b a hlt ((hb.block b hlt).trans hk)
theorem Er.more {w : World} {B B' : Nat} {S : Nat → Addr} {v : Value} {k : Nat} {a : Int} (h : Er w B S v k a) (hB : B ≤ B') : Er w B' S v k a := by
  cases h with
  | nil => exact .nil
  | bare k h1 h9 => exact .bare _ h1 h9
  | fault k h1 h9 b a hlt hk => exact .fault _ h1 h9 b a (by omega) hk
theorem Er.nil_of {w : World} {B : Nat} {S : Nat → Addr} {v : Value} {k : Nat} {a : Int} (h : Er w B S v k a) (hk : k = 0) : v = .nilIface := by
  cases h with
  | nil => rfl
  | bare k h1 h9 => omega
  | fault k h1 h9 b a hlt hk => omega
theorem Er.some_of {w : World} {B : Nat} {S : Nat → Addr} {v : Value} {k : Nat} {a : Int} (h : Er w B S v k a) (hk : k ≠ 0) : ∃ T a, v = .iface T (.pointer (some a)) := by
  cases h with
  | nil => omega
  | bare k h1 h9 => exact ⟨_, _, rfl⟩
  | fault k h1 h9 b a hlt hk => exact ⟨_, _, rfl⟩

/-- A call's end: an error, and nothing that was there has changed. -/
def EndEr (S : Nat → Addr) (k : Nat) (a : Int) (w : World) (e : Ending) (w' : World) : Prop := ∃ v, e = .returned v ∧ Er w' w'.heap.size S v k a ∧ Below w.heap.size w w'
/-- A call's end: a value, an error, and nothing that was there has changed. -/
def EndVEr (x : Value) (S : Nat → Addr) (k : Nat) (a : Int) (w : World) (e : Ending) (w' : World) : Prop := ∃ v, e = .returned (.tuple #[x, v]) ∧ Er w' w'.heap.size S v k a ∧ Below w.heap.size w w'
end Go.Proofs.YteeaipehkhldhaaDoor
