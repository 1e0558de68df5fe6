/- Plain words on memory, used by all walks of this seat: a slice that reads as a list of elements of some cells each; blocks; worlds. No condition. -/
import Derived.WalkKit
import Derived.Lib.Hide
namespace Go.Proofs.YteeaipehkhldhaaDoor
open Go.RowKit

/-- The slice at A holds the elements l, each of the cells f, sz cells apart, below block B. -/
def Rd {α : Type} (w : World) (B sz : Nat) (f : α → List Value) (A : Option Addr) (l : List α) : Prop :=
  0 < l.length → ∃ b o, A = some ⟨b, o, none⟩ ∧ b < B ∧ ∀ (i : Nat) (x : α), l[i]? = some x → ∀ (j : Nat) (v : Value), (f x)[j]? = some v → w.cell? ⟨b, o + i * sz + j, none⟩ = some v

section
variable {α : Type} {w w' : World} {B B' sz : Nat} {f : α → List Value} {A : Option Addr} {l : List α}
theorem Rd.nil_ : Rd w B sz f A [] := fun h => absurd h (by simp)
theorem Rd.keep (h : Rd w B sz f A l) (hk : ∀ p : Addr, p.block < B → w'.cell? p = w.cell? p) : Rd w' B sz f A l := fun h0 => by
  obtain ⟨b, o, e, hb, hc⟩ := h h0
  exact ⟨b, o, e, hb, fun i x hx j v hv => (hk _ hb).trans (hc i x hx j v hv)⟩
theorem Rd.below (h : Rd w B sz f A l) (hb : Below B w w') : Rd w' B sz f A l := h.keep fun _ hp => hb.cell hp
theorem Rd.more (h : Rd w B sz f A l) (hB : B ≤ B') : Rd w B' sz f A l := fun h0 => by
  obtain ⟨b, o, e, hb, hc⟩ := h h0
  exact ⟨b, o, e, by omega, hc⟩
theorem Rd.at_ (h : Rd w B sz f A l) {i : Nat} (hi : i < l.length) :
    ∃ b o, A = some ⟨b, o, none⟩ ∧ b < B ∧ ∀ (j : Nat) (v : Value), (f l[i])[j]? = some v → w.cell? ⟨b, o + i * sz + j, none⟩ = some v := by
  obtain ⟨b, o, e, hb, hc⟩ := h (by omega)
  exact ⟨b, o, e, hb, hc i _ (List.getElem?_eq_getElem hi)⟩
end

/-- A cell of a block that is known whole. -/
theorem cell_blk {w : World} {b : Nat} {cs : Array Value} {T : TypeId} {z : Nat × Nat} (h : w.heap[b]? = some (.cells cs T z)) (i : Nat) : w.cell? ⟨b, i, none⟩ = cs[i]? := by
  unfold World.cell?
  rw [h]
  rfl
/-- A new block, behind a call that keeps it. -/
theorem new_blk {w w' : World} {o : Obj} (hb : Below (w.alloc o).heap.size (w.alloc o) w') : w'.heap[w.heap.size]? = some o := (hb.block w.heap.size (by simp)).trans (heap_alloc_new w o)
theorem heap_alloc_new2 (w : World) (o1 o2 : Obj) : ((w.alloc o1).alloc o2).heap[w.heap.size + 1]? = some o2 := by
  have h := heap_alloc_new (w.alloc o1) o2
  have e : (w.alloc o1).heap.size = w.heap.size + 1 := by simp
  rw [e] at h
  exact h
/-- A line of a curve. -/
structure Ln where
  b : Int
  r : Int
deriving DecidableEq
/-- A packet. -/
structure Pk where
  f : Int
  s : Int
  a : Int
deriving DecidableEq
/-- What is sent. -/
structure Sn where
  p : Int
  f : Int
  t : Int
deriving DecidableEq
def iv (n : Int) : Value := .int .i64 n
def Ln.cs (x : Ln) : List Value := [.int .i64 x.b, .int .i64 x.r]
def Pk.cs (x : Pk) : List Value := [.int .i64 x.f, .int .i64 x.s, .int .i64 x.a]
def Sn.cs (x : Sn) : List Value := [.int .i64 x.p, .int .i64 x.f, .int .i64 x.t]
def Ln.v (x : Ln) : Value := .agg #[.int .i64 x.b, .int .i64 x.r]
abbrev RdL (w : World) (B : Nat) (A : Option Addr) (l : List Ln) : Prop := Rd w B 2 Ln.cs A l
abbrev RdP (w : World) (B : Nat) (A : Option Addr) (l : List Pk) : Prop := Rd w B 3 Pk.cs A l
abbrev RdS (w : World) (B : Nat) (A : Option Addr) (l : List Sn) : Prop := Rd w B 3 Sn.cs A l
abbrev RdI (w : World) (B : Nat) (A : Option Addr) (l : List Int) : Prop := Rd w B 1 (fun n => [.int .i64 n]) A l

theorem RdL.get {w : World} {B : Nat} {A : Option Addr} {l : List Ln} (h : RdL w B A l) {i : Nat} (hi : i < l.length) :
    ∃ b o, A = some ⟨b, o, none⟩ ∧ b < B ∧ w.cell? ⟨b, o + i * 2, none⟩ = some (.int .i64 l[i].b) ∧ w.cell? ⟨b, o + i * 2 + 1, none⟩ = some (.int .i64 l[i].r) := by
  obtain ⟨b, o, e, hb, hc⟩ := h.at_ hi
  exact ⟨b, o, e, hb, hc 0 _ rfl, hc 1 _ rfl⟩

theorem ret_bool {a b : Bool} (h : a = b) : Ending.returned (.bool a) = .returned (.bool b) := by rw [h]
theorem ret_int {a b : Int} (h : a = b) : Ending.returned (.int .i64 a) = .returned (.int .i64 b) := by rw [h]
end Go.Proofs.YteeaipehkhldhaaDoor
