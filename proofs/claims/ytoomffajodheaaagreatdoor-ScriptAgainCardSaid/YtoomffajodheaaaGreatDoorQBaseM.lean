/- Plain words on memory, used by all walks of this seat: a slice that reads as a list of elements of some cells each; blocks; worlds. No condition. Errors of the program: package api's sentinels, and a fault with a place, as values in memory. No condition. append onto a row of the call's own, out of a slice that reads as a list (nil, empty or not); rows of the call's own read as lists. No condition. Blocks known whole, behind stores and new blocks. No program. No condition. A row of cells in a block of the call's own; what changes that block alone. -/
import Derived.WalkKit
import Derived.Lib.Hide
import Derived.Test.YtoomffajodheaaaGreatDoorProg
import Derived.Maps.AppendAt
import Derived.Deep.AppendLies
import Derived.RegionTactic
import Derived.OwnWalk
import Derived.OneCell
import Derived.Deep.Draws
import Derived.WalkSmall
set_option linter.all false
namespace Go.Proofs.YtoomffajodheaaaGreatDoor
open Go.RowKit

/-- The slice at A holds the elements l, each of the cells f, sz cells apart, below block B. -/
def Rd {α : Type} (w : World) (B sz : Nat) (f : α → List Value) (A : Option Addr) (l : List α) : Prop :=
  0 < l.length → ∃ b o, A = some ⟨b, o, none⟩ ∧ b < B ∧ ∀ (i : Nat) (x : α), l[i]? = some x → ∀ (j : Nat) (v : Value), (f x)[j]? = some v → w.cell? ⟨b, o + i * sz + j, none⟩ = some v

section
variable {α : Type} {w w' : World} {B B' sz : Nat} {f : α → List Value} {A : Option Addr} {l : List α}
theorem Rd.nil_ : Rd w B sz f A [] := fun h => absurd h (by simp)
theorem Rd.keep (h : Rd w B sz f A l) (hk : ∀ p : Addr, p.block < B → w'.cell? p = w.cell? p) : Rd w' B sz f A l := fun h0 => by
  obtain ⟨b, o, e, hb, hc⟩ := h h0
  exact ⟨b, o, e, hb, fun i x hx j v hv => (hk _ hb).trans (hc i x hx j v hv)⟩
theorem Rd.below (h : Rd w B sz f A l) (hb : Below B w w') : Rd w' B sz f A l := h.keep fun _ hp => hb.cell hp
theorem Rd.more (h : Rd w B sz f A l) (hB : B ≤ B') : Rd w B' sz f A l := fun h0 => by
  obtain ⟨b, o, e, hb, hc⟩ := h h0
  exact ⟨b, o, e, by omega, hc⟩
theorem Rd.at_ (h : Rd w B sz f A l) {i : Nat} (hi : i < l.length) :
    ∃ b o, A = some ⟨b, o, none⟩ ∧ b < B ∧ ∀ (j : Nat) (v : Value), (f l[i])[j]? = some v → w.cell? ⟨b, o + i * sz + j, none⟩ = some v := by
  obtain ⟨b, o, e, hb, hc⟩ := h (by omega)
  exact ⟨b, o, e, hb, hc i _ (List.getElem?_eq_getElem hi)⟩
end

/-- A cell of a block that is known whole. -/
theorem cell_blk {w : World} {b : Nat} {cs : Array Value} {T : TypeId} {z : Nat × Nat} (h : w.heap[b]? = some (.cells cs T z)) (i : Nat) : w.cell? ⟨b, i, none⟩ = cs[i]? := by
  unfold World.cell?
  rw [h]
  rfl
theorem heap_alloc_new2 (w : World) (o1 o2 : Obj) : ((w.alloc o1).alloc o2).heap[w.heap.size + 1]? = some o2 := by
  have h := heap_alloc_new (w.alloc o1) o2
  have e : (w.alloc o1).heap.size = w.heap.size + 1 := by simp
  rw [e] at h
  exact h
/-- A line of a curve. -/
structure Ln where
  b : Int
  r : Int
deriving DecidableEq
/-- A packet. -/
structure Pk where
  f : Int
  s : Int
  a : Int
deriving DecidableEq
/-- What is sent. -/
structure Sn where
  p : Int
  f : Int
  t : Int
deriving DecidableEq
def iv (n : Int) : Value := .int .i64 n
def Ln.cs (x : Ln) : List Value := [.int .i64 x.b, .int .i64 x.r]
def Pk.cs (x : Pk) : List Value := [.int .i64 x.f, .int .i64 x.s, .int .i64 x.a]
def Sn.cs (x : Sn) : List Value := [.int .i64 x.p, .int .i64 x.f, .int .i64 x.t]
def Ln.v (x : Ln) : Value := .agg #[.int .i64 x.b, .int .i64 x.r]
abbrev RdL (w : World) (B : Nat) (A : Option Addr) (l : List Ln) : Prop := Rd w B 2 Ln.cs A l
abbrev RdP (w : World) (B : Nat) (A : Option Addr) (l : List Pk) : Prop := Rd w B 3 Pk.cs A l
abbrev RdS (w : World) (B : Nat) (A : Option Addr) (l : List Sn) : Prop := Rd w B 3 Sn.cs A l
abbrev RdI (w : World) (B : Nat) (A : Option Addr) (l : List Int) : Prop := Rd w B 1 (fun n => [.int .i64 n]) A l

theorem RdL.get {w : World} {B : Nat} {A : Option Addr} {l : List Ln} (h : RdL w B A l) {i : Nat} (hi : i < l.length) :
    ∃ b o, A = some ⟨b, o, none⟩ ∧ b < B ∧ w.cell? ⟨b, o + i * 2, none⟩ = some (.int .i64 l[i].b) ∧ w.cell? ⟨b, o + i * 2 + 1, none⟩ = some (.int .i64 l[i].r) := by
  obtain ⟨b, o, e, hb, hc⟩ := h.at_ hi
  exact ⟨b, o, e, hb, hc 0 _ rfl, hc 1 _ rfl⟩

theorem ret_bool {a b : Bool} (h : a = b) : Ending.returned (.bool a) = .returned (.bool b) := by rw [h]
theorem ret_int {a b : Int} (h : a = b) : Ending.returned (.int .i64 a) = .returned (.int .i64 b) := by rw [h]
end Go.Proofs.YtoomffajodheaaaGreatDoor
namespace Go.Proofs.YtoomffajodheaaaGreatDoor
open Go.RowKit

/-- The global variable of the error with this number. -/
def G : Nat → Nat
 | 1 => 1
 | 2 => 0
 | 3 => 2
 | 4 => 3
 | 5 => 4
 | 6 => 5
 | 7 => 6
 | 8 => 7
 | 9 => 8
  | _ => 1000000
/-- A sentinel's value. -/
def sv (S : Nat → Addr) (k : Nat) : Value := .iface 242 (.pointer (some (S k)))

/-- The sentinels ks lie in their variables, below block B. -/
def Snt (w : World) (B : Nat) (S : Nat → Addr) (ks : List Nat) : Prop := ∀ k ∈ ks, G k < B ∧ (S k).block < B ∧ w.cell? ⟨G k, 0, none⟩ = some (sv S k)
theorem Snt.below {w w' : World} {B : Nat} {S : Nat → Addr} {ks : List Nat} (h : Snt w B S ks) (hb : Below B w w') : Snt w' B S ks := fun k hk => by
  obtain ⟨h1, h2, h3⟩ := h k hk
  exact ⟨h1, h2, (hb.cell h1).trans h3⟩
theorem Snt.more {w : World} {B B' : Nat} {S : Nat → Addr} {ks : List Nat} (h : Snt w B S ks) (hB : B ≤ B') : Snt w B' S ks := fun k hk => by
  obtain ⟨h1, h2, h3⟩ := h k hk
  exact ⟨by omega, by omega, h3⟩
theorem Snt.sub {w : World} {B : Nat} {S : Nat → Addr} {ks ks' : List Nat} (h : Snt w B S ks) (hs : ∀ k ∈ ks', k ∈ ks) : Snt w B S ks' := fun k hk => h k (hs k hk)

/-- The value v is the error of this number (0: nil), with this place (-1: none), below block B. -/
inductive Er (w : World) (B : Nat) (S : Nat → Addr) : Value → Nat → Int → Prop
  | nil : Er w B S .nilIface 0 (-1)
  | bare (k : Nat) (h1 : 1 ≤ k) (h9 : k ≤ 9) : Er w B S (sv S k) k (-1)
  | fault (k : Nat) (h1 : 1 ≤ k) (h9 : k ≤ 9) (b : Nat) (at_ : Int) (hb : b < B) (hk : w.heap[b]? = some (.cells #[.int .i64 at_, sv S k] 99 (0, 0))) :
      Er w B S (.iface 95 (.pointer (some ⟨b, 0, none⟩))) k at_
theorem Er.below {w w' : World} {B : Nat} {S : Nat → Addr} {v : Value} {k : Nat} {a : Int} (h : Er w B S v k a) (hb : Below B w w') : Er w' B S v k a := by
  cases h with
  | nil => exact .nil
  | bare k h1 h9 => exact .bare _ h1 h9
  | fault k h1 h9 b a hlt hk => exact .fault _ h1 h9 b a hlt ((hb.block b hlt).trans hk)
theorem Er.more {w : World} {B B' : Nat} {S : Nat → Addr} {v : Value} {k : Nat} {a : Int} (h : Er w B S v k a) (hB : B ≤ B') : Er w B' S v k a := by
  cases h with
  | nil => exact .nil
  | bare k h1 h9 => exact .bare _ h1 h9
  | fault k h1 h9 b a hlt hk => exact .fault _ h1 h9 b a (by omega) hk
theorem Er.nil_of {w : World} {B : Nat} {S : Nat → Addr} {v : Value} {k : Nat} {a : Int} (h : Er w B S v k a) (hk : k = 0) : v = .nilIface := by
  cases h with
  | nil => rfl
  | bare k h1 h9 => omega
  | fault k h1 h9 b a hlt hk => omega
theorem Er.some_of {w : World} {B : Nat} {S : Nat → Addr} {v : Value} {k : Nat} {a : Int} (h : Er w B S v k a) (hk : k ≠ 0) : ∃ T a, v = .iface T (.pointer (some a)) := by
  cases h with
  | nil => omega
  | bare k h1 h9 => exact ⟨_, _, rfl⟩
  | fault k h1 h9 b a hlt hk => exact ⟨_, _, rfl⟩

/-- A call's end: an error, and nothing that was there has changed. -/
def EndEr (S : Nat → Addr) (k : Nat) (a : Int) (w : World) (e : Ending) (w' : World) : Prop := ∃ v, e = .returned v ∧ Er w' w'.heap.size S v k a ∧ Below w.heap.size w w'
/-- A call's end: a value, an error, and nothing that was there has changed. -/
def EndVEr (x : Value) (S : Nat → Addr) (k : Nat) (a : Int) (w : World) (e : Ending) (w' : World) : Prop := ∃ v, e = .returned (.tuple #[x, v]) ∧ Er w' w'.heap.size S v k a ∧ Below w.heap.size w w'
end Go.Proofs.YtoomffajodheaaaGreatDoor
namespace Go.Proofs.YtoomffajodheaaaGreatDoor
open Go.RowKit

theorem flat_get {α : Type} (f : α → List Value) (sz : Nat) (hsz : 0 < sz) (hf : ∀ x, (f x).length = sz) (l : List α) (j : Nat) :
    (l.flatMap f)[j]? = (l[j / sz]?).bind fun x => (f x)[j % sz]? := by
  induction l generalizing j with
  | nil => simp
  | cons x r ih =>
    rw [List.flatMap_cons]
    by_cases hj : j < sz
    · rw [List.getElem?_append_left (by rw [hf]; exact hj), Nat.div_eq_of_lt hj, Nat.mod_eq_of_lt hj]
      rfl
    · have hj' : sz ≤ j := by omega
      rw [List.getElem?_append_right (by rw [hf]; exact hj'), hf, ih]
      have e1 : j / sz = (j - sz) / sz + 1 := by rw [Nat.div_eq_sub_div hsz hj']
      have e2 : j % sz = (j - sz) % sz := Nat.mod_eq_sub_mod hj'
      rw [e1, e2, List.getElem?_cons_succ]
theorem flat_len {α : Type} (f : α → List Value) (sz : Nat) (hf : ∀ x, (f x).length = sz) (l : List α) : (l.flatMap f).length = l.length * sz := by
  induction l with
  | nil => simp
  | cons x r ih => rw [List.flatMap_cons, List.length_append, hf, ih, List.length_cons, Nat.succ_mul, Nat.add_comm]

section
variable {α : Type} {w w' : World} {B sz : Nat} {f : α → List Value} {A : Option Addr} {l : List α}
theorem add_mk (b o n : Nat) : (⟨b, o, none⟩ : Addr).add n = ⟨b, o + n, none⟩ := by
  unfold Addr.add
  split
  · rename_i h; rw [h]; rfl
  · rfl
theorem Rd.flat (h : Rd w B sz f A l) (hsz : 0 < sz) (hf : ∀ x, (f x).length = sz) (h0 : 0 < l.length) :
    ∃ b o, A = some ⟨b, o, none⟩ ∧ b < B ∧ ∀ (j : Nat) (v : Value), (l.flatMap f)[j]? = some v → w.cell? ((⟨b, o, none⟩ : Addr).add j) = some v := by
  obtain ⟨b, o, e, hb, hc⟩ := h h0
  refine ⟨b, o, e, hb, fun j v hv => ?_⟩
  rw [flat_get f sz hsz hf] at hv
  rw [add_mk]
  cases hx : l[j / sz]? with
  | none => rw [hx] at hv; cases hv
  | some x =>
    rw [hx] at hv
    have := hc _ x hx (j % sz) v hv
    have e2 : o + j / sz * sz + j % sz = o + j := by have := Nat.div_add_mod j sz; rw [Nat.mul_comm] at this; omega
    rw [e2] at this
    exact this
/-- A row of the call's own reads as a list. -/
theorem Rd.of_own {base : Nat} {e : TypeId} {c : Nat} (h : w.ownsRow base e sz (.slice A l.length c) l.length (l.flatMap f)) (hsz : 0 < sz) (hf : ∀ x, (f x).length = sz) : Rd w w.heap.size sz f A l := fun h0 => by
  obtain ⟨g, cap, hv, _, hlt⟩ := h.form h0
  have hA : A = some ⟨g, 0, none⟩ := by injection hv
  subst hA
  refine ⟨g, 0, rfl, hlt, fun i x hx j v hv => ?_⟩
  have hjlt : j < sz := by
    have := (List.getElem?_eq_some_iff.1 hv).1
    rw [hf] at this; exact this
  have := h.cells (g := g) rfl (i * sz + j) v (by
    rw [flat_get f sz hsz hf]
    have e1 : (i * sz + j) / sz = i := by rw [Nat.mul_comm, Nat.mul_add_div hsz, Nat.div_eq_of_lt hjlt, Nat.add_zero]
    have e2 : (i * sz + j) % sz = j := by rw [Nat.mul_comm, Nat.mul_add_mod, Nat.mod_eq_of_lt hjlt]
    rw [e1, e2, hx]; exact hv)
  rw [add_mk] at this
  rw [Nat.add_assoc]
  exact this
end

section
variable {P : Program} (w : World) {α : Type} (f : α → List Value)

theorem run_append_of_nil (base : Nat) (t ty e : TypeId) (i : TypeInfo) (size : Nat) (ht : P.underlying t = some (.slice e)) (hi : P.info? e = some i)
    (v : Value) (n : Nat) (xs : List Value) (hown : w.ownsRow base e size v n xs) (c : Nat) : (Builtin.append_ #[t, t] ty #[v, .slice none 0 c]).run P w = .ok v w := by
  rcases hown.2 with ⟨rfl, rfl⟩ | ⟨g, cap, cur, rfl, _, _, hnc, _⟩
  · simp [Builtin.append_, run_underlying ht, sizeOf, typeInfo, hi, Builtin.lenOf, Builtin.firstCells]
  · simp [Builtin.append_, run_underlying ht, sizeOf, typeInfo, hi, Builtin.lenOf, Builtin.firstCells, hnc, storeCells]

theorem run_append_rd (base : Nat) (t ty e : TypeId) (i : TypeInfo) (z : Value) (size bytes : Nat) (ht : P.underlying t = some (.slice e)) (hi : P.info? e = some i) (hz : i.zero = some z)
    (hsize : i.size = size) (hby : i.bytes = bytes) (hzs : z.cells.size = size) (hsz : 0 < size) (hf : ∀ x, (f x).length = size) (h1 : ∀ x, ∀ u ∈ f x, u.oneCell' = true)
    (v : Value) (n : Nat) (xs : List Value) (hown : w.ownsRow base e size v n xs)
    (B : Nat) (A : Option Addr) (c : Nat) (l : List α) (hr : Rd w B size f A l)
    (h63 : n + l.length ≤ maxLen) (hbytes : (n + l.length) * bytes ≤ 140737488355328) (hbase : base ≤ w.heap.size) :
    ∃ v' w', (Builtin.append_ #[t, t] ty #[v, .slice A l.length c]).run P w = .ok v' w' ∧ w'.ownsRow base e size v' (n + l.length) (xs ++ l.flatMap f) ∧ w.grownBy w' v.ownBlock ∧
      (v'.ownBlock = v.ownBlock ∨ v'.ownBlock = some w.heap.size) := by
  rcases A with _ | ad
  · have hn : l = [] := by
      rcases l with _ | ⟨x, r⟩
      · rfl
      · obtain ⟨b, o, h, _⟩ := hr (by simp)
        cases h
    subst hn
    exact ⟨v, w, run_append_of_nil w base t ty e i size ht hi v n xs hown c, by simpa using hown, World.grownBy.refl w _, .inl rfl⟩
  · have hcells : ∀ j u, (l.flatMap f)[j]? = some u → w.cell? (ad.add j) = some u := by
      intro j u hu
      rcases l with _ | ⟨x, r⟩
      · simp at hu
      · obtain ⟨b, o, h, _, hc⟩ := hr.flat hsz hf (by simp)
        injection h with h
        subst h
        exact hc j u hu
    have hone : ∀ u ∈ l.flatMap f, u.oneCell' = true := fun u hu => by
      obtain ⟨x, _, hx⟩ := List.mem_flatMap.1 hu
      exact h1 x u hx
    obtain ⟨v', w', hrun, h2, h3, _, h5⟩ := run_append_own_at (P := P) w base t ty e i z size bytes ht hi hz hsize hby hzs hsz v n xs hown ad l.length c (l.flatMap f) (flat_len f size hf l) hcells hone h63 hbytes hbase
    exact ⟨v', w', hrun, h2, h3, h5⟩

theorem wp_append_rd {o : Oper} {a : Act} {K : Act → World → Prop} {Q : Exit → Act → World → Prop} (s x : Operand) (t : TypeId)
    (ho : o.op = .call { callee := .builtin .append, args := #[s, x], argTypes := #[t, t] })
    (base : Nat) (e : TypeId) (i : TypeInfo) (z : Value) (size bytes : Nat) (ht : P.underlying t = some (.slice e)) (hi : P.info? e = some i) (hz : i.zero = some z)
    (hsize : i.size = size) (hby : i.bytes = bytes) (hzs : z.cells.size = size) (hsz : 0 < size) (hf : ∀ x, (f x).length = size) (h1 : ∀ x, ∀ u ∈ f x, u.oneCell' = true)
    (v : Value) (n : Nat) (xs : List Value) (hs : a.eval s = v) (hown : w.ownsRow base e size v n xs)
    (B : Nat) (A : Option Addr) (c : Nat) (l : List α) (hx : a.eval x = .slice A l.length c) (hr : Rd w B size f A l)
    (h63 : n + l.length ≤ maxLen) (hbytes : (n + l.length) * bytes ≤ 140737488355328) (hbase : base ≤ w.heap.size)
    (h : ∀ v' w', w'.ownsRow base e size v' (n + l.length) (xs ++ l.flatMap f) → w.grownBy w' v.ownBlock → (v'.ownBlock = v.ownBlock ∨ v'.ownBlock = some w.heap.size) → K (a.put o.dst v') w') : o.wp P a w K Q := by
  obtain ⟨v', w', hrun, h2, h3, h4⟩ := run_append_rd (P := P) w f base t o.type e i z size bytes ht hi hz hsize hby hzs hsz hf h1 v n xs hown B A c l hr h63 hbytes hbase
  unfold Oper.wp execOp
  simp only [ho, resolve, invoke, builtin, Sem.run_bind, Sem.run_pure, Result.andThen_ok, List.map_toArray, List.map_cons, List.map_nil, hs, hx, hrun]
  exact h v' w' h2 h3 h4

theorem wpList_append_rd {ops : Array Oper} {rest : List Oper} {o : Oper} {a : Act} {Q : Exit → Act → World → Prop} (hgd : o.guard = none) (s x : Operand) (t : TypeId)
    (ho : o.op = .call { callee := .builtin .append, args := #[s, x], argTypes := #[t, t] })
    (base : Nat) (e : TypeId) (i : TypeInfo) (z : Value) (size bytes : Nat) (ht : P.underlying t = some (.slice e)) (hi : P.info? e = some i) (hz : i.zero = some z)
    (hsize : i.size = size) (hby : i.bytes = bytes) (hzs : z.cells.size = size) (hsz : 0 < size) (hf : ∀ x, (f x).length = size) (h1 : ∀ x, ∀ u ∈ f x, u.oneCell' = true)
    (v : Value) (n : Nat) (xs : List Value) (hs : a.eval s = v) (hown : w.ownsRow base e size v n xs)
    (B : Nat) (A : Option Addr) (c : Nat) (l : List α) (hx : a.eval x = .slice A l.length c) (hr : Rd w B size f A l)
    (h63 : n + l.length ≤ maxLen) (hbytes : (n + l.length) * bytes ≤ 140737488355328) (hbase : base ≤ w.heap.size)
    (h : ∀ v' w', w'.ownsRow base e size v' (n + l.length) (xs ++ l.flatMap f) → w.grownBy w' v.ownBlock → (v'.ownBlock = v.ownBlock ∨ v'.ownBlock = some w.heap.size) → wpList P ops Q rest (a.put o.dst v') w') : wpList P ops Q (o :: rest) a w :=
  wpList_plain hgd fun _ hK => wp_append_rd w f s x t ho base e i z size bytes ht hi hz hsize hby hzs hsz hf h1 v n xs hs hown B A c l hx hr h63 hbytes hbase fun v' w' h2 h3 h4 => hK _ _ (h v' w' h2 h3 h4)
theorem step_append_rd {P : Program} {α : Type} (w : World) (f : α → List Value) {ops : Array Oper} {o : Oper} {a : Act} {K : Act → World → Prop} {Q : Exit → Act → World → Prop} {E : Prop} (hgd : o.guard = none) (s x : Operand) (t : TypeId)
    (ho : o.op = .call { callee := .builtin .append, args := #[s, x], argTypes := #[t, t] })
    (base : Nat) (e : TypeId) (i : TypeInfo) (z : Value) (size bytes : Nat) (ht : P.underlying t = some (.slice e)) (hi : P.info? e = some i) (hz : i.zero = some z)
    (hsize : i.size = size) (hby : i.bytes = bytes) (hzs : z.cells.size = size) (hsz : 0 < size) (hf : ∀ x, (f x).length = size) (h1 : ∀ x, ∀ u ∈ f x, u.oneCell' = true)
    (v : Value) (n : Nat) (xs : List Value) (hs : a.eval s = v) (hown : w.ownsRow base e size v n xs)
    (B : Nat) (A : Option Addr) (c : Nat) (l : List α) (hx : a.eval x = .slice A l.length c) (hr : Rd w B size f A l)
    (h63 : n + l.length ≤ maxLen) (hbytes : (n + l.length) * bytes ≤ 140737488355328) (hbase : base ≤ w.heap.size)
    (h : ∀ v' w', w'.ownsRow base e size v' (n + l.length) (xs ++ l.flatMap f) → w.grownBy w' v.ownBlock → (v'.ownBlock = v.ownBlock ∨ v'.ownBlock = some w.heap.size) → K (a.put o.dst v') w') :
    if Region.wanted o (yielded ops a.tmps) = true then Oper.wp P o a w K Q else E := by
  have hw : Region.wanted o (yielded ops a.tmps) = true := by simp [Region.wanted, hgd]
  rw [if_pos hw]
  exact wp_append_rd w f s x t ho base e i z size bytes ht hi hz hsize hby hzs hsz hf h1 v n xs hs hown B A c l hx hr h63 hbytes hbase h
/-- A block that is known whole reads as a list. -/
theorem Rd.of_block {α : Type} {w : World} {B sz g : Nat} {f : α → List Value} {l : List α} {cs : Array Value} {T : TypeId} {z : Nat × Nat} (h : w.heap[g]? = some (.cells cs T z)) (hcs : cs.toList = l.flatMap f) (hB : g < B) (hsz : 0 < sz) (hf : ∀ x, (f x).length = sz) :
    Rd w B sz f (some ⟨g, 0, none⟩) l := fun _ => by
  refine ⟨g, 0, rfl, hB, fun i x hx j v hv => ?_⟩
  have hjlt : j < sz := by
    have := (List.getElem?_eq_some_iff.1 hv).1
    rw [hf] at this; exact this
  have e : (l.flatMap f)[i * sz + j]? = some v := by
    rw [flat_get f sz hsz hf]
    have e1 : (i * sz + j) / sz = i := by rw [Nat.mul_comm, Nat.mul_add_div hsz, Nat.div_eq_of_lt hjlt, Nat.add_zero]
    have e2 : (i * sz + j) % sz = j := by rw [Nat.mul_comm, Nat.mul_add_mod, Nat.mod_eq_of_lt hjlt]
    rw [e1, e2, hx]; exact hv
  rw [← hcs] at e
  unfold World.cell?
  rw [h]
  simp only [Option.isSome_none, Bool.false_eq_true, if_false, Nat.zero_add]
  simpa using e
theorem own_slice {w : World} {base : Nat} {e : TypeId} {size : Nat} {v : Value} {n : Nat} {xs : List Value} (h : w.ownsRow base e size v n xs) (_hs : 0 < size) : ∃ A c, v = .slice A n c := by
  obtain ⟨hl, h | ⟨g, cap, cur, hv, _⟩⟩ := h
  · obtain ⟨rfl, rfl⟩ := h
    exact ⟨none, 0, rfl⟩
  · exact ⟨_, _, hv⟩
theorem own_ge {w : World} {base : Nat} {e : TypeId} {size : Nat} {v : Value} {n : Nat} {xs : List Value} (h : w.ownsRow base e size v n xs) : ∀ k, v.ownBlock = some k → base ≤ k := by
  intro k hk
  rcases h.2 with ⟨rfl, _⟩ | ⟨g, cap, cur, rfl, hg, _⟩
  · simp [Value.ownBlock] at hk
  · have : g = k := by simpa [Value.ownBlock] using hk
    omega
/-- Behind an append onto a row of the call's own. -/
theorem below_app {w w1 w2 : World} {B base : Nat} {e : TypeId} {size : Nat} {v : Value} {n : Nat} {xs : List Value} (hb : Below B w w1) (h : w1.ownsRow base e size v n xs) (hg : w1.grownBy w2 v.ownBlock) (hB : B ≤ base) (hs : B ≤ w1.heap.size) : Below B w w2 :=
  hb.grown hg hs fun k hk => Nat.le_trans hB (own_ge h k hk)
theorem own_mono {w : World} {base base' : Nat} {e : TypeId} {size : Nat} {v : Value} {n : Nat} {xs : List Value} (h : w.ownsRow base e size v n xs) (hb : base' ≤ base) : w.ownsRow base' e size v n xs := by
  obtain ⟨h1, h2⟩ := h
  refine ⟨h1, ?_⟩
  rcases h2 with h2 | ⟨g, cap, cur, hv, hg, r⟩
  · exact .inl h2
  · exact .inr ⟨g, cap, cur, hv, Nat.le_trans hb hg, r⟩
theorem own_app {α : Type} {w : World} {base : Nat} {e : TypeId} {size : Nat} {v : Value} {f : α → List Value} {l l' : List α} (h : w.ownsRow base e size v (l.length + l'.length) (l.flatMap f ++ l'.flatMap f)) (hs : 0 < size) :
    ∃ A c, v = .slice A (l ++ l').length c ∧ w.ownsRow base e size (.slice A (l ++ l').length c) (l ++ l').length ((l ++ l').flatMap f) := by
  rw [← List.length_append, ← List.flatMap_append] at h
  obtain ⟨A, c, rfl⟩ := own_slice h hs
  exact ⟨A, c, rfl, h⟩
/-- A call's end: a slice of the call's own that reads as l; nothing that was there has changed. -/
def EndOwn {α : Type} (f : α → List Value) (sz e : Nat) (l : List α) (w : World) (en : Ending) (w' : World) : Prop :=
  ∃ A c, en = .returned (.slice A l.length c) ∧ w'.ownsRow w.heap.size e sz (.slice A l.length c) l.length (l.flatMap f) ∧ Below w.heap.size w w'
theorem Ln.cs_len (x : Ln) : x.cs.length = 2 := rfl
theorem Pk.cs_len (x : Pk) : x.cs.length = 3 := rfl
theorem Sn.cs_len (x : Sn) : x.cs.length = 3 := rfl
theorem Ln.cs_one (x : Ln) : ∀ u ∈ x.cs, u.oneCell' = true := by simp [Ln.cs, Value.oneCell']
theorem Pk.cs_one (x : Pk) : ∀ u ∈ x.cs, u.oneCell' = true := by simp [Pk.cs, Value.oneCell']
theorem Sn.cs_one (x : Sn) : ∀ u ∈ x.cs, u.oneCell' = true := by simp [Sn.cs, Value.oneCell']
theorem Rd.new_ {α : Type} {w : World} {sz : Nat} {f : α → List Value} {l : List α} {cs : Array Value} {T : TypeId} (hcs : cs.toList = l.flatMap f) (hsz : 0 < sz) (hf : ∀ x, (f x).length = sz) :
    Rd (w.alloc (.cells cs T)) (w.heap.size + 1) sz f (some ⟨w.heap.size, 0, none⟩) l := Rd.of_block (heap_alloc_new _ _) hcs (Nat.lt_succ_self _) hsz hf
theorem RdL.new_ {w : World} {T : TypeId} (x : Ln) : RdL (w.alloc (.cells #[.int .i64 x.b, .int .i64 x.r] T)) (w.heap.size + 1) (some ⟨w.heap.size, 0, none⟩) [x] := Rd.new_ rfl (by omega) Ln.cs_len
theorem RdP.new_ {w : World} {T : TypeId} (x : Pk) : RdP (w.alloc (.cells #[.int .i64 x.f, .int .i64 x.s, .int .i64 x.a] T)) (w.heap.size + 1) (some ⟨w.heap.size, 0, none⟩) [x] := Rd.new_ rfl (by omega) Pk.cs_len
theorem RdS.new_ {w : World} {T : TypeId} (x : Sn) : RdS (w.alloc (.cells #[.int .i64 x.p, .int .i64 x.f, .int .i64 x.t] T)) (w.heap.size + 1) (some ⟨w.heap.size, 0, none⟩) [x] := Rd.new_ rfl (by omega) Sn.cs_len
theorem new_grown {w w3 : World} {o o2 : Obj} {row : Option Nat} (g : ((w.alloc o).alloc o2).grownBy w3 row) (hr : ∀ k, row = some k → k < w.heap.size) : w3.heap[w.heap.size]? = some o := by
  rw [g.block w.heap.size (by simp; omega) (fun e => by have := hr _ e.symm; omega), Below.heap_alloc (w.alloc o) o2 _ (by simp)]
  exact heap_alloc_new _ _
theorem le_alloc {B : Nat} {w : World} (h : B ≤ w.heap.size) (o : Obj) : B ≤ (w.alloc o).heap.size := by simp; omega
theorem RdL.of_own {w : World} {A : Option Addr} {base c : Nat} {e : TypeId} {l : List Ln} (h : w.ownsRow base e 2 (.slice A l.length c) l.length (l.flatMap Ln.cs)) : RdL w w.heap.size A l := Rd.of_own h (by omega) Ln.cs_len
theorem RdP.of_own {w : World} {A : Option Addr} {base c : Nat} {e : TypeId} {l : List Pk} (h : w.ownsRow base e 3 (.slice A l.length c) l.length (l.flatMap Pk.cs)) : RdP w w.heap.size A l := Rd.of_own h (by omega) Pk.cs_len
theorem RdS.of_own {w : World} {A : Option Addr} {base c : Nat} {e : TypeId} {l : List Sn} (h : w.ownsRow base e 3 (.slice A l.length c) l.length (l.flatMap Sn.cs)) : RdS w w.heap.size A l := Rd.of_own h (by omega) Sn.cs_len
end
end Go.Proofs.YtoomffajodheaaaGreatDoor
namespace Go.Proofs.YtoomffajodheaaaGreatDoor
open Go.RowKit
def Blk (w : World) (g : Nat) (t : TypeId) (cs : Array Value) : Prop := w.heap[g]? = some (.cells cs t (0, 0))
section
variable {w w' : World} {g : Nat} {t : TypeId} {cs : Array Value}
theorem Blk.lt (h : Blk w g t cs) : g < w.heap.size := lt_of_block h
theorem Blk.cell (h : Blk w g t cs) (i : Nat) : w.cell? ⟨g, i, none⟩ = cs[i]? := cell_blk h i
theorem Blk.frozen (h : Blk w g t cs) (i : Nat) : w.frozen? ⟨g, i, none⟩ = false := by
  unfold Blk at h
  simp [World.frozen?, h]
theorem Blk.new (w : World) (t : TypeId) (cs : Array Value) : Blk (w.alloc (.cells cs t)) w.heap.size t cs := heap_alloc_new w _
theorem Blk.drewN (h : Blk w g t cs) (n : Nat) : Blk (w.drewN n) g t cs := h
theorem Blk.alloc (h : Blk w g t cs) (o : Obj) : Blk (w.alloc o) g t cs := (Below.heap_alloc w o g h.lt).trans h
theorem Blk.set_ (h : Blk w g t cs) (i : Nat) (u : Value) : Blk (w.setCell ⟨g, i, none⟩ u) g t (cs.setIfInBounds i u) := by
  unfold Blk at h ⊢
  simp [World.setCell, Array.getElem?_modify, h]
theorem Blk.far (h : Blk w g t cs) {p : Addr} (hp : g ≠ p.block) (u : Value) : Blk (w.setCell p u) g t cs := (Below.heap_setCell w p u g hp).trans h
theorem Blk.below {B : Nat} (h : Blk w g t cs) (hb : Below B w w') (hg : g < B) : Blk w' g t cs := (hb.block g hg).trans h
theorem Blk.grown {row : Option Nat} (h : Blk w g t cs) (hb : w.grownBy w' row) (hg : some g ≠ row) : Blk w' g t cs := (hb.block g h.lt hg).trans h
theorem Blk.same (h : Blk w g t cs) (hb : w'.heap[g]? = w.heap[g]?) : Blk w' g t cs := hb.trans h
theorem setCell_size (w : World) (a : Addr) (u : Value) : (w.setCell a u).heap.size = w.heap.size := by simp [World.setCell]
end
end Go.Proofs.YtoomffajodheaaaGreatDoor
namespace Go.Proofs.YtoomffajodheaaaGreatDoor
open Go.RowKit
set_option maxRecDepth 100000
theorem own_blkR {w : World} {base e g n : Nat} {u : Value} (h : w.ownsRow base e 1 (.slice (some ⟨g, 0, none⟩) n n) n (List.replicate n u)) : base ≤ g ∧ ∃ tc, Blk w g e tc ∧ tc.size = n ∧ ∀ k, k < n → tc[k]? = some u := by
  obtain ⟨_, ⟨h1, _⟩ | ⟨g', cap, cur, hv, hg, hh, hn, hc, hs, ht⟩⟩ := h
  · simp at h1
  · simp only [Value.slice.injEq, Option.some.injEq, Addr.mk.injEq, and_true, true_and] at hv
    obtain ⟨rfl, rfl⟩ := hv
    refine ⟨hg, cur, hh, by omega, fun k hk => ?_⟩
    have h2 : (cur.toList.take (n * 1))[k]? = some u := by rw [ht, List.getElem?_replicate, if_pos hk]
    rw [List.getElem?_take, if_pos (by omega)] at h2
    simpa using h2
/-- A row of n cells in block g. -/
def Arw (w : World) (g : Nat) (T : TypeId) (n : Nat) (d : Nat → Value) : Prop := ∃ tc, Blk w g T tc ∧ tc.size = n ∧ ∀ k, k < n → tc[k]? = some (d k)
section
variable {w w' : World} {g n : Nat} {T : TypeId} {d d' : Nat → Value}
theorem Arw.lt (h : Arw w g T n d) : g < w.heap.size := by obtain ⟨tc, h, _⟩ := h; exact h.lt
theorem Arw.cell (h : Arw w g T n d) {k : Nat} (hk : k < n) : w.cell? ⟨g, k, none⟩ = some (d k) := by obtain ⟨tc, h, _, h2⟩ := h; exact (h.cell k).trans (h2 k hk)
theorem Arw.frozen (h : Arw w g T n d) (k : Nat) : w.frozen? ⟨g, k, none⟩ = false := by obtain ⟨tc, h, _⟩ := h; exact h.frozen k
theorem Arw.same (h : Arw w g T n d) (hs : w'.heap[g]? = w.heap[g]?) : Arw w' g T n d := by obtain ⟨tc, h, h1, h2⟩ := h; exact ⟨tc, h.same hs, h1, h2⟩
theorem Arw.congr (h : Arw w g T n d) (hd : ∀ k, k < n → d k = d' k) : Arw w g T n d' := by obtain ⟨tc, h, h1, h2⟩ := h; exact ⟨tc, h, h1, fun k hk => by rw [← hd k hk]; exact h2 k hk⟩
theorem Arw.set_ (h : Arw w g T n d) {k : Nat} (u : Value) (hd : ∀ j, j < n → d' j = if j = k then u else d j) : Arw (w.setCell ⟨g, k, none⟩ u) g T n d' := by
  obtain ⟨tc, h, h1, h2⟩ := h
  refine ⟨_, h.set_ k u, by rw [Array.size_setIfInBounds]; exact h1, fun j hj => ?_⟩
  rw [hd j hj, Array.getElem?_setIfInBounds]
  by_cases hjk : k = j
  · subst hjk
    rw [if_pos rfl, if_pos rfl, if_pos (by omega)]
  · rw [if_neg hjk, if_neg (fun e => hjk e.symm)]
    exact h2 j hj
theorem Arw.far (h : Arw w g T n d) {p : Addr} (hp : g ≠ p.block) (u : Value) : Arw (w.setCell p u) g T n d := h.same (Below.heap_setCell w p u g hp)
theorem Arw.alloc (h : Arw w g T n d) (o : Obj) : Arw (w.alloc o) g T n d := h.same (Below.heap_alloc w o g h.lt)
theorem Arw.grown {row : Option Nat} (h : Arw w g T n d) (hb : w.grownBy w' row) (hg : some g ≠ row) : Arw w' g T n d := h.same (hb.block g h.lt hg)
theorem Arw.drewN (h : Arw w g T n d) (m : Nat) : Arw (w.drewN m) g T n d := h
theorem Arw.of_own {base : Nat} {u : Value} (h : w.ownsRow base T 1 (.slice (some ⟨g, 0, none⟩) n n) n (List.replicate n u)) (hd : ∀ k, k < n → d k = u) : Arw w g T n d := by
  obtain ⟨_, tc, h1, h2, h3⟩ := own_blkR h
  exact ⟨tc, h1, h2, fun k hk => by rw [hd k hk]; exact h3 k hk⟩
end
/-- From w to w' block g alone has changed. -/
structure OnlyG (g : Nat) (w w' : World) : Prop where
  bel : Below g w w'
  blk : ∀ b, b ≠ g → w'.heap[b]? = w.heap[b]?
theorem OnlyG.refl (g : Nat) (w : World) : OnlyG g w w := ⟨Below.refl _ _, fun _ _ => rfl⟩
theorem OnlyG.drewN {g : Nat} {w w' : World} (h : OnlyG g w w') (m : Nat) : OnlyG g w (w'.drewN m) := ⟨below_drewN h.bel m, h.blk⟩
theorem OnlyG.set_ {g : Nat} {w w' : World} (h : OnlyG g w w') (i : Nat) (u : Value) : OnlyG g w (w'.setCell ⟨g, i, none⟩ u) :=
  ⟨h.bel.setCell (p := ⟨g, i, none⟩) (Nat.le_refl _) u, fun b hb => (Below.heap_setCell w' ⟨g, i, none⟩ u b (fun e => hb e)).trans (h.blk b hb)⟩
theorem OnlyG.trans {g : Nat} {w w1 w2 : World} (h : OnlyG g w w1) (k : OnlyG g w1 w2) : OnlyG g w w2 := ⟨h.bel.trans k.bel, fun b hb => (k.blk b hb).trans (h.blk b hb)⟩
end Go.Proofs.YtoomffajodheaaaGreatDoor
