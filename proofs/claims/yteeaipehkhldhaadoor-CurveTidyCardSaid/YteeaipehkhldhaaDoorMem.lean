/- append onto a row of the call's own, out of a slice that reads as a list (nil, empty or not); rows of the call's own read as lists. No condition. -/
import Derived.Test.YteeaipehkhldhaaDoorLib
import Derived.WalkKit
import Derived.Maps.AppendAt
import Derived.Deep.AppendLies
import Derived.RegionTactic
import Derived.OwnWalk
namespace Go.Proofs.YteeaipehkhldhaaDoor
open Go.RowKit

theorem flat_get {α : Type} (f : α → List Value) (sz : Nat) (hsz : 0 < sz) (hf : ∀ x, (f x).length = sz) (l : List α) (j : Nat) :
    (l.flatMap f)[j]? = (l[j / sz]?).bind fun x => (f x)[j % sz]? := by
  induction l generalizing j with
  | nil => simp
  | cons x r ih =>
    rw [List.flatMap_cons]
    by_cases hj : j < sz
    · rw [List.getElem?_append_left (by rw [hf]; exact hj), Nat.div_eq_of_lt hj, Nat.mod_eq_of_lt hj]
      rfl
    · have hj' : sz ≤ j := by omega
      rw [List.getElem?_append_right (by rw [hf]; exact hj'), hf, ih]
      have e1 : j / sz = (j - sz) / sz + 1 := by rw [Nat.div_eq_sub_div hsz hj']
      have e2 : j % sz = (j - sz) % sz := Nat.mod_eq_sub_mod hj'
      rw [e1, e2, List.getElem?_cons_succ]
theorem flat_len {α : Type} (f : α → List Value) (sz : Nat) (hf : ∀ x, (f x).length = sz) (l : List α) : (l.flatMap f).length = l.length * sz := by
  induction l with
  | nil => simp
  | cons x r ih => rw [List.flatMap_cons, List.length_append, hf, ih, List.length_cons, Nat.succ_mul, Nat.add_comm]

section
variable {α : Type} {w w' : World} {B sz : Nat} {f : α → List Value} {A : Option Addr} {l : List α}
theorem add_mk (b o n : Nat) : (⟨b, o, none⟩ : Addr).add n = ⟨b, o + n, none⟩ := by
  unfold Addr.add
  split
  · rename_i h; rw [h]; rfl
  · rfl
theorem Rd.flat (h : Rd w B sz f A l) (hsz : 0 < sz) (hf : ∀ x, (f x).length = sz) (h0 : 0 < l.length) :
    ∃ b o, A = some ⟨b, o, none⟩ ∧ b < B ∧ ∀ (j : Nat) (v : Value), (l.flatMap f)[j]? = some v → w.cell? ((⟨b, o, none⟩ : Addr).add j) = some v := by
  obtain ⟨b, o, e, hb, hc⟩ := h h0
  refine ⟨b, o, e, hb, fun j v hv => ?_⟩
  rw [flat_get f sz hsz hf] at hv
  rw [add_mk]
  cases hx : l[j / sz]? with
  | none => rw [hx] at hv; cases hv
  | some x =>
    rw [hx] at hv
    have := hc _ x hx (j % sz) v hv
    have e2 : o + j / sz * sz + j % sz = o + j := by have := Nat.div_add_mod j sz; rw [Nat.mul_comm] at this; omega
    rw [e2] at this
    exact this
/-- A row of the call's own reads as a list. -/
theorem Rd.of_own {base : Nat} {e : TypeId} {c : Nat} (h : w.ownsRow base e sz (.slice A l.length c) l.length (l.flatMap f)) (hsz : 0 < sz) (hf : ∀ x, (f x).length = sz) : Rd w w.heap.size sz f A l := fun h0 => by
  obtain ⟨g, cap, hv, _, hlt⟩ := h.form h0
  have hA : A = some ⟨g, 0, none⟩ := by injection hv
  subst hA
  refine ⟨g, 0, rfl, hlt, fun i x hx j v hv => ?_⟩
  have hjlt : j < sz := by
    have := (List.getElem?_eq_some_iff.1 hv).1
    rw [hf] at this; exact this
  have := h.cells (g := g) rfl (i * sz + j) v (by
    rw [flat_get f sz hsz hf]
    have e1 : (i * sz + j) / sz = i := by rw [Nat.mul_comm, Nat.mul_add_div hsz, Nat.div_eq_of_lt hjlt, Nat.add_zero]
    have e2 : (i * sz + j) % sz = j := by rw [Nat.mul_comm, Nat.mul_add_mod, Nat.mod_eq_of_lt hjlt]
    rw [e1, e2, hx]; exact hv)
  rw [add_mk] at this
  rw [Nat.add_assoc]
  exact this
end

section
variable {P : Program} (w : World) {α : Type} (f : α → List Value)

theorem run_append_of_nil (base : Nat) (t ty e : TypeId) (i : TypeInfo) (size : Nat) (ht : P.underlying t = some (.slice e)) (hi : P.info? e = some i)
    (v : Value) (n : Nat) (xs : List Value) (hown : w.ownsRow base e size v n xs) (c : Nat) : (Builtin.append_ #[t, t] ty #[v, .slice none 0 c]).run P w = .ok v w := by
  rcases hown.2 with ⟨rfl, rfl⟩ | ⟨g, cap, cur, rfl, _, _, hnc, _⟩
  · simp [Builtin.append_, run_underlying ht, sizeOf, typeInfo, hi, Builtin.lenOf, Builtin.firstCells]
  · simp [Builtin.append_, run_underlying ht, sizeOf, typeInfo, hi, Builtin.lenOf, Builtin.firstCells, hnc, storeCells]

theorem run_append_rd (base : Nat) (t ty e : TypeId) (i : TypeInfo) (z : Value) (size bytes : Nat) (ht : P.underlying t = some (.slice e)) (hi : P.info? e = some i) (hz : i.zero = some z)
    (hsize : i.size = size) (hby : i.bytes = bytes) (hzs : z.cells.size = size) (hsz : 0 < size) (hf : ∀ x, (f x).length = size) (h1 : ∀ x, ∀ u ∈ f x, u.oneCell' = true)
    (v : Value) (n : Nat) (xs : List Value) (hown : w.ownsRow base e size v n xs)
    (B : Nat) (A : Option Addr) (c : Nat) (l : List α) (hr : Rd w B size f A l)
    (h63 : n + l.length ≤ maxLen) (hbytes : (n + l.length) * bytes ≤ 140737488355328) (hbase : base ≤ w.heap.size) :
    ∃ v' w', (Builtin.append_ #[t, t] ty #[v, .slice A l.length c]).run P w = .ok v' w' ∧ w'.ownsRow base e size v' (n + l.length) (xs ++ l.flatMap f) ∧ w.grownBy w' v.ownBlock ∧
      (v'.ownBlock = v.ownBlock ∨ v'.ownBlock = some w.heap.size) := by
  rcases A with _ | ad
  · have hn : l = [] := by
      rcases l with _ | ⟨x, r⟩
      · rfl
      · obtain ⟨b, o, h, _⟩ := hr (by simp)
        cases h
    subst hn
    exact ⟨v, w, run_append_of_nil w base t ty e i size ht hi v n xs hown c, by simpa using hown, World.grownBy.refl w _, .inl rfl⟩
  · have hcells : ∀ j u, (l.flatMap f)[j]? = some u → w.cell? (ad.add j) = some u := by
      intro j u hu
      rcases l with _ | ⟨x, r⟩
      · simp at hu
      · obtain ⟨b, o, h, _, hc⟩ := hr.flat hsz hf (by simp)
        injection h with h
        subst h
        exact hc j u hu
    have hone : ∀ u ∈ l.flatMap f, u.oneCell' = true := fun u hu => by
      obtain ⟨x, _, hx⟩ := List.mem_flatMap.1 hu
      exact h1 x u hx
    obtain ⟨v', w', hrun, h2, h3, _, h5⟩ := run_append_own_at (P := P) w base t ty e i z size bytes ht hi hz hsize hby hzs hsz v n xs hown ad l.length c (l.flatMap f) (flat_len f size hf l) hcells hone h63 hbytes hbase
    exact ⟨v', w', hrun, h2, h3, h5⟩

theorem wp_append_rd {o : Oper} {a : Act} {K : Act → World → Prop} {Q : Exit → Act → World → Prop} (s x : Operand) (t : TypeId)
    (ho : o.op = .call { callee := .builtin .append, args := #[s, x], argTypes := #[t, t] })
    (base : Nat) (e : TypeId) (i : TypeInfo) (z : Value) (size bytes : Nat) (ht : P.underlying t = some (.slice e)) (hi : P.info? e = some i) (hz : i.zero = some z)
    (hsize : i.size = size) (hby : i.bytes = bytes) (hzs : z.cells.size = size) (hsz : 0 < size) (hf : ∀ x, (f x).length = size) (h1 : ∀ x, ∀ u ∈ f x, u.oneCell' = true)
    (v : Value) (n : Nat) (xs : List Value) (hs : a.eval s = v) (hown : w.ownsRow base e size v n xs)
    (B : Nat) (A : Option Addr) (c : Nat) (l : List α) (hx : a.eval x = .slice A l.length c) (hr : Rd w B size f A l)
    (h63 : n + l.length ≤ maxLen) (hbytes : (n + l.length) * bytes ≤ 140737488355328) (hbase : base ≤ w.heap.size)
    (h : ∀ v' w', w'.ownsRow base e size v' (n + l.length) (xs ++ l.flatMap f) → w.grownBy w' v.ownBlock → (v'.ownBlock = v.ownBlock ∨ v'.ownBlock = some w.heap.size) → K (a.put o.dst v') w') : o.wp P a w K Q := by
  obtain ⟨v', w', hrun, h2, h3, h4⟩ := run_append_rd (P := P) w f base t o.type e i z size bytes ht hi hz hsize hby hzs hsz hf h1 v n xs hown B A c l hr h63 hbytes hbase
  unfold Oper.wp execOp
  simp only [ho, resolve, invoke, builtin, Sem.run_bind, Sem.run_pure, Result.andThen_ok, List.map_toArray, List.map_cons, List.map_nil, hs, hx, hrun]
  exact h v' w' h2 h3 h4

theorem wpList_append_rd {ops : Array Oper} {rest : List Oper} {o : Oper} {a : Act} {Q : Exit → Act → World → Prop} (hgd : o.guard = none) (s x : Operand) (t : TypeId)
    (ho : o.op = .call { callee := .builtin .append, args := #[s, x], argTypes := #[t, t] })
    (base : Nat) (e : TypeId) (i : TypeInfo) (z : Value) (size bytes : Nat) (ht : P.underlying t = some (.slice e)) (hi : P.info? e = some i) (hz : i.zero = some z)
    (hsize : i.size = size) (hby : i.bytes = bytes) (hzs : z.cells.size = size) (hsz : 0 < size) (hf : ∀ x, (f x).length = size) (h1 : ∀ x, ∀ u ∈ f x, u.oneCell' = true)
    (v : Value) (n : Nat) (xs : List Value) (hs : a.eval s = v) (hown : w.ownsRow base e size v n xs)
    (B : Nat) (A : Option Addr) (c : Nat) (l : List α) (hx : a.eval x = .slice A l.length c) (hr : Rd w B size f A l)
    (h63 : n + l.length ≤ maxLen) (hbytes : (n + l.length) * bytes ≤ 140737488355328) (hbase : base ≤ w.heap.size)
    (h : ∀ v' w', w'.ownsRow base e size v' (n + l.length) (xs ++ l.flatMap f) → w.grownBy w' v.ownBlock → (v'.ownBlock = v.ownBlock ∨ v'.ownBlock = some w.heap.size) → wpList P ops Q rest (a.put o.dst v') w') : wpList P ops Q (o :: rest) a w :=
  wpList_plain hgd fun _ hK => wp_append_rd w f s x t ho base e i z size bytes ht hi hz hsize hby hzs hsz hf h1 v n xs hs hown B A c l hx hr h63 hbytes hbase fun v' w' h2 h3 h4 => hK _ _ (h v' w' h2 h3 h4)
theorem step_append_rd {P : Program} {α : Type} (w : World) (f : α → List Value) {ops : Array Oper} {o : Oper} {a : Act} {K : Act → World → Prop} {Q : Exit → Act → World → Prop} {E : Prop} (hgd : o.guard = none) (s x : Operand) (t : TypeId)
    (ho : o.op = .call { callee := .builtin .append, args := #[s, x], argTypes := #[t, t] })
    (base : Nat) (e : TypeId) (i : TypeInfo) (z : Value) (size bytes : Nat) (ht : P.underlying t = some (.slice e)) (hi : P.info? e = some i) (hz : i.zero = some z)
    (hsize : i.size = size) (hby : i.bytes = bytes) (hzs : z.cells.size = size) (hsz : 0 < size) (hf : ∀ x, (f x).length = size) (h1 : ∀ x, ∀ u ∈ f x, u.oneCell' = true)
    (v : Value) (n : Nat) (xs : List Value) (hs : a.eval s = v) (hown : w.ownsRow base e size v n xs)
    (B : Nat) (A : Option Addr) (c : Nat) (l : List α) (hx : a.eval x = .slice A l.length c) (hr : Rd w B size f A l)
    (h63 : n + l.length ≤ maxLen) (hbytes : (n + l.length) * bytes ≤ 140737488355328) (hbase : base ≤ w.heap.size)
    (h : ∀ v' w', w'.ownsRow base e size v' (n + l.length) (xs ++ l.flatMap f) → w.grownBy w' v.ownBlock → (v'.ownBlock = v.ownBlock ∨ v'.ownBlock = some w.heap.size) → K (a.put o.dst v') w') :
    if Region.wanted o (yielded ops a.tmps) = true then Oper.wp P o a w K Q else E := by
  have hw : Region.wanted o (yielded ops a.tmps) = true := by simp [Region.wanted, hgd]
  rw [if_pos hw]
  exact wp_append_rd w f s x t ho base e i z size bytes ht hi hz hsize hby hzs hsz hf h1 v n xs hs hown B A c l hx hr h63 hbytes hbase h
/-- A block that is known whole reads as a list. -/
theorem Rd.of_block {α : Type} {w : World} {B sz g : Nat} {f : α → List Value} {l : List α} {cs : Array Value} {T : TypeId} {z : Nat × Nat} (h : w.heap[g]? = some (.cells cs T z)) (hcs : cs.toList = l.flatMap f) (hB : g < B) (hsz : 0 < sz) (hf : ∀ x, (f x).length = sz) :
    Rd w B sz f (some ⟨g, 0, none⟩) l := fun _ => by
  refine ⟨g, 0, rfl, hB, fun i x hx j v hv => ?_⟩
  have hjlt : j < sz := by
    have := (List.getElem?_eq_some_iff.1 hv).1
    rw [hf] at this; exact this
  have e : (l.flatMap f)[i * sz + j]? = some v := by
    rw [flat_get f sz hsz hf]
    have e1 : (i * sz + j) / sz = i := by rw [Nat.mul_comm, Nat.mul_add_div hsz, Nat.div_eq_of_lt hjlt, Nat.add_zero]
    have e2 : (i * sz + j) % sz = j := by rw [Nat.mul_comm, Nat.mul_add_mod, Nat.mod_eq_of_lt hjlt]
    rw [e1, e2, hx]; exact hv
  rw [← hcs] at e
  unfold World.cell?
  rw [h]
  simp only [Option.isSome_none, Bool.false_eq_true, if_false, Nat.zero_add]
  simpa using e
theorem own_slice {w : World} {base : Nat} {e : TypeId} {size : Nat} {v : Value} {n : Nat} {xs : List Value} (h : w.ownsRow base e size v n xs) (_hs : 0 < size) : ∃ A c, v = .slice A n c := by
  obtain ⟨hl, h | ⟨g, cap, cur, hv, _⟩⟩ := h
  · obtain ⟨rfl, rfl⟩ := h
    exact ⟨none, 0, rfl⟩
  · exact ⟨_, _, hv⟩
theorem own_ge {w : World} {base : Nat} {e : TypeId} {size : Nat} {v : Value} {n : Nat} {xs : List Value} (h : w.ownsRow base e size v n xs) : ∀ k, v.ownBlock = some k → base ≤ k := by
  intro k hk
  rcases h.2 with ⟨rfl, _⟩ | ⟨g, cap, cur, rfl, hg, _⟩
  · simp [Value.ownBlock] at hk
  · have : g = k := by simpa [Value.ownBlock] using hk
    omega
/-- Behind an append onto a row of the call's own. -/
theorem below_app {w w1 w2 : World} {B base : Nat} {e : TypeId} {size : Nat} {v : Value} {n : Nat} {xs : List Value} (hb : Below B w w1) (h : w1.ownsRow base e size v n xs) (hg : w1.grownBy w2 v.ownBlock) (hB : B ≤ base) (hs : B ≤ w1.heap.size) : Below B w w2 :=
  hb.grown hg hs fun k hk => Nat.le_trans hB (own_ge h k hk)
theorem own_mono {w : World} {base base' : Nat} {e : TypeId} {size : Nat} {v : Value} {n : Nat} {xs : List Value} (h : w.ownsRow base e size v n xs) (hb : base' ≤ base) : w.ownsRow base' e size v n xs := by
  obtain ⟨h1, h2⟩ := h
  refine ⟨h1, ?_⟩
  rcases h2 with h2 | ⟨g, cap, cur, hv, hg, r⟩
  · exact .inl h2
  · exact .inr ⟨g, cap, cur, hv, Nat.le_trans hb hg, r⟩
theorem own_app {α : Type} {w : World} {base : Nat} {e : TypeId} {size : Nat} {v : Value} {f : α → List Value} {l l' : List α} (h : w.ownsRow base e size v (l.length + l'.length) (l.flatMap f ++ l'.flatMap f)) (hs : 0 < size) :
    ∃ A c, v = .slice A (l ++ l').length c ∧ w.ownsRow base e size (.slice A (l ++ l').length c) (l ++ l').length ((l ++ l').flatMap f) := by
  rw [← List.length_append, ← List.flatMap_append] at h
  obtain ⟨A, c, rfl⟩ := own_slice h hs
  exact ⟨A, c, rfl, h⟩
/-- A call's end: a slice of the call's own that reads as l; nothing that was there has changed. -/
def EndOwn {α : Type} (f : α → List Value) (sz e : Nat) (l : List α) (w : World) (en : Ending) (w' : World) : Prop :=
  ∃ A c, en = .returned (.slice A l.length c) ∧ w'.ownsRow w.heap.size e sz (.slice A l.length c) l.length (l.flatMap f) ∧ Below w.heap.size w w'
theorem Ln.cs_len (x : Ln) : x.cs.length = 2 := rfl
theorem Pk.cs_len (x : Pk) : x.cs.length = 3 := rfl
theorem Sn.cs_len (x : Sn) : x.cs.length = 3 := rfl
theorem Ln.cs_one (x : Ln) : ∀ u ∈ x.cs, u.oneCell' = true := by simp [Ln.cs, Value.oneCell']
theorem Pk.cs_one (x : Pk) : ∀ u ∈ x.cs, u.oneCell' = true := by simp [Pk.cs, Value.oneCell']
theorem Sn.cs_one (x : Sn) : ∀ u ∈ x.cs, u.oneCell' = true := by simp [Sn.cs, Value.oneCell']
theorem Rd.new_ {α : Type} {w : World} {sz : Nat} {f : α → List Value} {l : List α} {cs : Array Value} {T : TypeId} (hcs : cs.toList = l.flatMap f) (hsz : 0 < sz) (hf : ∀ x, (f x).length = sz) :
    Rd (w.alloc (.cells cs T)) (w.heap.size + 1) sz f (some ⟨w.heap.size, 0, none⟩) l := Rd.of_block (heap_alloc_new _ _) hcs (Nat.lt_succ_self _) hsz hf
theorem RdL.new_ {w : World} {T : TypeId} (x : Ln) : RdL (w.alloc (.cells #[.int .i64 x.b, .int .i64 x.r] T)) (w.heap.size + 1) (some ⟨w.heap.size, 0, none⟩) [x] := Rd.new_ rfl (by omega) Ln.cs_len
theorem RdP.new_ {w : World} {T : TypeId} (x : Pk) : RdP (w.alloc (.cells #[.int .i64 x.f, .int .i64 x.s, .int .i64 x.a] T)) (w.heap.size + 1) (some ⟨w.heap.size, 0, none⟩) [x] := Rd.new_ rfl (by omega) Pk.cs_len
theorem RdS.new_ {w : World} {T : TypeId} (x : Sn) : RdS (w.alloc (.cells #[.int .i64 x.p, .int .i64 x.f, .int .i64 x.t] T)) (w.heap.size + 1) (some ⟨w.heap.size, 0, none⟩) [x] := Rd.new_ rfl (by omega) Sn.cs_len
theorem RdS.new2_ {w : World} {o : Obj} {T : TypeId} (x : Sn) (B : Nat) (hB : B = w.heap.size + 2) : RdS ((w.alloc o).alloc (.cells #[.int .i64 x.p, .int .i64 x.f, .int .i64 x.t] T)) B (some ⟨w.heap.size + 1, 0, none⟩) [x] :=
  Rd.of_block (heap_alloc_new2 _ _ _) rfl (by omega) (by omega) Sn.cs_len
theorem new_grown {w w3 : World} {o o2 : Obj} {row : Option Nat} (g : ((w.alloc o).alloc o2).grownBy w3 row) (hr : ∀ k, row = some k → k < w.heap.size) : w3.heap[w.heap.size]? = some o := by
  rw [g.block w.heap.size (by simp; omega) (fun e => by have := hr _ e.symm; omega), Below.heap_alloc (w.alloc o) o2 _ (by simp)]
  exact heap_alloc_new _ _
theorem le_alloc {B : Nat} {w : World} (h : B ≤ w.heap.size) (o : Obj) : B ≤ (w.alloc o).heap.size := by simp; omega
theorem RdL.of_own {w : World} {A : Option Addr} {base c : Nat} {e : TypeId} {l : List Ln} (h : w.ownsRow base e 2 (.slice A l.length c) l.length (l.flatMap Ln.cs)) : RdL w w.heap.size A l := Rd.of_own h (by omega) Ln.cs_len
theorem RdP.of_own {w : World} {A : Option Addr} {base c : Nat} {e : TypeId} {l : List Pk} (h : w.ownsRow base e 3 (.slice A l.length c) l.length (l.flatMap Pk.cs)) : RdP w w.heap.size A l := Rd.of_own h (by omega) Pk.cs_len
theorem RdS.of_own {w : World} {A : Option Addr} {base c : Nat} {e : TypeId} {l : List Sn} (h : w.ownsRow base e 3 (.slice A l.length c) l.length (l.flatMap Sn.cs)) : RdS w w.heap.size A l := Rd.of_own h (by omega) Sn.cs_len
end
end Go.Proofs.YteeaipehkhldhaaDoor
