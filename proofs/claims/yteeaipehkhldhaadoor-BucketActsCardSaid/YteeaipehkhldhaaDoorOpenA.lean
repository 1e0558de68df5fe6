/- A slice of acts, opened to a list. No program. No condition. -/
import Derived.Test.YteeaipehkhldhaaDoorOpen
namespace Go.Proofs.YteeaipehkhldhaaDoor
open Go.RowKit Go.ChangeShapes Go.WideShapes Go.Deep
section
variable {H : Type} {enc : TypeId × Value → H} {P : Program} {w : World} {base : Nat} {spare : Nat → Bool} {held : Bool}
/-- A slice of structs of cells: each cell. -/
theorem open_cellsG {Q : Nat → Value → Prop} {t e : TypeId} {fs : Array Field} {fuel : Nat} {A : Option Addr} {len cap : Nat} {x : DataW H × List MemPlace} (ht : P.underlying t = some (.slice e)) (he : P.underlying e = some (.struct fs))
    (hone : oneCellFields P fs = true) (hC : P.cellsOf e = fs.size) (hfs : 0 < fs.size) (hint : ∀ (j : Nat) (f : Field), fs[j]? = some f → ∀ (n : Nat) (cs : List Value) (x : DataW H × List MemPlace), DataW.trod enc P w base spare held n f.type cs = some x → ∃ v, cs = [v] ∧ Q j v) (h : DataW.trod enc P w base spare held fuel t [.slice A len cap] = some x) :
    len ≤ cap ∧ cap ≤ maxLen ∧ (0 < len → ∃ b o, A = some ⟨b, o, none⟩ ∧ b < w.heap.size ∧ ∀ i, i < len → ∀ j, j < fs.size → ∃ v : Value, Q j v ∧ w.cell? ⟨b, o + i * fs.size + j, none⟩ = some v) := by
  rcases open_slice ht h with ⟨hcs, _⟩ | ⟨a, len', cap', m, n, D, Pl, hcs, hb, hl, hm, hmm, hx, hi⟩
  · simp only [List.cons.injEq, Value.slice.injEq, and_true] at hcs
    obtain ⟨rfl, rfl, rfl⟩ := hcs
    exact ⟨Nat.le_refl _, Nat.zero_le _, fun h => absurd h (by omega)⟩
  · simp only [List.cons.injEq, Value.slice.injEq, and_true] at hcs
    obtain ⟨rfl, rfl, rfl⟩ := hcs
    refine ⟨hl, hm, fun h0 => ?_⟩
    have hlm : len ≤ m := by rw [hmm]; split <;> omega
    have key : ∀ i, i < len → ∀ j, j < fs.size → ∃ v : Value, Q j v ∧ w.cell? (a.add (i * fs.size + j)) = some v := by
      intro i hil j hjl
      obtain ⟨cs', hc, ht'⟩ := hi i (by omega)
      rw [hC] at hc
      obtain ⟨ys, n', hn', hy, hlen, hyl, hf⟩ := DataW.trod_struct he ht'
      obtain ⟨_, hcl, hat⟩ := World.cells?_some hc
      have hj : fs[j]? = some fs[j] := Array.getElem?_eq_getElem hjl
      obtain ⟨ho, hk⟩ := hone_of hone j _ hj
      have hcell := hat j hjl
      have h1 := hf j _ hj
      rw [ho, hk] at h1
      have hone' : (cs'.drop j).take 1 = [cs'[j]'(by omega)] := by
        rw [List.drop_eq_getElem_cons (by omega)]
        rfl
      rw [hone'] at h1
      have hys : ys[j]? = some (ys[j]'(by omega)) := List.getElem?_eq_getElem (by omega)
      obtain ⟨r, e1, wr⟩ := hint j _ hj _ _ _ (h1.trans hys)
      simp only [List.cons.injEq, and_true] at e1
      refine ⟨r, wr, ?_⟩
      rw [← Go.Deep.add_add, hcell, List.getElem?_eq_getElem (by omega), e1]
    obtain ⟨b, o, spot⟩ := a
    obtain ⟨n0, _, hc0⟩ := key 0 h0 0 hfs
    have hspot : spot = none := by simpa [Addr.add] using World.cell?_spot hc0
    subst hspot
    refine ⟨b, o, rfl, by have := World.block_lt_of_cell? w _ hc0; simpa [Addr.add] using this, fun i hil j hjl => ?_⟩
    obtain ⟨n, hn, hc⟩ := key i hil j hjl
    rw [add_mk, ← Nat.add_assoc] at hc
    exact ⟨n, hn, hc⟩

theorem list_of_cellsG {Q : Nat → Value → Prop} {α : Type} (f : α → List Value) {sz len : Nat} {A : Option Addr} (hf : ∀ x, (f x).length = sz) (hmk : ∀ c : Nat → Value, (∀ j, j < sz → Q j (c j)) → ∃ x : α, ∀ j, j < sz → (f x)[j]? = some (c j))
    (h : 0 < len → ∃ b o, A = some ⟨b, o, none⟩ ∧ b < w.heap.size ∧ ∀ i, i < len → ∀ j, j < sz → ∃ v : Value, Q j v ∧ w.cell? ⟨b, o + i * sz + j, none⟩ = some v) :
    ∃ l : List α, l.length = len ∧ Rd w w.heap.size sz f A l ∧ ∀ x ∈ l, ∀ (j : Nat) (v : Value), (f x)[j]? = some v → Q j v := by
  rcases Nat.eq_zero_or_pos len with h0 | h0
  · exact ⟨[], h0.symm, Rd.nil_, by simp⟩
  · obtain ⟨b, o, hA, hb, hk⟩ := h h0
    have hq : ∀ i, i < len → ∃ x : α, ∀ j, j < sz → ∃ v, Q j v ∧ (f x)[j]? = some v ∧ w.cell? ⟨b, o + i * sz + j, none⟩ = some v := by
      intro i hi
      obtain ⟨x, hx⟩ := hmk (fun j => if hj : j < sz then Classical.choose (hk i hi j hj) else .int .i64 0) (fun j hj => by
        rw [dif_pos hj]
        exact (Classical.choose_spec (hk i hi j hj)).1)
      refine ⟨x, fun j hj => ?_⟩
      have h1 := hx j hj
      rw [dif_pos hj] at h1
      have h2 := Classical.choose_spec (hk i hi j hj)
      exact ⟨_, h2.1, h1, h2.2⟩
    obtain ⟨l, hl, hall⟩ := pick_list hq
    refine ⟨l, hl, fun _ => ⟨b, o, hA, hb, fun i x hx j v hv => ?_⟩, fun x hx j v hv => ?_⟩
    · have hj : j < sz := by
        have := (List.getElem?_eq_some_iff.1 hv).1
        rw [hf] at this; exact this
      obtain ⟨n, _, h1, h2⟩ := hall i x hx j hj
      rw [h1] at hv
      injection hv with hv
      rw [← hv]
      exact h2
    · obtain ⟨i, hi⟩ := List.mem_iff_getElem?.1 hx
      have hjl : j < sz := by
        have := (List.getElem?_eq_some_iff.1 hv).1
        rw [hf] at this; exact this
      obtain ⟨m, hm, h1, _⟩ := hall i x hi j hjl
      rw [h1] at hv
      injection hv with hv
      rw [← hv]
      exact hm
end
/-- An act on a bucket. -/
structure Ac where
  s : ByteArray
  a : Int
  n : Int
def Ac.cs (x : Ac) : List Value := [.string x.s, .int .i64 x.a, .int .i64 x.n]
theorem Ac.cs_len (x : Ac) : (Ac.cs x).length = 3 := rfl
def AcQ (j : Nat) (v : Value) : Prop := if j = 0 then ∃ s, v = .string s else ∃ n, v = .int .i64 n ∧ wf64 n
theorem mkAc (c : Nat → Value) (h : ∀ j, j < 3 → AcQ j (c j)) : ∃ x : Ac, ∀ j, j < 3 → (Ac.cs x)[j]? = some (c j) := by
  obtain ⟨s, h0⟩ : ∃ s, c 0 = .string s := h 0 (by omega)
  obtain ⟨a, h1, _⟩ : ∃ n, c 1 = .int .i64 n ∧ wf64 n := h 1 (by omega)
  obtain ⟨n, h2, _⟩ : ∃ n, c 2 = .int .i64 n ∧ wf64 n := h 2 (by omega)
  refine ⟨⟨s, a, n⟩, fun j hj => ?_⟩
  have : j = 0 ∨ j = 1 ∨ j = 2 := by omega
  rcases this with rfl | rfl | rfl
  · rw [h0]; rfl
  · rw [h1]; rfl
  · rw [h2]; rfl
theorem wfAc {l : List Ac} (h : ∀ x ∈ l, ∀ (j : Nat) (v : Value), (Ac.cs x)[j]? = some v → AcQ j v) : ∀ x ∈ l, wf64 x.a ∧ wf64 x.n := fun x hx => by
  obtain ⟨a, e1, w1⟩ : ∃ n, Value.int .i64 x.a = .int .i64 n ∧ wf64 n := h x hx 1 (.int .i64 x.a) rfl
  obtain ⟨n, e2, w2⟩ : ∃ n, Value.int .i64 x.n = .int .i64 n ∧ wf64 n := h x hx 2 (.int .i64 x.n) rfl
  injection e1 with _ e1
  injection e2 with _ e2
  rw [e1, e2]
  exact ⟨w1, w2⟩
end Go.Proofs.YteeaipehkhldhaaDoor
