/- A slice of acts, opened to a list. No program. No condition. -/
import Derived.Test.YtoomffajodheaaaGreatDoorQOpen
set_option linter.all false
namespace Go.Proofs.YtoomffajodheaaaGreatDoor
open Go.RowKit Go.ChangeShapes Go.WideShapes Go.Deep
section
variable {H : Type} {enc : TypeId × Value → H} {P : Program} {w : World} {base : Nat} {spare : Nat → Bool} {held : Bool}
/-- A slice of structs of cells: each cell. -/
theorem open_cellsG {Q : Nat → Value → Prop} {t e : TypeId} {fs : Array Field} {fuel : Nat} {A : Option Addr} {len cap : Nat} {x : DataW H × List MemPlace} (ht : P.underlying t = some (.slice e)) (he : P.underlying e = some (.struct fs))
    (hone : oneCellFields P fs = true) (hC : P.cellsOf e = fs.size) (hfs : 0 < fs.size) (hint : ∀ (j : Nat) (f : Field), fs[j]? = some f → ∀ (n : Nat) (cs : List Value) (x : DataW H × List MemPlace), DataW.trod enc P w base spare held n f.type cs = some x → ∃ v, cs = [v] ∧ Q j v) (h : DataW.trod enc P w base spare held fuel t [.slice A len cap] = some x) :
    len ≤ cap ∧ cap ≤ maxLen ∧ (0 < len → ∃ b o, A = some ⟨b, o, none⟩ ∧ b < w.heap.size ∧ ∀ i, i < len → ∀ j, j < fs.size → ∃ v : Value, Q j v ∧ w.cell? ⟨b, o + i * fs.size + j, none⟩ = some v) := by
  rcases open_slice ht h with ⟨hcs, _⟩ | ⟨a, len', cap', m, n, D, Pl, hcs, hb, hl, hm, hmm, hx, hi⟩
  · simp only [List.cons.injEq, Value.slice.injEq, and_true] at hcs
    obtain ⟨rfl, rfl, rfl⟩ := hcs
    exact ⟨Nat.le_refl _, Nat.zero_le _, fun h => absurd h (by omega)⟩
  · simp only [List.cons.injEq, Value.slice.injEq, and_true] at hcs
    obtain ⟨rfl, rfl, rfl⟩ := hcs
    refine ⟨hl, hm, fun h0 => ?_⟩
    have hlm : len ≤ m := by rw [hmm]; split <;> omega
    have key : ∀ i, i < len → ∀ j, j < fs.size → ∃ v : Value, Q j v ∧ w.cell? (a.add (i * fs.size + j)) = some v := by
      intro i hil j hjl
      obtain ⟨cs', hc, ht'⟩ := hi i (by omega)
      rw [hC] at hc
      obtain ⟨ys, n', hn', hy, hlen, hyl, hf⟩ := DataW.trod_struct he ht'
      obtain ⟨_, hcl, hat⟩ := World.cells?_some hc
      have hj : fs[j]? = some fs[j] := Array.getElem?_eq_getElem hjl
      obtain ⟨ho, hk⟩ := hone_of hone j _ hj
      have hcell := hat j hjl
      have h1 := hf j _ hj
      rw [ho, hk] at h1
      have hone' : (cs'.drop j).take 1 = [cs'[j]'(by omega)] := by
        rw [List.drop_eq_getElem_cons (by omega)]
        rfl
      rw [hone'] at h1
      have hys : ys[j]? = some (ys[j]'(by omega)) := List.getElem?_eq_getElem (by omega)
      obtain ⟨r, e1, wr⟩ := hint j _ hj _ _ _ (h1.trans hys)
      simp only [List.cons.injEq, and_true] at e1
      refine ⟨r, wr, ?_⟩
      rw [← Go.Deep.add_add, hcell, List.getElem?_eq_getElem (by omega), e1]
    obtain ⟨b, o, spot⟩ := a
    obtain ⟨n0, _, hc0⟩ := key 0 h0 0 hfs
    have hspot : spot = none := by simpa [Addr.add] using World.cell?_spot hc0
    subst hspot
    refine ⟨b, o, rfl, by have := World.block_lt_of_cell? w _ hc0; simpa [Addr.add] using this, fun i hil j hjl => ?_⟩
    obtain ⟨n, hn, hc⟩ := key i hil j hjl
    rw [add_mk, ← Nat.add_assoc] at hc
    exact ⟨n, hn, hc⟩

end
/-- An act on a bucket. -/
structure Ac where
  s : ByteArray
  a : Int
  n : Int
def Ac.cs (x : Ac) : List Value := [.string x.s, .int .i64 x.a, .int .i64 x.n]
theorem Ac.cs_len (x : Ac) : (Ac.cs x).length = 3 := rfl
end Go.Proofs.YtoomffajodheaaaGreatDoor
