/- Rows of yes and no of the call's own. No program. No condition. -/
import Derived.Test.YthgpbdlmadjndaaGreatDoorBaseM
import Derived.Laws.OwnMore
namespace Go.Proofs.YthgpbdlmadjndaaGreatDoor
open Go.RowKit
def boolRow (d : Nat → Bool) (n : Nat) : List Value := (List.range n).map fun j => .bool (d j)
theorem boolRow_len (d : Nat → Bool) (n : Nat) : (boolRow d n).length = n := by simp [boolRow]
theorem boolRow_get (d : Nat → Bool) {n j : Nat} (h : j < n) : (boolRow d n)[j]? = some (.bool (d j)) := by simp [boolRow, h]
theorem boolRow_new (n : Nat) : (madeCells (Value.cells (.bool false)) (n * 1)).toList = boolRow (fun _ => false) n := by
  rw [show Value.cells (.bool false) = #[.bool false] from rfl, toList_madeCells_one, Nat.mul_one]
  apply List.ext_getElem?
  intro j
  rw [List.getElem?_replicate]
  by_cases h : j < n
  · rw [if_pos h, boolRow_get _ h]
  · rw [if_neg h, List.getElem?_eq_none (by rw [boolRow_len]; omega)]
theorem boolRow_set (d : Nat → Bool) (n k : Nat) : (boolRow d n).set k (.bool true) = boolRow (fun j => d j || k == j) n := by
  apply List.ext_getElem?
  intro j
  rw [List.getElem?_set]
  by_cases h : j < n
  · rw [boolRow_get (fun j => d j || k == j) h, boolRow_len]
    by_cases hk : k = j
    · subst hk
      rw [if_pos rfl, if_pos h]; simp
    · have : (k == j) = false := by simpa using hk
      rw [if_neg hk, boolRow_get _ h, this, Bool.or_false]
  · rw [List.getElem?_eq_none (l := boolRow (fun j => d j || k == j) n) (by rw [boolRow_len]; omega)]
    split
    · rw [if_neg (by rw [boolRow_len]; omega)]
    · exact List.getElem?_eq_none (by rw [boolRow_len]; omega)
theorem boolRow_congr {d d' : Nat → Bool} {n : Nat} (h : ∀ j, j < n → d j = d' j) : boolRow d n = boolRow d' n := by
  unfold boolRow
  exact List.map_congr_left fun j hj => by rw [h j (List.mem_range.1 hj)]
abbrev BRow (w : World) (base tB g n : Nat) (d : Nat → Bool) : Prop := w.ownsRow base tB 1 (.slice (some ⟨g, 0, none⟩) n n) n (boolRow d n)
theorem BRow.cell {w : World} {base tB g n : Nat} {d : Nat → Bool} (h : BRow w base tB g n d) {j : Nat} (hj : j < n) : w.cell? ⟨g, j, none⟩ = some (.bool (d j)) := (h.cellAt j (by omega)).trans (boolRow_get d hj)
theorem BRow.set_ {w : World} {base tB g n : Nat} {d : Nat → Bool} (h : BRow w base tB g n d) (k : Nat) : BRow (w.setCell ⟨g, k, none⟩ (.bool true)) base tB g n (fun j => d j || k == j) := by
  have := (h.stored k (.bool true)).1
  rw [boolRow_set] at this
  exact this
theorem BRow.drewN {w : World} {base tB g n : Nat} {d : Nat → Bool} (h : BRow w base tB g n d) (m : Nat) : BRow (w.drewN m) base tB g n d := h
theorem BRow.ge {w : World} {base tB g n : Nat} {d : Nat → Bool} (h : BRow w base tB g n d) : base ≤ g := own_ge h g rfl
end Go.Proofs.YthgpbdlmadjndaaGreatDoor
