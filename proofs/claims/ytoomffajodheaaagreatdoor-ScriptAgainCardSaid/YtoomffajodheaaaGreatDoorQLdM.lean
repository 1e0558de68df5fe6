/- Closed facts on this seat's program, and what the listed variables give: each sentinel lies in its variable. No condition. What the listed variables give where all nine sentinels and errors.errorType are listed. No condition. -/
import Derived.Test.YtoomffajodheaaaGreatDoorRows
import Derived.Test.YtoomffajodheaaaGreatDoorQBaseM
import Derived.ProofKit
import Derived.LaidMore
import Derived.Stop.LaidErr
import Derived.Stop.Joined
import Derived.MakeChecks
import Derived.Test.YtoomffajodheaaaGreatDoorQIsM
import Derived.LaidHandle
import Derived.LaidLaws
set_option linter.all false
namespace Go.Proofs.YtoomffajodheaaaGreatDoor
open Go.ChangeShapes Go.WideShapes Go.RowKit
set_option maxRecDepth 100000
namespace Laid
theorem laidOut : laidOutB Tryz.prog = true := by kernel_rfl
theorem own : ownKnob Tryz.prog.godebug = none := by kernel_rfl
theorem star : "*" ++ "errors.errorString" = "*errors.errorString" := by decide
theorem rowES (u : TypeId) (h : Tryz.prog.typeName? 3 u = some "*errors.errorString") : u = 242 :=
  typeName_ptr_named (nm := "errors.errorString") (by rw [star]; kernel_rfl) (by kernel_rfl) (by decide) u (by rw [star]; exact h)
theorem cellsES : Tryz.prog.cellsOf 244 = 1 := by kernel_rfl
theorem cellsStr : Tryz.prog.cellsOf 9 = 1 := by kernel_rfl
end Laid
end Go.Proofs.YtoomffajodheaaaGreatDoor
namespace Go.Proofs.YtoomffajodheaaaGreatDoor
open Go.ChangeShapes Go.WideShapes Go.RowKit
set_option maxRecDepth 100000
namespace LaidAll
theorem et : Tryz.prog.globalNamed "errors.errorType" = some 9 := by kernel_rfl
theorem rt : (Tryz.prog.cutTypes.find? (·.1 == "internal/reflectlite.rtype")).map (·.2) = some 170 := by kernel_rfl
theorem oneRow : ((List.range 351).filter fun t => Tryz.prog.rowNamed t [101, 114, 114, 111, 114]) = [34] := by kernel_rfl
theorem size : Tryz.prog.types.size = 351 := by kernel_rfl
theorem hh : typeHandle Tryz.prog 34 = .pointer (some ⟨23, 34, none⟩) := by kernel_rfl
theorem sent_full {n : String} {text : List UInt8} {r : List (String × DataW Unit)} {W : World} {g : Nat}
    (h : laidMet Tryz.prog ((n, .iface "*errors.errorString" (.ptr (.agg [.lit (.string text)]))) :: r) W) (hg : Tryz.prog.globalNamed n = some g) (ht : (Tryz.prog.globals[g]?).map (·.type) = some 34) :
    ∃ (a : Addr) (s : ByteArray), (g < W.heap.size ∧ a.block < W.heap.size ∧ W.cell? ⟨g, 0, none⟩ = some (.iface 242 (.pointer (some a)))) ∧ W.cell? a = some (.string s) ∧ s.data.toList = text ∧ ∃ c t, W.heap[a.block]? = some (.cells c t (0, 0)) := by
  obtain ⟨ps, ⟨g0, t0, cs0, f0, p0, q0, hg0, ht0, hv0, hd0, _, e0⟩, hnd, hrows⟩ := h
  obtain rfl := Option.some.inj (hg.symm.trans hg0)
  obtain rfl := Option.some.inj (ht.symm.trans ht0)
  subst e0
  obtain ⟨l0⟩ := cs0
  have ok0 : ∀ u v, l0 = [.iface u v] → Value.okWide Tryz.prog W .any 0 u v := fun u v e => by
    subst e
    exact (hrows g 0 (by simp [MemPlace.row])).2 u v (by simpa using World.var?_cell hg0 hv0 0)
  obtain ⟨a0, s0, rfl, hc0, hs0, hz0, rfl⟩ := errorString_of_trod Tryz.underlying34 Laid.rowES Tryz.underlying242 Tryz.underlying244 rfl rfl Tryz.underlying9 Laid.cellsES Laid.cellsStr hd0 ok0
  obtain ⟨c0, t0, hb0⟩ := (hrows a0.block a0.off (by simp [MemPlace.row])).1
  have hc1 : W.cell? ⟨g, 0, none⟩ = some (.iface 242 (.pointer (some a0))) := by simpa using World.var?_cell hg hv0 0
  exact ⟨a0, s0, ⟨World.block_lt_of_cell? W _ hc1, World.block_lt_of_cell? W _ hc0, hc1⟩, hc0, hs0, c0, t0, hb0⟩
def txt : Nat → List UInt8
  | 1 => [102, 108, 111, 111, 100, 103, 97, 116, 101, 58, 32, 116, 101, 120, 116]
  | 2 => [102, 108, 111, 111, 100, 103, 97, 116, 101, 58, 32, 98, 111, 117, 110, 100]
  | 3 => [102, 108, 111, 111, 100, 103, 97, 116, 101, 58, 32, 115, 104, 97, 112, 101]
  | 4 => [102, 108, 111, 111, 100, 103, 97, 116, 101, 58, 32, 110, 111, 110, 101]
  | 5 => [102, 108, 111, 111, 100, 103, 97, 116, 101, 58, 32, 111, 108, 100]
  | 6 => [102, 108, 111, 111, 100, 103, 97, 116, 101, 58, 32, 111, 118, 101, 114]
  | 7 => [102, 108, 111, 111, 100, 103, 97, 116, 101, 58, 32, 105, 100, 108, 101]
  | 8 => [102, 108, 111, 111, 100, 103, 97, 116, 101, 58, 32, 116, 117, 114, 110]
  | 9 => [102, 108, 111, 111, 100, 103, 97, 116, 101, 58, 32, 107, 105, 110, 100]
  | _ => []
theorem txt_ne : ∀ j k, 1 ≤ j → j ≤ 9 → 1 ≤ k → k ≤ 9 → j ≠ k → txt j ≠ txt k := by
  intro j k j1 j9 k1 k9
  have hj : j = 1 ∨ j = 2 ∨ j = 3 ∨ j = 4 ∨ j = 5 ∨ j = 6 ∨ j = 7 ∨ j = 8 ∨ j = 9 := by omega
  have hk : k = 1 ∨ k = 2 ∨ k = 3 ∨ k = 4 ∨ k = 5 ∨ k = 6 ∨ k = 7 ∨ k = 8 ∨ k = 9 := by omega
  rcases hj with rfl | rfl | rfl | rfl | rfl | rfl | rfl | rfl | rfl <;> rcases hk with rfl | rfl | rfl | rfl | rfl | rfl | rfl | rfl | rfl <;> decide
end LaidAll
end Go.Proofs.YtoomffajodheaaaGreatDoor
