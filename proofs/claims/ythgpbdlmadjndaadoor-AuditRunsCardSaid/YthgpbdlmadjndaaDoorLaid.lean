/- Closed facts on this seat's program, and what the listed variables give: each sentinel lies in its variable. No condition. -/
import Derived.Test.YthgpbdlmadjndaaDoorRows
import Derived.Test.YthgpbdlmadjndaaDoorErr
import Derived.ProofKit
import Derived.LaidMore
import Derived.Stop.LaidErr
import Derived.Stop.Joined
import Derived.MakeChecks
namespace Go.Proofs.YthgpbdlmadjndaaDoor
open Go.ChangeShapes Go.WideShapes Go.RowKit
set_option maxRecDepth 100000
namespace Laid
theorem laidOut : laidOutB Tryd.prog = true := by kernel_rfl
theorem own : ownKnob Tryd.prog.godebug = none := by kernel_rfl
theorem ints {fs : Array Field} (h : (fs.all fun f => f.type == 3) = true) : ∀ (j : Nat) (f : Field), fs[j]? = some f → Tryd.prog.underlying f.type = some (.int .i64) := fun j f hj => by
  have h2 := Array.all_eq_true'.1 h f (Array.mem_of_getElem? hj)
  have h3 : f.type = 3 := by simpa using h2
  rw [h3]
  exact Tryd.underlying3
theorem star : "*" ++ "errors.errorString" = "*errors.errorString" := by decide
theorem rowES (u : TypeId) (h : Tryd.prog.typeName? 3 u = some "*errors.errorString") : u = 197 :=
  typeName_ptr_named (nm := "errors.errorString") (by rw [star]; kernel_rfl) (by kernel_rfl) (by decide) u (by rw [star]; exact h)
theorem cellsES : Tryd.prog.cellsOf 219 = 1 := by kernel_rfl
theorem cellsStr : Tryd.prog.cellsOf 9 = 1 := by kernel_rfl
theorem sent_head {n : String} {text : List UInt8} {r : List (String × DataW Unit)} {W : World} {g : Nat}
    (h : laidMet Tryd.prog ((n, .iface "*errors.errorString" (.ptr (.agg [.lit (.string text)]))) :: r) W) (hg : Tryd.prog.globalNamed n = some g) (ht : (Tryd.prog.globals[g]?).map (·.type) = some 31) :
    ∃ a : Addr, g < W.heap.size ∧ a.block < W.heap.size ∧ W.cell? ⟨g, 0, none⟩ = some (.iface 197 (.pointer (some a))) := by
  obtain ⟨a, s, hv, hc, _, _⟩ := laid_sentinel h hg ht Tryd.underlying31 rowES Tryd.underlying197 Tryd.underlying219 rfl rfl Tryd.underlying9 cellsES cellsStr
  have hc0 : W.cell? ⟨g, 0, none⟩ = some (.iface 197 (.pointer (some a))) := by simpa using World.var?_cell hg hv 0
  exact ⟨a, World.block_lt_of_cell? W _ hc0, World.block_lt_of_cell? W _ hc, hc0⟩

end Laid
end Go.Proofs.YthgpbdlmadjndaaDoor
