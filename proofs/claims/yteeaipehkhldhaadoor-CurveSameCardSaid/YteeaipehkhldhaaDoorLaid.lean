/- Closed facts on this seat's program, and what the listed variables give: each sentinel lies in its variable. No condition. -/
import Derived.Test.YteeaipehkhldhaaDoorRows
import Derived.Test.YteeaipehkhldhaaDoorErr
import Derived.ProofKit
import Derived.LaidMore
import Derived.Stop.LaidErr
import Derived.Stop.Joined
import Derived.MakeChecks
namespace Go.Proofs.YteeaipehkhldhaaDoor
open Go.ChangeShapes Go.WideShapes Go.RowKit
set_option maxRecDepth 100000
namespace Laid
theorem laidOut : laidOutB Tryd.prog = true := by kernel_rfl
theorem own : ownKnob Tryd.prog.godebug = none := by kernel_rfl
theorem ints {fs : Array Field} (h : (fs.all fun f => f.type == 3) = true) : ∀ (j : Nat) (f : Field), fs[j]? = some f → Tryd.prog.underlying f.type = some (.int .i64) := fun j f hj => by
  have h2 := Array.all_eq_true'.1 h f (Array.mem_of_getElem? hj)
  have h3 : f.type = 3 := by simpa using h2
  rw [h3]
  exact Tryd.underlying3
theorem star : "*" ++ "errors.errorString" = "*errors.errorString" := by decide
theorem rowES (u : TypeId) (h : Tryd.prog.typeName? 3 u = some "*errors.errorString") : u = 98 :=
  typeName_ptr_named (nm := "errors.errorString") (by rw [star]; kernel_rfl) (by kernel_rfl) (by decide) u (by rw [star]; exact h)
theorem cellsES : Tryd.prog.cellsOf 100 = 1 := by kernel_rfl
theorem cellsStr : Tryd.prog.cellsOf 9 = 1 := by kernel_rfl
theorem sent_head {n : String} {text : List UInt8} {r : List (String × DataW Unit)} {W : World} {g : Nat}
    (h : laidMet Tryd.prog ((n, .iface "*errors.errorString" (.ptr (.agg [.lit (.string text)]))) :: r) W) (hg : Tryd.prog.globalNamed n = some g) (ht : (Tryd.prog.globals[g]?).map (·.type) = some 28) :
    ∃ a : Addr, g < W.heap.size ∧ a.block < W.heap.size ∧ W.cell? ⟨g, 0, none⟩ = some (.iface 98 (.pointer (some a))) := by
  obtain ⟨a, s, hv, hc, _, _⟩ := laid_sentinel h hg ht Tryd.underlying28 rowES Tryd.underlying98 Tryd.underlying100 rfl rfl Tryd.underlying9 cellsES cellsStr
  have hc0 : W.cell? ⟨g, 0, none⟩ = some (.iface 98 (.pointer (some a))) := by simpa using World.var?_cell hg hv 0
  exact ⟨a, World.block_lt_of_cell? W _ hc0, World.block_lt_of_cell? W _ hc, hc0⟩
theorem sents_2_3 {W : World} (h : laidMetH Tryd.prog [("floodgate/api.ErrBound", Rows.laid_floodgate_api_ErrBound), ("floodgate/api.ErrShape", Rows.laid_floodgate_api_ErrShape)] W) : ∃ S, Snt W W.heap.size S [2, 3] := by
  rw [MakeChecks.laidMetH_plain _ _ _ (by kernel_rfl)] at h
  obtain ⟨a2, b2, c2, d2⟩ := sent_head h (g := 1) (by kernel_rfl) (by kernel_rfl)
  replace h := h.tail
  obtain ⟨a3, b3, c3, d3⟩ := sent_head h (g := 2) (by kernel_rfl) (by kernel_rfl)
  replace h := h.tail
  refine ⟨fun k => if k = 2 then a2 else (a3), fun k hk => ?_⟩
  simp only [List.mem_cons, List.mem_nil_iff, or_false] at hk
  rcases hk with rfl | rfl
  · exact ⟨b2, c2, d2⟩
  · exact ⟨b3, c3, d3⟩

end Laid
end Go.Proofs.YteeaipehkhldhaaDoor
