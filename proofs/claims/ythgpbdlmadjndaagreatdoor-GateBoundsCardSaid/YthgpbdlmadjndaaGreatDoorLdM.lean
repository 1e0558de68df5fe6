/- Closed facts on this seat's program, and what the listed variables give: each sentinel lies in its variable. No condition. What the listed variables give where all nine sentinels and errors.errorType are listed. No condition. -/
import Derived.Test.YthgpbdlmadjndaaGreatDoorRows
import Derived.Test.YthgpbdlmadjndaaGreatDoorBaseM
import Derived.ProofKit
import Derived.LaidMore
import Derived.Stop.LaidErr
import Derived.Stop.Joined
import Derived.MakeChecks
import Derived.Test.YthgpbdlmadjndaaGreatDoorIsM
import Derived.LaidHandle
import Derived.LaidLaws
namespace Go.Proofs.YthgpbdlmadjndaaGreatDoor
open Go.ChangeShapes Go.WideShapes Go.RowKit
set_option maxRecDepth 100000
namespace Laid
theorem laidOut : laidOutB Tryz.prog = true := by kernel_rfl
theorem own : ownKnob Tryz.prog.godebug = none := by kernel_rfl
theorem ints {fs : Array Field} (h : (fs.all fun f => f.type == 3) = true) : ∀ (j : Nat) (f : Field), fs[j]? = some f → Tryz.prog.underlying f.type = some (.int .i64) := fun j f hj => by
  have h2 := Array.all_eq_true'.1 h f (Array.mem_of_getElem? hj)
  have h3 : f.type = 3 := by simpa using h2
  rw [h3]
  exact Tryz.underlying3
theorem star : "*" ++ "errors.errorString" = "*errors.errorString" := by decide
theorem rowES (u : TypeId) (h : Tryz.prog.typeName? 3 u = some "*errors.errorString") : u = 233 :=
  typeName_ptr_named (nm := "errors.errorString") (by rw [star]; kernel_rfl) (by kernel_rfl) (by decide) u (by rw [star]; exact h)
theorem cellsES : Tryz.prog.cellsOf 254 = 1 := by kernel_rfl
theorem cellsStr : Tryz.prog.cellsOf 9 = 1 := by kernel_rfl
theorem sent_head {n : String} {text : List UInt8} {r : List (String × DataW Unit)} {W : World} {g : Nat}
    (h : laidMet Tryz.prog ((n, .iface "*errors.errorString" (.ptr (.agg [.lit (.string text)]))) :: r) W) (hg : Tryz.prog.globalNamed n = some g) (ht : (Tryz.prog.globals[g]?).map (·.type) = some 32) :
    ∃ a : Addr, g < W.heap.size ∧ a.block < W.heap.size ∧ W.cell? ⟨g, 0, none⟩ = some (.iface 233 (.pointer (some a))) := by
  obtain ⟨a, s, hv, hc, _, _⟩ := laid_sentinel h hg ht Tryz.underlying32 rowES Tryz.underlying233 Tryz.underlying254 rfl rfl Tryz.underlying9 cellsES cellsStr
  have hc0 : W.cell? ⟨g, 0, none⟩ = some (.iface 233 (.pointer (some a))) := by simpa using World.var?_cell hg hv 0
  exact ⟨a, World.block_lt_of_cell? W _ hc0, World.block_lt_of_cell? W _ hc, hc0⟩

end Laid
end Go.Proofs.YthgpbdlmadjndaaGreatDoor
namespace Go.Proofs.YthgpbdlmadjndaaGreatDoor
open Go.ChangeShapes Go.WideShapes Go.RowKit
set_option maxRecDepth 100000
namespace LaidAll
theorem et : Tryz.prog.globalNamed "errors.errorType" = some 9 := by kernel_rfl
theorem rt : (Tryz.prog.cutTypes.find? (·.1 == "internal/reflectlite.rtype")).map (·.2) = some 175 := by kernel_rfl
theorem oneRow : ((List.range 266).filter fun t => Tryz.prog.rowNamed t [101, 114, 114, 111, 114]) = [32] := by kernel_rfl
theorem size : Tryz.prog.types.size = 266 := by kernel_rfl
theorem hh : typeHandle Tryz.prog 32 = .pointer (some ⟨10, 32, none⟩) := by kernel_rfl
theorem sent_full {n : String} {text : List UInt8} {r : List (String × DataW Unit)} {W : World} {g : Nat}
    (h : laidMet Tryz.prog ((n, .iface "*errors.errorString" (.ptr (.agg [.lit (.string text)]))) :: r) W) (hg : Tryz.prog.globalNamed n = some g) (ht : (Tryz.prog.globals[g]?).map (·.type) = some 32) :
    ∃ (a : Addr) (s : ByteArray), (g < W.heap.size ∧ a.block < W.heap.size ∧ W.cell? ⟨g, 0, none⟩ = some (.iface 233 (.pointer (some a)))) ∧ W.cell? a = some (.string s) ∧ s.data.toList = text ∧ ∃ c t, W.heap[a.block]? = some (.cells c t (0, 0)) := by
  obtain ⟨ps, ⟨g0, t0, cs0, f0, p0, q0, hg0, ht0, hv0, hd0, _, e0⟩, hnd, hrows⟩ := h
  obtain rfl := Option.some.inj (hg.symm.trans hg0)
  obtain rfl := Option.some.inj (ht.symm.trans ht0)
  subst e0
  obtain ⟨l0⟩ := cs0
  have ok0 : ∀ u v, l0 = [.iface u v] → Value.okWide Tryz.prog W .any 0 u v := fun u v e => by
    subst e
    exact (hrows g 0 (by simp [MemPlace.row])).2 u v (by simpa using World.var?_cell hg0 hv0 0)
  obtain ⟨a0, s0, rfl, hc0, hs0, hz0, rfl⟩ := errorString_of_trod Tryz.underlying32 Laid.rowES Tryz.underlying233 Tryz.underlying254 rfl rfl Tryz.underlying9 Laid.cellsES Laid.cellsStr hd0 ok0
  obtain ⟨c0, t0, hb0⟩ := (hrows a0.block a0.off (by simp [MemPlace.row])).1
  have hc1 : W.cell? ⟨g, 0, none⟩ = some (.iface 233 (.pointer (some a0))) := by simpa using World.var?_cell hg hv0 0
  exact ⟨a0, s0, ⟨World.block_lt_of_cell? W _ hc1, World.block_lt_of_cell? W _ hc0, hc1⟩, hc0, hs0, c0, t0, hb0⟩
def txt : Nat → List UInt8
  | 1 => [102, 108, 111, 111, 100, 103, 97, 116, 101, 58, 32, 116, 101, 120, 116]
  | 2 => [102, 108, 111, 111, 100, 103, 97, 116, 101, 58, 32, 98, 111, 117, 110, 100]
  | 3 => [102, 108, 111, 111, 100, 103, 97, 116, 101, 58, 32, 115, 104, 97, 112, 101]
  | 4 => [102, 108, 111, 111, 100, 103, 97, 116, 101, 58, 32, 110, 111, 110, 101]
  | 5 => [102, 108, 111, 111, 100, 103, 97, 116, 101, 58, 32, 111, 108, 100]
  | 6 => [102, 108, 111, 111, 100, 103, 97, 116, 101, 58, 32, 111, 118, 101, 114]
  | 7 => [102, 108, 111, 111, 100, 103, 97, 116, 101, 58, 32, 105, 100, 108, 101]
  | 8 => [102, 108, 111, 111, 100, 103, 97, 116, 101, 58, 32, 116, 117, 114, 110]
  | 9 => [102, 108, 111, 111, 100, 103, 97, 116, 101, 58, 32, 107, 105, 110, 100]
  | _ => []
theorem txt_ne : ∀ j k, 1 ≤ j → j ≤ 9 → 1 ≤ k → k ≤ 9 → j ≠ k → txt j ≠ txt k := by
  intro j k j1 j9 k1 k9
  have hj : j = 1 ∨ j = 2 ∨ j = 3 ∨ j = 4 ∨ j = 5 ∨ j = 6 ∨ j = 7 ∨ j = 8 ∨ j = 9 := by omega
  have hk : k = 1 ∨ k = 2 ∨ k = 3 ∨ k = 4 ∨ k = 5 ∨ k = 6 ∨ k = 7 ∨ k = 8 ∨ k = 9 := by omega
  rcases hj with rfl | rfl | rfl | rfl | rfl | rfl | rfl | rfl | rfl <;> rcases hk with rfl | rfl | rfl | rfl | rfl | rfl | rfl | rfl | rfl <;> decide
theorem all9 {W : World} (h : laidMetH Tryz.prog [("errors.errorType", Rows.laid_errors_errorType), ("floodgate/api.ErrText", Rows.laid_floodgate_api_ErrText), ("floodgate/api.ErrBound", Rows.laid_floodgate_api_ErrBound), ("floodgate/api.ErrShape", Rows.laid_floodgate_api_ErrShape), ("floodgate/api.ErrNone", Rows.laid_floodgate_api_ErrNone), ("floodgate/api.ErrOld", Rows.laid_floodgate_api_ErrOld), ("floodgate/api.ErrOver", Rows.laid_floodgate_api_ErrOver), ("floodgate/api.ErrIdle", Rows.laid_floodgate_api_ErrIdle), ("floodgate/api.ErrTurn", Rows.laid_floodgate_api_ErrTurn), ("floodgate/api.ErrKind", Rows.laid_floodgate_api_ErrKind)] W) : ∃ S, All9 W W.heap.size S := by
  have h' : laidMet Tryz.prog [("floodgate/api.ErrText", Rows.laid_floodgate_api_ErrText), ("floodgate/api.ErrBound", Rows.laid_floodgate_api_ErrBound), ("floodgate/api.ErrShape", Rows.laid_floodgate_api_ErrShape), ("floodgate/api.ErrNone", Rows.laid_floodgate_api_ErrNone), ("floodgate/api.ErrOld", Rows.laid_floodgate_api_ErrOld), ("floodgate/api.ErrOver", Rows.laid_floodgate_api_ErrOver), ("floodgate/api.ErrIdle", Rows.laid_floodgate_api_ErrIdle), ("floodgate/api.ErrTurn", Rows.laid_floodgate_api_ErrTurn), ("floodgate/api.ErrKind", Rows.laid_floodgate_api_ErrKind)] W ∧ handlesMet Tryz.prog [("errors.errorType", Rows.laid_errors_errorType)] W := h
  obtain ⟨m, hd⟩ := h'
  obtain ⟨name, u, ty, e1, e2, e3, e4, e5⟩ := hd _ (List.mem_singleton.2 rfl)
  have en : name = [101, 114, 114, 111, 114] := (Option.some.inj e1).symm
  subst en
  obtain rfl := Option.some.inj (rt.symm.trans e2)
  have hm : ty ∈ (List.range 266).filter fun t => Tryz.prog.rowNamed t [101, 114, 114, 111, 114] := List.mem_filter.2 ⟨List.mem_range.2 (by rw [← size]; exact e3), e4⟩
  rw [oneRow] at hm
  obtain rfl := List.mem_singleton.1 hm
  rw [hh] at e5
  have hg : W.cell? ⟨9, 0, none⟩ = some (.iface 175 (.agg #[.pointer (some ⟨10, 32, none⟩)])) := by simpa using World.var?_cell et e5 0
  obtain ⟨a1, s1, g1, c1, x1, b1⟩ := sent_full m (g := 3) (by kernel_rfl) (by kernel_rfl)
  replace m := m.tail
  obtain ⟨a2, s2, g2, c2, x2, b2⟩ := sent_full m (g := 4) (by kernel_rfl) (by kernel_rfl)
  replace m := m.tail
  obtain ⟨a3, s3, g3, c3, x3, b3⟩ := sent_full m (g := 0) (by kernel_rfl) (by kernel_rfl)
  replace m := m.tail
  obtain ⟨a4, s4, g4, c4, x4, b4⟩ := sent_full m (g := 2) (by kernel_rfl) (by kernel_rfl)
  replace m := m.tail
  obtain ⟨a5, s5, g5, c5, x5, b5⟩ := sent_full m (g := 5) (by kernel_rfl) (by kernel_rfl)
  replace m := m.tail
  obtain ⟨a6, s6, g6, c6, x6, b6⟩ := sent_full m (g := 6) (by kernel_rfl) (by kernel_rfl)
  replace m := m.tail
  obtain ⟨a7, s7, g7, c7, x7, b7⟩ := sent_full m (g := 7) (by kernel_rfl) (by kernel_rfl)
  replace m := m.tail
  obtain ⟨a8, s8, g8, c8, x8, b8⟩ := sent_full m (g := 8) (by kernel_rfl) (by kernel_rfl)
  replace m := m.tail
  obtain ⟨a9, s9, g9, c9, x9, b9⟩ := sent_full m (g := 1) (by kernel_rfl) (by kernel_rfl)
  let S : Nat → Addr := fun k => match k with | 1 => a1 | 2 => a2 | 3 => a3 | 4 => a4 | 5 => a5 | 6 => a6 | 7 => a7 | 8 => a8 | _ => a9
  have key : ∀ k, 1 ≤ k → k ≤ 9 → (G k < W.heap.size ∧ (S k).block < W.heap.size ∧ W.cell? ⟨G k, 0, none⟩ = some (sv S k)) ∧ (∃ s : ByteArray, W.cell? (S k) = some (.string s) ∧ s.data.toList = txt k) ∧ ∃ c t, W.heap[(S k).block]? = some (.cells c t (0, 0)) := by
    intro k k1 k9
    have hk : k = 1 ∨ k = 2 ∨ k = 3 ∨ k = 4 ∨ k = 5 ∨ k = 6 ∨ k = 7 ∨ k = 8 ∨ k = 9 := by omega
    rcases hk with rfl | rfl | rfl | rfl | rfl | rfl | rfl | rfl | rfl
    · exact ⟨g1, ⟨s1, c1, x1⟩, b1⟩
    · exact ⟨g2, ⟨s2, c2, x2⟩, b2⟩
    · exact ⟨g3, ⟨s3, c3, x3⟩, b3⟩
    · exact ⟨g4, ⟨s4, c4, x4⟩, b4⟩
    · exact ⟨g5, ⟨s5, c5, x5⟩, b5⟩
    · exact ⟨g6, ⟨s6, c6, x6⟩, b6⟩
    · exact ⟨g7, ⟨s7, c7, x7⟩, b7⟩
    · exact ⟨g8, ⟨s8, c8, x8⟩, b8⟩
    · exact ⟨g9, ⟨s9, c9, x9⟩, b9⟩
  refine ⟨S, ⟨fun k hk => (key k (by simp at hk; omega) (by simp at hk; omega)).1, fun k k1 k9 => (key k k1 k9).2.2, fun j k j1 j9 k1 k9 hne e => ?_, World.block_lt_of_cell? W _ hg, hg⟩⟩
  obtain ⟨s, hs, ht⟩ := (key j j1 j9).2.1
  obtain ⟨s', hs', ht'⟩ := (key k k1 k9).2.1
  rw [e, hs'] at hs
  have : s' = s := by injection hs with hs; injection hs
  subst this
  exact txt_ne j k j1 j9 k1 k9 hne (ht.symm.trans ht')
end LaidAll
end Go.Proofs.YthgpbdlmadjndaaGreatDoor
