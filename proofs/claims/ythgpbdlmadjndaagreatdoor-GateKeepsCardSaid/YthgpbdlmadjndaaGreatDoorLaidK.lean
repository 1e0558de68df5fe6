/- What the listed variables give where errors.errorType and the sentinels that a gate and an audit name are listed. No condition. -/
import Derived.Test.YthgpbdlmadjndaaGreatDoorLdM
import Derived.Test.YthgpbdlmadjndaaGreatDoorGkl
import Derived.LaidHandle
import Derived.LaidLaws
namespace Go.Proofs.YthgpbdlmadjndaaGreatDoor
open Go.ChangeShapes Go.WideShapes Go.RowKit
set_option maxRecDepth 100000
namespace LaidK
theorem gs {W : World} (h : laidMetH Tryz.prog [("errors.errorType", Rows.laid_errors_errorType), ("floodgate/api.ErrBound", Rows.laid_floodgate_api_ErrBound), ("floodgate/api.ErrShape", Rows.laid_floodgate_api_ErrShape), ("floodgate/api.ErrNone", Rows.laid_floodgate_api_ErrNone), ("floodgate/api.ErrOld", Rows.laid_floodgate_api_ErrOld), ("floodgate/api.ErrIdle", Rows.laid_floodgate_api_ErrIdle), ("floodgate/api.ErrTurn", Rows.laid_floodgate_api_ErrTurn), ("floodgate/api.ErrKind", Rows.laid_floodgate_api_ErrKind)] W) : ∃ S, GK W W.heap.size S := by
  have h' : laidMet Tryz.prog [("floodgate/api.ErrBound", Rows.laid_floodgate_api_ErrBound), ("floodgate/api.ErrShape", Rows.laid_floodgate_api_ErrShape), ("floodgate/api.ErrNone", Rows.laid_floodgate_api_ErrNone), ("floodgate/api.ErrOld", Rows.laid_floodgate_api_ErrOld), ("floodgate/api.ErrIdle", Rows.laid_floodgate_api_ErrIdle), ("floodgate/api.ErrTurn", Rows.laid_floodgate_api_ErrTurn), ("floodgate/api.ErrKind", Rows.laid_floodgate_api_ErrKind)] W ∧ handlesMet Tryz.prog [("errors.errorType", Rows.laid_errors_errorType)] W := h
  obtain ⟨m, hd⟩ := h'
  obtain ⟨name, u, ty, e1, e2, e3, e4, e5⟩ := hd _ (List.mem_singleton.2 rfl)
  have en : name = [101, 114, 114, 111, 114] := (Option.some.inj e1).symm
  subst en
  obtain rfl := Option.some.inj (LaidAll.rt.symm.trans e2)
  have hm : ty ∈ (List.range 266).filter fun t => Tryz.prog.rowNamed t [101, 114, 114, 111, 114] := List.mem_filter.2 ⟨List.mem_range.2 (by rw [← LaidAll.size]; exact e3), e4⟩
  rw [LaidAll.oneRow] at hm
  obtain rfl := List.mem_singleton.1 hm
  rw [LaidAll.hh] at e5
  have hg : W.cell? ⟨9, 0, none⟩ = some (.iface 175 (.agg #[.pointer (some ⟨10, 32, none⟩)])) := by simpa using World.var?_cell LaidAll.et e5 0
  obtain ⟨a2, s2, g2, c2, x2, b2⟩ := LaidAll.sent_full m (g := 4) (by kernel_rfl) (by kernel_rfl)
  replace m := m.tail
  obtain ⟨a3, s3, g3, c3, x3, b3⟩ := LaidAll.sent_full m (g := 0) (by kernel_rfl) (by kernel_rfl)
  replace m := m.tail
  obtain ⟨a4, s4, g4, c4, x4, b4⟩ := LaidAll.sent_full m (g := 2) (by kernel_rfl) (by kernel_rfl)
  replace m := m.tail
  obtain ⟨a5, s5, g5, c5, x5, b5⟩ := LaidAll.sent_full m (g := 5) (by kernel_rfl) (by kernel_rfl)
  replace m := m.tail
  obtain ⟨a7, s7, g7, c7, x7, b7⟩ := LaidAll.sent_full m (g := 7) (by kernel_rfl) (by kernel_rfl)
  replace m := m.tail
  obtain ⟨a8, s8, g8, c8, x8, b8⟩ := LaidAll.sent_full m (g := 8) (by kernel_rfl) (by kernel_rfl)
  replace m := m.tail
  obtain ⟨a9, s9, g9, c9, x9, b9⟩ := LaidAll.sent_full m (g := 1) (by kernel_rfl) (by kernel_rfl)
  refine ⟨fun k => match k with | 2 => a2 | 3 => a3 | 4 => a4 | 5 => a5 | 7 => a7 | 8 => a8 | _ => a9, ⟨fun k hk => ?_, World.block_lt_of_cell? W _ hg, hg⟩⟩
  simp only [List.mem_cons, List.mem_nil_iff, or_false] at hk
  rcases hk with rfl | rfl | rfl | rfl | rfl | rfl | rfl
  · exact g2
  · exact g3
  · exact g4
  · exact g5
  · exact g7
  · exact g8
  · exact g9
end LaidK
end Go.Proofs.YthgpbdlmadjndaaGreatDoor
