/- What the listed variables give where errors.errorType and four sentinels are listed. No condition. -/
import Derived.Test.YteeaipehkhldhaaDoorLaid
import Derived.LaidHandle
import Derived.LaidLaws
namespace Go.Proofs.YteeaipehkhldhaaDoor
open Go.ChangeShapes Go.WideShapes Go.RowKit
set_option maxRecDepth 100000
namespace LaidH
theorem s_2_3_4_5 {W : World} (h : laidMetH Tryd.prog [("errors.errorType", Rows.laid_errors_errorType), ("floodgate/api.ErrBound", Rows.laid_floodgate_api_ErrBound), ("floodgate/api.ErrShape", Rows.laid_floodgate_api_ErrShape), ("floodgate/api.ErrNone", Rows.laid_floodgate_api_ErrNone), ("floodgate/api.ErrOld", Rows.laid_floodgate_api_ErrOld)] W) : ∃ S, Snt W W.heap.size S [2, 3, 4, 5] := by
  have h' : laidMet Tryd.prog [("floodgate/api.ErrBound", Rows.laid_floodgate_api_ErrBound), ("floodgate/api.ErrShape", Rows.laid_floodgate_api_ErrShape), ("floodgate/api.ErrNone", Rows.laid_floodgate_api_ErrNone), ("floodgate/api.ErrOld", Rows.laid_floodgate_api_ErrOld)] W ∧ handlesMet Tryd.prog [("errors.errorType", Rows.laid_errors_errorType)] W := h
  obtain ⟨m, _⟩ := h'
  obtain ⟨a2, b2, c2, d2⟩ := Laid.sent_head m (g := 1) (by kernel_rfl) (by kernel_rfl)
  replace m := m.tail
  obtain ⟨a3, b3, c3, d3⟩ := Laid.sent_head m (g := 2) (by kernel_rfl) (by kernel_rfl)
  replace m := m.tail
  obtain ⟨a4, b4, c4, d4⟩ := Laid.sent_head m (g := 3) (by kernel_rfl) (by kernel_rfl)
  replace m := m.tail
  obtain ⟨a5, b5, c5, d5⟩ := Laid.sent_head m (g := 4) (by kernel_rfl) (by kernel_rfl)
  refine ⟨fun k => if k = 2 then a2 else (if k = 3 then a3 else (if k = 4 then a4 else a5)), fun k hk => ?_⟩
  simp only [List.mem_cons, List.mem_nil_iff, or_false] at hk
  rcases hk with rfl | rfl | rfl | rfl
  · exact ⟨b2, c2, d2⟩
  · exact ⟨b3, c3, d3⟩
  · exact ⟨b4, c4, d4⟩
  · exact ⟨b5, c5, d5⟩
end LaidH
end Go.Proofs.YteeaipehkhldhaaDoor
