/- The element type int in the table of types. -/
import Derived.Test.YthgpbdlmadjndaaDoorProg
import Derived.KernelRfl
namespace Go.Proofs.YthgpbdlmadjndaaDoor
theorem infoInt : (Tryd.prog.info? 3).map (fun i => (i.zero, i.size, i.bytes)) = some (some (.int .i64 0), 1, 8) := by kernel_rfl
end Go.Proofs.YthgpbdlmadjndaaDoor
