/-
  What awake asks: three runs, evaluated.
-/
import Derived.Test.YtgdnkgfgakhpeaaTree
namespace Go.Proofs.Ytgdnkgfgakhpeaa
open Go.RowKit
set_option maxRecDepth 10000
theorem evalA : forkRun [-1, 0, 0] [1, 2, 3] 1 [] = ⟨6, [0, 2, 1], [0, 0, 0], 3, 0⟩ := by kernel_rfl
theorem evalB : forkRun [-1, 0, 0] [1, 2, 3] 2 [0, 1, 1] = ⟨6, [0, 1, 2], [0, 1, 1], 3, 0⟩ := by kernel_rfl
theorem evalC : forkRun [-1, 1] [1, 2] 2 [] = Res.no 1 := by kernel_rfl
end Go.Proofs.Ytgdnkgfgakhpeaa
