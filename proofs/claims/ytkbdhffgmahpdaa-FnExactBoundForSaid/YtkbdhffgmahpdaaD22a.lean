/- PROVED: the law laws.FnExactBoundFor returns true at every input, and its argument reads afterwards as before. Conditions: none beyond those of the given statement Rows.FnExactBoundForSaid. -/
import Derived.Test.YtkbdhffgmahpdaaRows
import Derived.Test.YtkbdhffgmahpdaaB10
section
set_option linter.all false
namespace Go.Proofs.Ytkbdhffgmahpdaa
namespace boundFor
open Go.ChangeShapes Go.WideShapes Go.ChangeAt Go.RowKit Go.Am
theorem closed : joinedFacts Try.pinned.checked.prog 4 Try.f4 Rows.fnExactBoundForSpec Rows.fnExactBoundForRow = true := by
  unfold joinedFacts
  rw [show laidOutB Try.pinned.checked.prog = true from laidOut, mapsR, stopsH, mayE, liftsF, makeF]
  kernel_rfl
end boundFor
end Go.Proofs.Ytkbdhffgmahpdaa
end
