/- PROVED: the law laws.FnExactCallsFor returns true at every input, and its argument reads afterwards as before. Conditions: none beyond those of the given statement Rows.FnExactCallsForSaid. -/
import Derived.Test.YtkbdhffgmahpdaaRows
import Derived.Test.YtkbdhffgmahpdaaB10
section
set_option linter.all false
namespace Go.Proofs.Ytkbdhffgmahpdaa
namespace callsFor
open Go.ChangeShapes Go.WideShapes Go.ChangeAt Go.RowKit Go.Am
theorem closed : joinedFacts Try.pinned.checked.prog 3 Try.f3 Rows.fnExactCallsForSpec Rows.fnExactCallsForRow = true := by
  unfold joinedFacts
  rw [show laidOutB Try.pinned.checked.prog = true from laidOut, mapsR, stopsH, mayE, liftsF, makeF]
  kernel_rfl
end callsFor
end Go.Proofs.Ytkbdhffgmahpdaa
end
