/- Facts of the whole program that every row of this seat asks. -/
import Derived.Test.YtkbdhffgmahpdaaB9
section
set_option linter.all false
namespace Go.Proofs.Ytkbdhffgmahpdaa
theorem makeF : Try.pinned.checked.prog.make = some Rows.fnExactCallsForRow.make := by kernel_rfl
end Go.Proofs.Ytkbdhffgmahpdaa
end
