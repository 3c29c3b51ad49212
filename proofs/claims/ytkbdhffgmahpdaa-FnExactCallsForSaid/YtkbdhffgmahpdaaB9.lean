/- Facts of the whole program that every row of this seat asks. -/
import Derived.Test.YtkbdhffgmahpdaaB8
section
set_option linter.all false
namespace Go.Proofs.Ytkbdhffgmahpdaa
theorem liftsF : Try.pinned.checked.prog.liftsFinal = Rows.fnExactCallsForRow.lifted := by kernel_rfl
end Go.Proofs.Ytkbdhffgmahpdaa
end
