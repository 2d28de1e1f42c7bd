/- Parts of the proof of a statement of this seat: contracts of functions that the law calls, or the law's own row; no condition. -/
import Derived.JoinedOf
import Derived.Test.YtagocdkcnajiiaaM7
/- What all rows of this seat share, checked by the kernel once; no condition. -/
namespace Go.Proofs.Ytagocdkcnajiiaa
open Go.Ab
set_option maxRecDepth 100000
theorem k_may : Try.pinned.checked.prog.mayEnter = true := by kernel_rfl
theorem k_lift : Try.pinned.checked.prog.liftsFinal = Rows.fnExactMirandaOrderRow.lifted := by kernel_rfl
theorem k_make : Try.pinned.checked.prog.make = some Rows.fnExactMirandaOrderRow.make := by kernel_rfl
end Go.Proofs.Ytagocdkcnajiiaa
