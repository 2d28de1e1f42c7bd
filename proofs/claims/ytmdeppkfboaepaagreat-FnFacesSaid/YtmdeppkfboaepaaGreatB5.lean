/- Parts of the proof of a statement of this seat: contracts of functions that the law calls, or the law's own row; no condition. -/
import Derived.JoinedOf
import Derived.Test.YtmdeppkfboaepaaGreatM11
namespace Go.Proofs.YtmdeppkfboaepaaGreat
open Go.Ab
set_option maxRecDepth 100000
theorem D41 : Tryz.pinned.checked.prog.mayEnter = true := by kernel_rfl
theorem D31 : Tryz.pinned.checked.prog.liftsFinal = Rows.fnTransformsRow.lifted := by kernel_rfl
theorem D3s : Tryz.pinned.checked.prog.make = some Rows.fnTransformsRow.make := by kernel_rfl
end Go.Proofs.YtmdeppkfboaepaaGreat
