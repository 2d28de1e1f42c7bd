/- Systems of polynomials, part 17 of the walk: up to twenty terms sorted and collected; no condition beyond stated lengths. -/
import Derived.Test.YtaimceodhhgnnaaT16
namespace Go.Proofs.Ytaimceodhhgnnaa
open Go.Ab
set_option linter.unusedSimpArgs false
set_option linter.unusedVariables false

end Go.Proofs.Ytaimceodhhgnnaa
