/- Systems of polynomials: lists of terms one behind the other; no condition beyond stated lengths. -/
import Derived.Test.YtaimceodhhgnnaaT31
namespace Go.Proofs.Ytaimceodhhgnnaa
open Go.Ab
set_option linter.unusedSimpArgs false
set_option linter.unusedVariables false

end Go.Proofs.Ytaimceodhhgnnaa
