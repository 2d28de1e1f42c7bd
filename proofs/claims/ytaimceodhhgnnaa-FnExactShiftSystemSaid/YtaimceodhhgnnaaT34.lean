/- MixEquations: the walk of the implementation's side; no condition beyond stated lengths. -/
import Derived.Test.YtaimceodhhgnnaaT33
namespace Go.Proofs.Ytaimceodhhgnnaa
open Go.Ab
set_option linter.unusedSimpArgs false
set_option linter.unusedVariables false

end Go.Proofs.Ytaimceodhhgnnaa
