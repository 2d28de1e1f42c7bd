/- MixEquations: what both sides compute (plain law) and the walk of the specification's side; no condition beyond stated lengths. -/
import Derived.Test.YtaimceodhhgnnaaT32
namespace Go.Proofs.Ytaimceodhhgnnaa
open Go.Ab
set_option linter.unusedSimpArgs false
set_option linter.unusedVariables false

def sc (n : Int) (t : Tm) : Tm := { t with c := W (t.c * n) }
end Go.Proofs.Ytaimceodhhgnnaa
