/- Systems of polynomials, part 11 of the walk: an unknown replaced by a number times it, both sides; no condition beyond stated lengths. -/
import Derived.Test.YtaimceodhhgnnaaT10
namespace Go.Proofs.Ytaimceodhhgnnaa
open Go.Ab
set_option linter.unusedSimpArgs false
set_option linter.unusedVariables false

theorem BoxT.put0 {lim : Nat} {Hb H : AHeap} {q : Nat} {t : Tm} (h : BoxT Hb H q t) (hl : lim ≤ q) (c : Int) : ∃ cs, storeH lim H 1 (.pointer (some ⟨q, 0, none⟩)) (.int .i64 c) = some (undef, H.put q cs) ∧ BoxT Hb (H.put q cs) q { t with c := c } :=
  ⟨_, store_int .i64 c hl h.blk (by simp [tc]), Chg.ext h.ext (Chg.put _ _ _) h.ge, h.ge, h.lt, put_same _ _ _⟩

end Go.Proofs.Ytaimceodhhgnnaa
