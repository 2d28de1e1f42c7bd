/-
  No cell of these rows narrows 'for every input' (looked for: loops, veiled, ifaces, maps, wideKeys, modest, calm, conditions, laid).
  DERIVED. THE GIVEN ROWS OF THIS SEAT. 12 by the template 'for every input the law returns true; each argument reads behind the call as it read before'; 0 by the template 'total and deterministic' (their statements: YtaimceodhhgnnaaTotals.lean).
  GIVEN WITH THE SEED: the statements are not yours to turn. If you find one false, say at which input.
  Laid BY PROGRAM, IN A SANDBOX (cutbox-rows.mjs): the forced cells as the released guide's own fill.sh prints them over the translation b691f5e79b63f94c… (all of the seat's roots in one cut). By AI agents, Wed Nov 11 2026. No macro, syntax, notation, axiom, sorry.
-/
import Derived.Test.YtaimceodhhgnnaaChecked
import GoSem.Claim
import GoSem.ClaimJoined
import GoSem.ClaimMapViews
import Derived.JoinedTies
import Derived.KernelRfl
namespace Go.Proofs.Ytaimceodhhgnnaa
/- THE CELL 'sum', in the pinned program and in every row, IS THE sha256 OF THE DUMP (.gsa) THAT YtaimceodhhgnnaaProg.lean LOADS. Nothing in Lean hashes anything: it is a label: what it is worth is what the hold of that sum in a sandbox is worth. -/
noncomputable def Try.pinned : Pinned := { name := "ytaimceodhhgnnaa", sum := "b691f5e79b63f94c1c0b247498a98f4fd6dd22db6299530ea82a1a21ad3e3c91", checked := Try.checked }
namespace Rows
def none {H : Type} : Left H := { results := [], args := [] }

/-- 'laws.FnExactSwapEquations': WHATEVER THE INPUT: true; the input reads as it did. -/
def fnExactSwapEquationsSpec : ChangeSpec := { name := "fnExactSwapEquations", fn := fun _ => fun
  | [d1, d2, d3] => { results := [.lit (.bool true)], args := [d1, d2, d3] }
  | _ => none }
def fnExactSwapEquationsRow : OpenClaim := { program := "ytaimceodhhgnnaa", sum := "b691f5e79b63f94c1c0b247498a98f4fd6dd22db6299530ea82a1a21ad3e3c91", func := "loop.example/g01009/laws.FnExactSwapEquations", spec := "fnExactSwapEquations", apart := false }
def FnExactSwapEquationsSaid : Prop := fnExactSwapEquationsRow.holds Try.pinned (OpenSpec.ofChange fnExactSwapEquationsSpec)

/-- ITS FALSE NEIGHBOUR: 'it returns false'. Refute it at one input. -/
def fnExactSwapEquationsWrong : ChangeSpec := { name := "fnExactSwapEquations", fn := fun _ => fun
  | [d1, d2, d3] => { results := [.lit (.bool false)], args := [d1, d2, d3] }
  | _ => none }
def FnExactSwapEquationsWrongFalsely : Prop := fnExactSwapEquationsRow.holds Try.pinned (OpenSpec.ofChange fnExactSwapEquationsWrong)

/-- 'laws.FnExactStretchSystem': WHATEVER THE INPUT: true; the input reads as it did. -/
def fnExactStretchSystemSpec : ChangeSpec := { name := "fnExactStretchSystem", fn := fun _ => fun
  | [d1, d2] => { results := [.lit (.bool true)], args := [d1, d2] }
  | _ => none }
def fnExactStretchSystemRow : OpenClaim := { program := "ytaimceodhhgnnaa", sum := "b691f5e79b63f94c1c0b247498a98f4fd6dd22db6299530ea82a1a21ad3e3c91", func := "loop.example/g01009/laws.FnExactStretchSystem", spec := "fnExactStretchSystem", unfollowed := true, recurses := true, apart := false }
def FnExactStretchSystemSaid : Prop := fnExactStretchSystemRow.holds Try.pinned (OpenSpec.ofChange fnExactStretchSystemSpec)

/-- ITS FALSE NEIGHBOUR: 'it returns false'. Refute it at one input. -/
def fnExactStretchSystemWrong : ChangeSpec := { name := "fnExactStretchSystem", fn := fun _ => fun
  | [d1, d2] => { results := [.lit (.bool false)], args := [d1, d2] }
  | _ => none }
def FnExactStretchSystemWrongFalsely : Prop := fnExactStretchSystemRow.holds Try.pinned (OpenSpec.ofChange fnExactStretchSystemWrong)

/-- 'laws.FnExactMirrorSystem': WHATEVER THE INPUT: true; the input reads as it did. -/
def fnExactMirrorSystemSpec : ChangeSpec := { name := "fnExactMirrorSystem", fn := fun _ => fun
  | [d1, d2] => { results := [.lit (.bool true)], args := [d1, d2] }
  | _ => none }
def fnExactMirrorSystemRow : OpenClaim := { program := "ytaimceodhhgnnaa", sum := "b691f5e79b63f94c1c0b247498a98f4fd6dd22db6299530ea82a1a21ad3e3c91", func := "loop.example/g01009/laws.FnExactMirrorSystem", spec := "fnExactMirrorSystem", unfollowed := true, recurses := true, apart := false }
def FnExactMirrorSystemSaid : Prop := fnExactMirrorSystemRow.holds Try.pinned (OpenSpec.ofChange fnExactMirrorSystemSpec)

/-- ITS FALSE NEIGHBOUR: 'it returns false'. Refute it at one input. -/
def fnExactMirrorSystemWrong : ChangeSpec := { name := "fnExactMirrorSystem", fn := fun _ => fun
  | [d1, d2] => { results := [.lit (.bool false)], args := [d1, d2] }
  | _ => none }
def FnExactMirrorSystemWrongFalsely : Prop := fnExactMirrorSystemRow.holds Try.pinned (OpenSpec.ofChange fnExactMirrorSystemWrong)

/-- 'laws.FnExactMixEquations': WHATEVER THE INPUT: true; the input reads as it did. -/
def fnExactMixEquationsSpec : ChangeSpec := { name := "fnExactMixEquations", fn := fun _ => fun
  | [d1, d2, d3, d4] => { results := [.lit (.bool true)], args := [d1, d2, d3, d4] }
  | _ => none }
def fnExactMixEquationsRow : OpenClaim := { program := "ytaimceodhhgnnaa", sum := "b691f5e79b63f94c1c0b247498a98f4fd6dd22db6299530ea82a1a21ad3e3c91", func := "loop.example/g01009/laws.FnExactMixEquations", spec := "fnExactMixEquations", unfollowed := true, recurses := true, apart := false }
def FnExactMixEquationsSaid : Prop := fnExactMixEquationsRow.holds Try.pinned (OpenSpec.ofChange fnExactMixEquationsSpec)

/-- ITS FALSE NEIGHBOUR: 'it returns false'. Refute it at one input. -/
def fnExactMixEquationsWrong : ChangeSpec := { name := "fnExactMixEquations", fn := fun _ => fun
  | [d1, d2, d3, d4] => { results := [.lit (.bool false)], args := [d1, d2, d3, d4] }
  | _ => none }
def FnExactMixEquationsWrongFalsely : Prop := fnExactMixEquationsRow.holds Try.pinned (OpenSpec.ofChange fnExactMixEquationsWrong)

/-- 'laws.FnExactShiftSystem': WHATEVER THE INPUT: true; the input reads as it did. -/
def fnExactShiftSystemSpec : ChangeSpec := { name := "fnExactShiftSystem", fn := fun _ => fun
  | [d1, d2, d3] => { results := [.lit (.bool true)], args := [d1, d2, d3] }
  | _ => none }
def fnExactShiftSystemRow : OpenClaim := { program := "ytaimceodhhgnnaa", sum := "b691f5e79b63f94c1c0b247498a98f4fd6dd22db6299530ea82a1a21ad3e3c91", func := "loop.example/g01009/laws.FnExactShiftSystem", spec := "fnExactShiftSystem", unfollowed := true, recurses := true, apart := false }
def FnExactShiftSystemSaid : Prop := fnExactShiftSystemRow.holds Try.pinned (OpenSpec.ofChange fnExactShiftSystemSpec)

/-- ITS FALSE NEIGHBOUR: 'it returns false'. Refute it at one input. -/
def fnExactShiftSystemWrong : ChangeSpec := { name := "fnExactShiftSystem", fn := fun _ => fun
  | [d1, d2, d3] => { results := [.lit (.bool false)], args := [d1, d2, d3] }
  | _ => none }
def FnExactShiftSystemWrongFalsely : Prop := fnExactShiftSystemRow.holds Try.pinned (OpenSpec.ofChange fnExactShiftSystemWrong)

/-- 'laws.FnExactIsExpression': WHATEVER THE INPUT: true; the input reads as it did. -/
def fnExactIsExpressionSpec : ChangeSpec := { name := "fnExactIsExpression", fn := fun _ => fun
  | [d] => { results := [.lit (.bool true)], args := [d] }
  | _ => none }
def fnExactIsExpressionRow : OpenClaim := { program := "ytaimceodhhgnnaa", sum := "b691f5e79b63f94c1c0b247498a98f4fd6dd22db6299530ea82a1a21ad3e3c91", func := "loop.example/g01009/laws.FnExactIsExpression", spec := "fnExactIsExpression", inPlace := ["internal/bytealg.IndexByteString"], unfollowed := true, recurses := true, apart := false }
def FnExactIsExpressionSaid : Prop := fnExactIsExpressionRow.holds Try.pinned (OpenSpec.ofChange fnExactIsExpressionSpec)

/-- ITS FALSE NEIGHBOUR: 'it returns false'. Refute it at one input. -/
def fnExactIsExpressionWrong : ChangeSpec := { name := "fnExactIsExpression", fn := fun _ => fun
  | [d] => { results := [.lit (.bool false)], args := [d] }
  | _ => none }
def FnExactIsExpressionWrongFalsely : Prop := fnExactIsExpressionRow.holds Try.pinned (OpenSpec.ofChange fnExactIsExpressionWrong)

/-- 'laws.FnExactDepthOf': WHATEVER THE INPUT: true; the input reads as it did. -/
def fnExactDepthOfSpec : ChangeSpec := { name := "fnExactDepthOf", fn := fun _ => fun
  | [d] => { results := [.lit (.bool true)], args := [d] }
  | _ => none }
def fnExactDepthOfRow : OpenClaim := { program := "ytaimceodhhgnnaa", sum := "b691f5e79b63f94c1c0b247498a98f4fd6dd22db6299530ea82a1a21ad3e3c91", func := "loop.example/g01009/laws.FnExactDepthOf", spec := "fnExactDepthOf", inPlace := ["internal/bytealg.IndexByteString"], unfollowed := true, recurses := true, apart := false }
def FnExactDepthOfSaid : Prop := fnExactDepthOfRow.holds Try.pinned (OpenSpec.ofChange fnExactDepthOfSpec)

/-- ITS FALSE NEIGHBOUR: 'it returns false'. Refute it at one input. -/
def fnExactDepthOfWrong : ChangeSpec := { name := "fnExactDepthOf", fn := fun _ => fun
  | [d] => { results := [.lit (.bool false)], args := [d] }
  | _ => none }
def FnExactDepthOfWrongFalsely : Prop := fnExactDepthOfRow.holds Try.pinned (OpenSpec.ofChange fnExactDepthOfWrong)

/-- 'laws.FnExactExchangeSystem': WHATEVER THE INPUT: true; the input reads as it did. -/
def fnExactExchangeSystemSpec : ChangeSpec := { name := "fnExactExchangeSystem", fn := fun _ => fun
  | [d1, d2] => { results := [.lit (.bool true)], args := [d1, d2] }
  | _ => none }
def fnExactExchangeSystemRow : OpenClaim := { program := "ytaimceodhhgnnaa", sum := "b691f5e79b63f94c1c0b247498a98f4fd6dd22db6299530ea82a1a21ad3e3c91", func := "loop.example/g01009/laws.FnExactExchangeSystem", spec := "fnExactExchangeSystem", unfollowed := true, recurses := true, apart := false }
def FnExactExchangeSystemSaid : Prop := fnExactExchangeSystemRow.holds Try.pinned (OpenSpec.ofChange fnExactExchangeSystemSpec)

/-- ITS FALSE NEIGHBOUR: 'it returns false'. Refute it at one input. -/
def fnExactExchangeSystemWrong : ChangeSpec := { name := "fnExactExchangeSystem", fn := fun _ => fun
  | [d1, d2] => { results := [.lit (.bool false)], args := [d1, d2] }
  | _ => none }
def FnExactExchangeSystemWrongFalsely : Prop := fnExactExchangeSystemRow.holds Try.pinned (OpenSpec.ofChange fnExactExchangeSystemWrong)

/-- 'laws.FnExactPassesMiranda': WHATEVER THE INPUT: true; the input reads as it did. -/
def fnExactPassesMirandaSpec : ChangeSpec := { name := "fnExactPassesMiranda", fn := fun _ => fun
  | [d1, d2, d3] => { results := [.lit (.bool true)], args := [d1, d2, d3] }
  | _ => none }
def fnExactPassesMirandaRow : OpenClaim := { program := "ytaimceodhhgnnaa", sum := "b691f5e79b63f94c1c0b247498a98f4fd6dd22db6299530ea82a1a21ad3e3c91", func := "loop.example/g01009/laws.FnExactPassesMiranda", spec := "fnExactPassesMiranda", apart := false }
def FnExactPassesMirandaSaid : Prop := fnExactPassesMirandaRow.holds Try.pinned (OpenSpec.ofChange fnExactPassesMirandaSpec)

/-- ITS FALSE NEIGHBOUR: 'it returns false'. Refute it at one input. -/
def fnExactPassesMirandaWrong : ChangeSpec := { name := "fnExactPassesMiranda", fn := fun _ => fun
  | [d1, d2, d3] => { results := [.lit (.bool false)], args := [d1, d2, d3] }
  | _ => none }
def FnExactPassesMirandaWrongFalsely : Prop := fnExactPassesMirandaRow.holds Try.pinned (OpenSpec.ofChange fnExactPassesMirandaWrong)

/-- 'laws.FnExactReadPoly': WHATEVER THE INPUT: true; the input reads as it did. -/
def fnExactReadPolySpec : ChangeSpec := { name := "fnExactReadPoly", fn := fun _ => fun
  | [d] => { results := [.lit (.bool true)], args := [d] }
  | _ => none }
def fnExactReadPolyRow : OpenClaim := { program := "ytaimceodhhgnnaa", sum := "b691f5e79b63f94c1c0b247498a98f4fd6dd22db6299530ea82a1a21ad3e3c91", func := "loop.example/g01009/laws.FnExactReadPoly", spec := "fnExactReadPoly", inPlace := ["internal/bytealg.IndexByteString"], unfollowed := true, recurses := true, apart := false }
def FnExactReadPolySaid : Prop := fnExactReadPolyRow.holds Try.pinned (OpenSpec.ofChange fnExactReadPolySpec)

/-- ITS FALSE NEIGHBOUR: 'it returns false'. Refute it at one input. -/
def fnExactReadPolyWrong : ChangeSpec := { name := "fnExactReadPoly", fn := fun _ => fun
  | [d] => { results := [.lit (.bool false)], args := [d] }
  | _ => none }
def FnExactReadPolyWrongFalsely : Prop := fnExactReadPolyRow.holds Try.pinned (OpenSpec.ofChange fnExactReadPolyWrong)

/-- 'laws.FnExactIsSameEquation': WHATEVER THE INPUT: true; the input reads as it did. -/
def fnExactIsSameEquationSpec : ChangeSpec := { name := "fnExactIsSameEquation", fn := fun _ => fun
  | [d1, d2] => { results := [.lit (.bool true)], args := [d1, d2] }
  | _ => none }
def fnExactIsSameEquationRow : OpenClaim := { program := "ytaimceodhhgnnaa", sum := "b691f5e79b63f94c1c0b247498a98f4fd6dd22db6299530ea82a1a21ad3e3c91", func := "loop.example/g01009/laws.FnExactIsSameEquation", spec := "fnExactIsSameEquation", inPlace := ["internal/bytealg.IndexByteString"], unfollowed := true, recurses := true, apart := false }
def FnExactIsSameEquationSaid : Prop := fnExactIsSameEquationRow.holds Try.pinned (OpenSpec.ofChange fnExactIsSameEquationSpec)

/-- ITS FALSE NEIGHBOUR: 'it returns false'. Refute it at one input. -/
def fnExactIsSameEquationWrong : ChangeSpec := { name := "fnExactIsSameEquation", fn := fun _ => fun
  | [d1, d2] => { results := [.lit (.bool false)], args := [d1, d2] }
  | _ => none }
def FnExactIsSameEquationWrongFalsely : Prop := fnExactIsSameEquationRow.holds Try.pinned (OpenSpec.ofChange fnExactIsSameEquationWrong)

/-- 'laws.FnExactMirandaDegree': WHATEVER THE INPUT: true; the input reads as it did. -/
def fnExactMirandaDegreeSpec : ChangeSpec := { name := "fnExactMirandaDegree", fn := fun _ => fun
  | [d1, d2] => { results := [.lit (.bool true)], args := [d1, d2] }
  | _ => none }
def fnExactMirandaDegreeRow : OpenClaim := { program := "ytaimceodhhgnnaa", sum := "b691f5e79b63f94c1c0b247498a98f4fd6dd22db6299530ea82a1a21ad3e3c91", func := "loop.example/g01009/laws.FnExactMirandaDegree", spec := "fnExactMirandaDegree", unfollowed := true, recurses := true, apart := false }
def FnExactMirandaDegreeSaid : Prop := fnExactMirandaDegreeRow.holds Try.pinned (OpenSpec.ofChange fnExactMirandaDegreeSpec)

/-- ITS FALSE NEIGHBOUR: 'it returns false'. Refute it at one input. -/
def fnExactMirandaDegreeWrong : ChangeSpec := { name := "fnExactMirandaDegree", fn := fun _ => fun
  | [d1, d2] => { results := [.lit (.bool false)], args := [d1, d2] }
  | _ => none }
def FnExactMirandaDegreeWrongFalsely : Prop := fnExactMirandaDegreeRow.holds Try.pinned (OpenSpec.ofChange fnExactMirandaDegreeWrong)

/- THE SECOND FORM. 'bulk': how many values and letters a reading holds, each counted each time it is reached (what is shared counts as often as it is met; a slice's spare places count too). A statement '..UptoSaid' is the law's where the arguments, and the package variables that the reading takes, are together of bulk at most 1048576: NARROWER than '..Said'. Prove '..Said' where nothing that the law and all that it calls make is longer than what came in: it says more and counts as full. Else prove '..UptoSaid'. A law counts once. -/
mutual
def uptoBulk {H : Type} : DataW H → Nat
  | .lit (.string bytes) => bytes.length + 1
  | .lit _ => 1
  | .nil => 1
  | .ptr d => uptoBulk d + 1
  | .slice elems spare => uptoBulkAll elems + uptoBulkAll spare + 1
  | .agg parts => uptoBulkAll parts + 1
  | .iface _ d => uptoBulk d + 1
  | .map entries => uptoBulkEntries entries + 1
  | .held _ => 1
def uptoBulkAll {H : Type} : List (DataW H) → Nat
  | [] => 0
  | d :: r => uptoBulk d + uptoBulkAll r
def uptoBulkEntries {H : Type} : List (Lit × DataW H) → Nat
  | [] => 0
  | x :: r => uptoBulkEntry x + uptoBulkEntries r
def uptoBulkEntry {H : Type} : Lit × DataW H → Nat
  | (.string bytes, d) => bytes.length + uptoBulk d + 1
  | (_, d) => uptoBulk d + 1
 end
def uptoSmall : (H : Type) → List (DataW H) → Bool := fun _ ds => decide (uptoBulkAll ds ≤ 1048576)
def OpenSpec.upto (s : _root_.Go.ChangeSpec) : _root_.Go.OpenSpec := { _root_.Go.OpenSpec.ofChange s with cond := some uptoSmall }

/-- 'laws.FnExactSwapEquations', WHERE WHAT IT READS IS OF BULK AT MOST 1048576: true; the input reads as it did. -/
def fnExactSwapEquationsUptoRow : OpenClaim := { program := "ytaimceodhhgnnaa", sum := "b691f5e79b63f94c1c0b247498a98f4fd6dd22db6299530ea82a1a21ad3e3c91", func := "loop.example/g01009/laws.FnExactSwapEquations", spec := "fnExactSwapEquations", apart := false, narrowed := true }
def FnExactSwapEquationsUptoSaid : Prop := fnExactSwapEquationsUptoRow.holds Try.pinned (OpenSpec.upto fnExactSwapEquationsSpec)

/-- 'laws.FnExactStretchSystem', WHERE WHAT IT READS IS OF BULK AT MOST 1048576: true; the input reads as it did. -/
def fnExactStretchSystemUptoRow : OpenClaim := { program := "ytaimceodhhgnnaa", sum := "b691f5e79b63f94c1c0b247498a98f4fd6dd22db6299530ea82a1a21ad3e3c91", func := "loop.example/g01009/laws.FnExactStretchSystem", spec := "fnExactStretchSystem", unfollowed := true, recurses := true, apart := false, narrowed := true }
def FnExactStretchSystemUptoSaid : Prop := fnExactStretchSystemUptoRow.holds Try.pinned (OpenSpec.upto fnExactStretchSystemSpec)

/-- 'laws.FnExactMirrorSystem', WHERE WHAT IT READS IS OF BULK AT MOST 1048576: true; the input reads as it did. -/
def fnExactMirrorSystemUptoRow : OpenClaim := { program := "ytaimceodhhgnnaa", sum := "b691f5e79b63f94c1c0b247498a98f4fd6dd22db6299530ea82a1a21ad3e3c91", func := "loop.example/g01009/laws.FnExactMirrorSystem", spec := "fnExactMirrorSystem", unfollowed := true, recurses := true, apart := false, narrowed := true }
def FnExactMirrorSystemUptoSaid : Prop := fnExactMirrorSystemUptoRow.holds Try.pinned (OpenSpec.upto fnExactMirrorSystemSpec)

/-- 'laws.FnExactMixEquations', WHERE WHAT IT READS IS OF BULK AT MOST 1048576: true; the input reads as it did. -/
def fnExactMixEquationsUptoRow : OpenClaim := { program := "ytaimceodhhgnnaa", sum := "b691f5e79b63f94c1c0b247498a98f4fd6dd22db6299530ea82a1a21ad3e3c91", func := "loop.example/g01009/laws.FnExactMixEquations", spec := "fnExactMixEquations", unfollowed := true, recurses := true, apart := false, narrowed := true }
def FnExactMixEquationsUptoSaid : Prop := fnExactMixEquationsUptoRow.holds Try.pinned (OpenSpec.upto fnExactMixEquationsSpec)

/-- 'laws.FnExactShiftSystem', WHERE WHAT IT READS IS OF BULK AT MOST 1048576: true; the input reads as it did. -/
def fnExactShiftSystemUptoRow : OpenClaim := { program := "ytaimceodhhgnnaa", sum := "b691f5e79b63f94c1c0b247498a98f4fd6dd22db6299530ea82a1a21ad3e3c91", func := "loop.example/g01009/laws.FnExactShiftSystem", spec := "fnExactShiftSystem", unfollowed := true, recurses := true, apart := false, narrowed := true }
def FnExactShiftSystemUptoSaid : Prop := fnExactShiftSystemUptoRow.holds Try.pinned (OpenSpec.upto fnExactShiftSystemSpec)

/-- 'laws.FnExactIsExpression', WHERE WHAT IT READS IS OF BULK AT MOST 1048576: true; the input reads as it did. -/
def fnExactIsExpressionUptoRow : OpenClaim := { program := "ytaimceodhhgnnaa", sum := "b691f5e79b63f94c1c0b247498a98f4fd6dd22db6299530ea82a1a21ad3e3c91", func := "loop.example/g01009/laws.FnExactIsExpression", spec := "fnExactIsExpression", inPlace := ["internal/bytealg.IndexByteString"], unfollowed := true, recurses := true, apart := false, narrowed := true }
def FnExactIsExpressionUptoSaid : Prop := fnExactIsExpressionUptoRow.holds Try.pinned (OpenSpec.upto fnExactIsExpressionSpec)

/-- 'laws.FnExactDepthOf', WHERE WHAT IT READS IS OF BULK AT MOST 1048576: true; the input reads as it did. -/
def fnExactDepthOfUptoRow : OpenClaim := { program := "ytaimceodhhgnnaa", sum := "b691f5e79b63f94c1c0b247498a98f4fd6dd22db6299530ea82a1a21ad3e3c91", func := "loop.example/g01009/laws.FnExactDepthOf", spec := "fnExactDepthOf", inPlace := ["internal/bytealg.IndexByteString"], unfollowed := true, recurses := true, apart := false, narrowed := true }
def FnExactDepthOfUptoSaid : Prop := fnExactDepthOfUptoRow.holds Try.pinned (OpenSpec.upto fnExactDepthOfSpec)

/-- 'laws.FnExactExchangeSystem', WHERE WHAT IT READS IS OF BULK AT MOST 1048576: true; the input reads as it did. -/
def fnExactExchangeSystemUptoRow : OpenClaim := { program := "ytaimceodhhgnnaa", sum := "b691f5e79b63f94c1c0b247498a98f4fd6dd22db6299530ea82a1a21ad3e3c91", func := "loop.example/g01009/laws.FnExactExchangeSystem", spec := "fnExactExchangeSystem", unfollowed := true, recurses := true, apart := false, narrowed := true }
def FnExactExchangeSystemUptoSaid : Prop := fnExactExchangeSystemUptoRow.holds Try.pinned (OpenSpec.upto fnExactExchangeSystemSpec)

/-- 'laws.FnExactPassesMiranda', WHERE WHAT IT READS IS OF BULK AT MOST 1048576: true; the input reads as it did. -/
def fnExactPassesMirandaUptoRow : OpenClaim := { program := "ytaimceodhhgnnaa", sum := "b691f5e79b63f94c1c0b247498a98f4fd6dd22db6299530ea82a1a21ad3e3c91", func := "loop.example/g01009/laws.FnExactPassesMiranda", spec := "fnExactPassesMiranda", apart := false, narrowed := true }
def FnExactPassesMirandaUptoSaid : Prop := fnExactPassesMirandaUptoRow.holds Try.pinned (OpenSpec.upto fnExactPassesMirandaSpec)

/-- 'laws.FnExactReadPoly', WHERE WHAT IT READS IS OF BULK AT MOST 1048576: true; the input reads as it did. -/
def fnExactReadPolyUptoRow : OpenClaim := { program := "ytaimceodhhgnnaa", sum := "b691f5e79b63f94c1c0b247498a98f4fd6dd22db6299530ea82a1a21ad3e3c91", func := "loop.example/g01009/laws.FnExactReadPoly", spec := "fnExactReadPoly", inPlace := ["internal/bytealg.IndexByteString"], unfollowed := true, recurses := true, apart := false, narrowed := true }
def FnExactReadPolyUptoSaid : Prop := fnExactReadPolyUptoRow.holds Try.pinned (OpenSpec.upto fnExactReadPolySpec)

/-- 'laws.FnExactIsSameEquation', WHERE WHAT IT READS IS OF BULK AT MOST 1048576: true; the input reads as it did. -/
def fnExactIsSameEquationUptoRow : OpenClaim := { program := "ytaimceodhhgnnaa", sum := "b691f5e79b63f94c1c0b247498a98f4fd6dd22db6299530ea82a1a21ad3e3c91", func := "loop.example/g01009/laws.FnExactIsSameEquation", spec := "fnExactIsSameEquation", inPlace := ["internal/bytealg.IndexByteString"], unfollowed := true, recurses := true, apart := false, narrowed := true }
def FnExactIsSameEquationUptoSaid : Prop := fnExactIsSameEquationUptoRow.holds Try.pinned (OpenSpec.upto fnExactIsSameEquationSpec)

/-- 'laws.FnExactMirandaDegree', WHERE WHAT IT READS IS OF BULK AT MOST 1048576: true; the input reads as it did. -/
def fnExactMirandaDegreeUptoRow : OpenClaim := { program := "ytaimceodhhgnnaa", sum := "b691f5e79b63f94c1c0b247498a98f4fd6dd22db6299530ea82a1a21ad3e3c91", func := "loop.example/g01009/laws.FnExactMirandaDegree", spec := "fnExactMirandaDegree", unfollowed := true, recurses := true, apart := false, narrowed := true }
def FnExactMirandaDegreeUptoSaid : Prop := fnExactMirandaDegreeUptoRow.holds Try.pinned (OpenSpec.upto fnExactMirandaDegreeSpec)

end Rows
end Go.Proofs.Ytaimceodhhgnnaa
