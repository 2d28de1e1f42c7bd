/-
  No cell of these rows narrows 'for every input' (looked for: loops, veiled, ifaces, maps, wideKeys, modest, calm, conditions, laid).
  DERIVED. THE GIVEN ROWS OF THIS SEAT. 6 by the template 'for every input the law returns true; each argument reads behind the call as it read before'; 0 by the template 'total and deterministic' (their statements: YtfnjjkljpegoeaaTotals.lean).
  GIVEN WITH THE SEED: the statements are not yours to turn. If you find one false, say at which input.
  Laid BY PROGRAM, IN A SANDBOX (cutbox-rows.mjs): the forced cells as the released guide's own fill.sh prints them over the translation 6ecb44fc36fd9003… (all of the seat's roots in one cut). By AI agents, Wed Nov 11 2026. No macro, syntax, notation, axiom, sorry.
-/
import Derived.Test.YtfnjjkljpegoeaaChecked
import GoSem.Claim
import GoSem.ClaimJoined
import GoSem.ClaimMapViews
import Derived.JoinedTies
import Derived.KernelRfl
namespace Go.Proofs.Ytfnjjkljpegoeaa
/- THE CELL 'sum', in the pinned program and in every row, IS THE sha256 OF THE DUMP (.gsa) THAT YtfnjjkljpegoeaaProg.lean LOADS. Nothing in Lean hashes anything: it is a label: what it is worth is what the hold of that sum in a sandbox is worth. -/
noncomputable def Try.pinned : Pinned := { name := "ytfnjjkljpegoeaa", sum := "6ecb44fc36fd900311fc8410e0998d1f91b43d17b5e70163231e9248ff742428", checked := Try.checked }
namespace Rows
def none {H : Type} : Left H := { results := [], args := [] }

/-- 'laws.FnExactOrderSign': WHATEVER THE INPUT: true; the input reads as it did. -/
def fnExactOrderSignSpec : ChangeSpec := { name := "fnExactOrderSign", fn := fun _ => fun
  | [d] => { results := [.lit (.bool true)], args := [d] }
  | _ => none }
def fnExactOrderSignRow : OpenClaim := { program := "ytfnjjkljpegoeaa", sum := "6ecb44fc36fd900311fc8410e0998d1f91b43d17b5e70163231e9248ff742428", func := "loop.example/g01009/laws.FnExactOrderSign", spec := "fnExactOrderSign", apart := false }
def FnExactOrderSignSaid : Prop := fnExactOrderSignRow.holds Try.pinned (OpenSpec.ofChange fnExactOrderSignSpec)

/-- ITS FALSE NEIGHBOUR: 'it returns false'. Refute it at one input. -/
def fnExactOrderSignWrong : ChangeSpec := { name := "fnExactOrderSign", fn := fun _ => fun
  | [d] => { results := [.lit (.bool false)], args := [d] }
  | _ => none }
def FnExactOrderSignWrongFalsely : Prop := fnExactOrderSignRow.holds Try.pinned (OpenSpec.ofChange fnExactOrderSignWrong)

/-- 'laws.FnExactJoinScripts': WHATEVER THE INPUT: true; the input reads as it did. -/
def fnExactJoinScriptsSpec : ChangeSpec := { name := "fnExactJoinScripts", fn := fun _ => fun
  | [d1, d2] => { results := [.lit (.bool true)], args := [d1, d2] }
  | _ => none }
def fnExactJoinScriptsRow : OpenClaim := { program := "ytfnjjkljpegoeaa", sum := "6ecb44fc36fd900311fc8410e0998d1f91b43d17b5e70163231e9248ff742428", func := "loop.example/g01009/laws.FnExactJoinScripts", spec := "fnExactJoinScripts", inPlace := ["internal/bytealg.CountString", "internal/bytealg.IndexByteString", "internal/bytealg.IndexString"], named := ["internal/bytealg.MaxLen"], apart := false }
def FnExactJoinScriptsSaid : Prop := fnExactJoinScriptsRow.holds Try.pinned (OpenSpec.ofChange fnExactJoinScriptsSpec)

/-- ITS FALSE NEIGHBOUR: 'it returns false'. Refute it at one input. -/
def fnExactJoinScriptsWrong : ChangeSpec := { name := "fnExactJoinScripts", fn := fun _ => fun
  | [d1, d2] => { results := [.lit (.bool false)], args := [d1, d2] }
  | _ => none }
def FnExactJoinScriptsWrongFalsely : Prop := fnExactJoinScriptsRow.holds Try.pinned (OpenSpec.ofChange fnExactJoinScriptsWrong)

/-- 'laws.FnExactMirrorBox': WHATEVER THE INPUT: true; the input reads as it did. -/
def fnExactMirrorBoxSpec : ChangeSpec := { name := "fnExactMirrorBox", fn := fun _ => fun
  | [d1, d2] => { results := [.lit (.bool true)], args := [d1, d2] }
  | _ => none }
def fnExactMirrorBoxRow : OpenClaim := { program := "ytfnjjkljpegoeaa", sum := "6ecb44fc36fd900311fc8410e0998d1f91b43d17b5e70163231e9248ff742428", func := "loop.example/g01009/laws.FnExactMirrorBox", spec := "fnExactMirrorBox", unfollowed := true, recurses := true, apart := false }
def FnExactMirrorBoxSaid : Prop := fnExactMirrorBoxRow.holds Try.pinned (OpenSpec.ofChange fnExactMirrorBoxSpec)

/-- ITS FALSE NEIGHBOUR: 'it returns false'. Refute it at one input. -/
def fnExactMirrorBoxWrong : ChangeSpec := { name := "fnExactMirrorBox", fn := fun _ => fun
  | [d1, d2] => { results := [.lit (.bool false)], args := [d1, d2] }
  | _ => none }
def FnExactMirrorBoxWrongFalsely : Prop := fnExactMirrorBoxRow.holds Try.pinned (OpenSpec.ofChange fnExactMirrorBoxWrong)

/-- 'laws.FnExactShiftBox': WHATEVER THE INPUT: true; the input reads as it did. -/
def fnExactShiftBoxSpec : ChangeSpec := { name := "fnExactShiftBox", fn := fun _ => fun
  | [d1, d2, d3] => { results := [.lit (.bool true)], args := [d1, d2, d3] }
  | _ => none }
def fnExactShiftBoxRow : OpenClaim := { program := "ytfnjjkljpegoeaa", sum := "6ecb44fc36fd900311fc8410e0998d1f91b43d17b5e70163231e9248ff742428", func := "loop.example/g01009/laws.FnExactShiftBox", spec := "fnExactShiftBox", unfollowed := true, recurses := true, apart := false }
def FnExactShiftBoxSaid : Prop := fnExactShiftBoxRow.holds Try.pinned (OpenSpec.ofChange fnExactShiftBoxSpec)

/-- ITS FALSE NEIGHBOUR: 'it returns false'. Refute it at one input. -/
def fnExactShiftBoxWrong : ChangeSpec := { name := "fnExactShiftBox", fn := fun _ => fun
  | [d1, d2, d3] => { results := [.lit (.bool false)], args := [d1, d2, d3] }
  | _ => none }
def FnExactShiftBoxWrongFalsely : Prop := fnExactShiftBoxRow.holds Try.pinned (OpenSpec.ofChange fnExactShiftBoxWrong)

/-- 'laws.FnExactShrinkBox': WHATEVER THE INPUT: true; the input reads as it did. -/
def fnExactShrinkBoxSpec : ChangeSpec := { name := "fnExactShrinkBox", fn := fun _ => fun
  | [d1, d2] => { results := [.lit (.bool true)], args := [d1, d2] }
  | _ => none }
def fnExactShrinkBoxRow : OpenClaim := { program := "ytfnjjkljpegoeaa", sum := "6ecb44fc36fd900311fc8410e0998d1f91b43d17b5e70163231e9248ff742428", func := "loop.example/g01009/laws.FnExactShrinkBox", spec := "fnExactShrinkBox", unfollowed := true, recurses := true, apart := false }
def FnExactShrinkBoxSaid : Prop := fnExactShrinkBoxRow.holds Try.pinned (OpenSpec.ofChange fnExactShrinkBoxSpec)

/-- ITS FALSE NEIGHBOUR: 'it returns false'. Refute it at one input. -/
def fnExactShrinkBoxWrong : ChangeSpec := { name := "fnExactShrinkBox", fn := fun _ => fun
  | [d1, d2] => { results := [.lit (.bool false)], args := [d1, d2] }
  | _ => none }
def FnExactShrinkBoxWrongFalsely : Prop := fnExactShrinkBoxRow.holds Try.pinned (OpenSpec.ofChange fnExactShrinkBoxWrong)

/-- 'laws.FnExactExchangeBox': WHATEVER THE INPUT: true; the input reads as it did. -/
def fnExactExchangeBoxSpec : ChangeSpec := { name := "fnExactExchangeBox", fn := fun _ => fun
  | [d1, d2] => { results := [.lit (.bool true)], args := [d1, d2] }
  | _ => none }
def fnExactExchangeBoxRow : OpenClaim := { program := "ytfnjjkljpegoeaa", sum := "6ecb44fc36fd900311fc8410e0998d1f91b43d17b5e70163231e9248ff742428", func := "loop.example/g01009/laws.FnExactExchangeBox", spec := "fnExactExchangeBox", unfollowed := true, recurses := true, apart := false }
def FnExactExchangeBoxSaid : Prop := fnExactExchangeBoxRow.holds Try.pinned (OpenSpec.ofChange fnExactExchangeBoxSpec)

/-- ITS FALSE NEIGHBOUR: 'it returns false'. Refute it at one input. -/
def fnExactExchangeBoxWrong : ChangeSpec := { name := "fnExactExchangeBox", fn := fun _ => fun
  | [d1, d2] => { results := [.lit (.bool false)], args := [d1, d2] }
  | _ => none }
def FnExactExchangeBoxWrongFalsely : Prop := fnExactExchangeBoxRow.holds Try.pinned (OpenSpec.ofChange fnExactExchangeBoxWrong)

/- THE SECOND FORM. 'bulk': how many values and letters a reading holds, each counted each time it is reached (what is shared counts as often as it is met; a slice's spare places count too). A statement '..UptoSaid' is the law's where the arguments, and the package variables that the reading takes, are together of bulk at most 1048576: NARROWER than '..Said'. Prove '..Said' where nothing that the law and all that it calls make is longer than what came in: it says more and counts as full. Else prove '..UptoSaid'. A law counts once. -/
mutual
def uptoBulk {H : Type} : DataW H → Nat
  | .lit (.string bytes) => bytes.length + 1
  | .lit _ => 1
  | .nil => 1
  | .ptr d => uptoBulk d + 1
  | .slice elems spare => uptoBulkAll elems + uptoBulkAll spare + 1
  | .agg parts => uptoBulkAll parts + 1
  | .iface _ d => uptoBulk d + 1
  | .map entries => uptoBulkEntries entries + 1
  | .held _ => 1
def uptoBulkAll {H : Type} : List (DataW H) → Nat
  | [] => 0
  | d :: r => uptoBulk d + uptoBulkAll r
def uptoBulkEntries {H : Type} : List (Lit × DataW H) → Nat
  | [] => 0
  | x :: r => uptoBulkEntry x + uptoBulkEntries r
def uptoBulkEntry {H : Type} : Lit × DataW H → Nat
  | (.string bytes, d) => bytes.length + uptoBulk d + 1
  | (_, d) => uptoBulk d + 1
 end
def uptoSmall : (H : Type) → List (DataW H) → Bool := fun _ ds => decide (uptoBulkAll ds ≤ 1048576)
def OpenSpec.upto (s : _root_.Go.ChangeSpec) : _root_.Go.OpenSpec := { _root_.Go.OpenSpec.ofChange s with cond := some uptoSmall }

/-- 'laws.FnExactOrderSign', WHERE WHAT IT READS IS OF BULK AT MOST 1048576: true; the input reads as it did. -/
def fnExactOrderSignUptoRow : OpenClaim := { program := "ytfnjjkljpegoeaa", sum := "6ecb44fc36fd900311fc8410e0998d1f91b43d17b5e70163231e9248ff742428", func := "loop.example/g01009/laws.FnExactOrderSign", spec := "fnExactOrderSign", apart := false, narrowed := true }
def FnExactOrderSignUptoSaid : Prop := fnExactOrderSignUptoRow.holds Try.pinned (OpenSpec.upto fnExactOrderSignSpec)

/-- 'laws.FnExactJoinScripts', WHERE WHAT IT READS IS OF BULK AT MOST 1048576: true; the input reads as it did. -/
def fnExactJoinScriptsUptoRow : OpenClaim := { program := "ytfnjjkljpegoeaa", sum := "6ecb44fc36fd900311fc8410e0998d1f91b43d17b5e70163231e9248ff742428", func := "loop.example/g01009/laws.FnExactJoinScripts", spec := "fnExactJoinScripts", inPlace := ["internal/bytealg.CountString", "internal/bytealg.IndexByteString", "internal/bytealg.IndexString"], named := ["internal/bytealg.MaxLen"], apart := false, narrowed := true }
def FnExactJoinScriptsUptoSaid : Prop := fnExactJoinScriptsUptoRow.holds Try.pinned (OpenSpec.upto fnExactJoinScriptsSpec)

/-- 'laws.FnExactMirrorBox', WHERE WHAT IT READS IS OF BULK AT MOST 1048576: true; the input reads as it did. -/
def fnExactMirrorBoxUptoRow : OpenClaim := { program := "ytfnjjkljpegoeaa", sum := "6ecb44fc36fd900311fc8410e0998d1f91b43d17b5e70163231e9248ff742428", func := "loop.example/g01009/laws.FnExactMirrorBox", spec := "fnExactMirrorBox", unfollowed := true, recurses := true, apart := false, narrowed := true }
def FnExactMirrorBoxUptoSaid : Prop := fnExactMirrorBoxUptoRow.holds Try.pinned (OpenSpec.upto fnExactMirrorBoxSpec)

/-- 'laws.FnExactShiftBox', WHERE WHAT IT READS IS OF BULK AT MOST 1048576: true; the input reads as it did. -/
def fnExactShiftBoxUptoRow : OpenClaim := { program := "ytfnjjkljpegoeaa", sum := "6ecb44fc36fd900311fc8410e0998d1f91b43d17b5e70163231e9248ff742428", func := "loop.example/g01009/laws.FnExactShiftBox", spec := "fnExactShiftBox", unfollowed := true, recurses := true, apart := false, narrowed := true }
def FnExactShiftBoxUptoSaid : Prop := fnExactShiftBoxUptoRow.holds Try.pinned (OpenSpec.upto fnExactShiftBoxSpec)

/-- 'laws.FnExactShrinkBox', WHERE WHAT IT READS IS OF BULK AT MOST 1048576: true; the input reads as it did. -/
def fnExactShrinkBoxUptoRow : OpenClaim := { program := "ytfnjjkljpegoeaa", sum := "6ecb44fc36fd900311fc8410e0998d1f91b43d17b5e70163231e9248ff742428", func := "loop.example/g01009/laws.FnExactShrinkBox", spec := "fnExactShrinkBox", unfollowed := true, recurses := true, apart := false, narrowed := true }
def FnExactShrinkBoxUptoSaid : Prop := fnExactShrinkBoxUptoRow.holds Try.pinned (OpenSpec.upto fnExactShrinkBoxSpec)

/-- 'laws.FnExactExchangeBox', WHERE WHAT IT READS IS OF BULK AT MOST 1048576: true; the input reads as it did. -/
def fnExactExchangeBoxUptoRow : OpenClaim := { program := "ytfnjjkljpegoeaa", sum := "6ecb44fc36fd900311fc8410e0998d1f91b43d17b5e70163231e9248ff742428", func := "loop.example/g01009/laws.FnExactExchangeBox", spec := "fnExactExchangeBox", unfollowed := true, recurses := true, apart := false, narrowed := true }
def FnExactExchangeBoxUptoSaid : Prop := fnExactExchangeBoxUptoRow.holds Try.pinned (OpenSpec.upto fnExactExchangeBoxSpec)

end Rows
end Go.Proofs.Ytfnjjkljpegoeaa
