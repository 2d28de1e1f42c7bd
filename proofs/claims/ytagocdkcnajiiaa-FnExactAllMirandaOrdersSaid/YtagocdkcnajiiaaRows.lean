/-
  No cell of these rows narrows 'for every input' (looked for: loops, veiled, ifaces, maps, wideKeys, modest, calm, conditions, laid).
  DERIVED. THE GIVEN ROWS OF THIS SEAT. 2 by the template 'for every input the law returns true; each argument reads behind the call as it read before'; 0 by the template 'total and deterministic' (their statements: YtagocdkcnajiiaaTotals.lean).
  GIVEN WITH THE SEED: the statements are not yours to turn. If you find one false, say at which input.
  Laid BY PROGRAM, IN A SANDBOX (cutbox-rows.mjs): the forced cells as the released guide's own fill.sh prints them over the translation 7c078f8dbd14bc7e… (all of the seat's roots in one cut). By AI agents, Wed Nov 11 2026. No macro, syntax, notation, axiom, sorry.
-/
import Derived.Test.YtagocdkcnajiiaaChecked
import GoSem.Claim
import GoSem.ClaimJoined
import GoSem.ClaimMapViews
import Derived.JoinedTies
import Derived.KernelRfl
namespace Go.Proofs.Ytagocdkcnajiiaa
/- THE CELL 'sum', in the pinned program and in every row, IS THE sha256 OF THE DUMP (.gsa) THAT YtagocdkcnajiiaaProg.lean LOADS. Nothing in Lean hashes anything: it is a label: what it is worth is what the hold of that sum in a sandbox is worth. -/
noncomputable def Try.pinned : Pinned := { name := "ytagocdkcnajiiaa", sum := "7c078f8dbd14bc7e897e995a3f712480b7fca7d5f24d98cb9d0e1b3607c4d4e5", checked := Try.checked }
namespace Rows
def none {H : Type} : Left H := { results := [], args := [] }

/-- 'laws.FnExactMirandaOrder': WHATEVER THE INPUT: true; the input reads as it did. -/
def fnExactMirandaOrderSpec : ChangeSpec := { name := "fnExactMirandaOrder", fn := fun _ => fun
  | [d1, d2] => { results := [.lit (.bool true)], args := [d1, d2] }
  | _ => none }
def fnExactMirandaOrderRow : OpenClaim := { program := "ytagocdkcnajiiaa", sum := "7c078f8dbd14bc7e897e995a3f712480b7fca7d5f24d98cb9d0e1b3607c4d4e5", func := "loop.example/g01009/laws.FnExactMirandaOrder", spec := "fnExactMirandaOrder", unfollowed := true, recurses := true, apart := false }
def FnExactMirandaOrderSaid : Prop := fnExactMirandaOrderRow.holds Try.pinned (OpenSpec.ofChange fnExactMirandaOrderSpec)

/-- ITS FALSE NEIGHBOUR: 'it returns false'. Refute it at one input. -/
def fnExactMirandaOrderWrong : ChangeSpec := { name := "fnExactMirandaOrder", fn := fun _ => fun
  | [d1, d2] => { results := [.lit (.bool false)], args := [d1, d2] }
  | _ => none }
def FnExactMirandaOrderWrongFalsely : Prop := fnExactMirandaOrderRow.holds Try.pinned (OpenSpec.ofChange fnExactMirandaOrderWrong)

/-- 'laws.FnExactAllMirandaOrders': WHATEVER THE INPUT: true; the input reads as it did. -/
def fnExactAllMirandaOrdersSpec : ChangeSpec := { name := "fnExactAllMirandaOrders", fn := fun _ => fun
  | [d1, d2] => { results := [.lit (.bool true)], args := [d1, d2] }
  | _ => none }
def fnExactAllMirandaOrdersRow : OpenClaim := { program := "ytagocdkcnajiiaa", sum := "7c078f8dbd14bc7e897e995a3f712480b7fca7d5f24d98cb9d0e1b3607c4d4e5", func := "loop.example/g01009/laws.FnExactAllMirandaOrders", spec := "fnExactAllMirandaOrders", unfollowed := true, recurses := true, apart := false }
def FnExactAllMirandaOrdersSaid : Prop := fnExactAllMirandaOrdersRow.holds Try.pinned (OpenSpec.ofChange fnExactAllMirandaOrdersSpec)

/-- ITS FALSE NEIGHBOUR: 'it returns false'. Refute it at one input. -/
def fnExactAllMirandaOrdersWrong : ChangeSpec := { name := "fnExactAllMirandaOrders", fn := fun _ => fun
  | [d1, d2] => { results := [.lit (.bool false)], args := [d1, d2] }
  | _ => none }
def FnExactAllMirandaOrdersWrongFalsely : Prop := fnExactAllMirandaOrdersRow.holds Try.pinned (OpenSpec.ofChange fnExactAllMirandaOrdersWrong)

/- THE SECOND FORM. 'bulk': how many values and letters a reading holds, each counted each time it is reached (what is shared counts as often as it is met; a slice's spare places count too). A statement '..UptoSaid' is the law's where the arguments, and the package variables that the reading takes, are together of bulk at most 1048576: NARROWER than '..Said'. Prove '..Said' where nothing that the law and all that it calls make is longer than what came in: it says more and counts as full. Else prove '..UptoSaid'. A law counts once. -/
mutual
def uptoBulk {H : Type} : DataW H → Nat
  | .lit (.string bytes) => bytes.length + 1
  | .lit _ => 1
  | .nil => 1
  | .ptr d => uptoBulk d + 1
  | .slice elems spare => uptoBulkAll elems + uptoBulkAll spare + 1
  | .agg parts => uptoBulkAll parts + 1
  | .iface _ d => uptoBulk d + 1
  | .map entries => uptoBulkEntries entries + 1
  | .held _ => 1
def uptoBulkAll {H : Type} : List (DataW H) → Nat
  | [] => 0
  | d :: r => uptoBulk d + uptoBulkAll r
def uptoBulkEntries {H : Type} : List (Lit × DataW H) → Nat
  | [] => 0
  | x :: r => uptoBulkEntry x + uptoBulkEntries r
def uptoBulkEntry {H : Type} : Lit × DataW H → Nat
  | (.string bytes, d) => bytes.length + uptoBulk d + 1
  | (_, d) => uptoBulk d + 1
 end
def uptoSmall : (H : Type) → List (DataW H) → Bool := fun _ ds => decide (uptoBulkAll ds ≤ 1048576)
def OpenSpec.upto (s : _root_.Go.ChangeSpec) : _root_.Go.OpenSpec := { _root_.Go.OpenSpec.ofChange s with cond := some uptoSmall }

/-- 'laws.FnExactMirandaOrder', WHERE WHAT IT READS IS OF BULK AT MOST 1048576: true; the input reads as it did. -/
def fnExactMirandaOrderUptoRow : OpenClaim := { program := "ytagocdkcnajiiaa", sum := "7c078f8dbd14bc7e897e995a3f712480b7fca7d5f24d98cb9d0e1b3607c4d4e5", func := "loop.example/g01009/laws.FnExactMirandaOrder", spec := "fnExactMirandaOrder", unfollowed := true, recurses := true, apart := false, narrowed := true }
def FnExactMirandaOrderUptoSaid : Prop := fnExactMirandaOrderUptoRow.holds Try.pinned (OpenSpec.upto fnExactMirandaOrderSpec)

/-- 'laws.FnExactAllMirandaOrders', WHERE WHAT IT READS IS OF BULK AT MOST 1048576: true; the input reads as it did. -/
def fnExactAllMirandaOrdersUptoRow : OpenClaim := { program := "ytagocdkcnajiiaa", sum := "7c078f8dbd14bc7e897e995a3f712480b7fca7d5f24d98cb9d0e1b3607c4d4e5", func := "loop.example/g01009/laws.FnExactAllMirandaOrders", spec := "fnExactAllMirandaOrders", unfollowed := true, recurses := true, apart := false, narrowed := true }
def FnExactAllMirandaOrdersUptoSaid : Prop := fnExactAllMirandaOrdersUptoRow.holds Try.pinned (OpenSpec.upto fnExactAllMirandaOrdersSpec)

end Rows
end Go.Proofs.Ytagocdkcnajiiaa
