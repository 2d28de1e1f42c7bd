/-
  DERIVED. GIVEN WITH THE SEED: THE CARDS: each row of YtooaafekllkpbaaDoorRows.lean that lists a variable, with what it lists TIED to the program's text (the seventh form; the later family's looks); each row that meets fmt, with fmt's text TOLD by the authors' own Lean function (tested against real Go, not proved from fmt's source: count such statements apart). THE CARD IS WHAT COUNTS. Prove the row's statement (the work); the ties are given (YtooaafekllkpbaaDoorTie.lean); close each card by the builder's one call (the guide's Derived/Test/ToyasCard.lean, 'card_holds'). Laid BY PROGRAM, IN A SANDBOX (cutbox-door.mjs). By AI agents, Wed Nov 11 2026. No macro, syntax, notation, axiom, sorry.
-/
import Derived.Test.YtooaafekllkpbaaDoorRows
import GoSem.ClaimSeven
namespace Go.Proofs.YtooaafekllkpbaaDoor
namespace Rows

/-- THE TIED CARD OF 'laws.FnExactReadSystem'. -/
def fnExactReadSystemCard : Claim7 := { stood := { row := fnExactReadSystemRow, standIns := [], harness := (true, "d69a54b139dbb396fb5a48d4eb4c5adc5a9122f33367eeb244f9f1301f21fc15"), looks := false }, kinds := [], alts := [], laidByText := true, laidKinds := [.data, .pinned], laidTests := true, laidLooks := .later }
def FnExactReadSystemCardSaid : Prop := Claim7.holds Tryd.pinned (.plain (OpenSpec.ofChange fnExactReadSystemSpec)) fnExactReadSystemCard

/-- THE SECOND FORM's CARD OF 'laws.FnExactReadSystem'. -/
def fnExactReadSystemUptoCard : Claim7 := { stood := { row := fnExactReadSystemUptoRow, standIns := [], harness := (true, "d69a54b139dbb396fb5a48d4eb4c5adc5a9122f33367eeb244f9f1301f21fc15"), looks := false }, kinds := [], alts := [], laidByText := true, laidKinds := [.data, .pinned], laidTests := true, laidLooks := .later }
def FnExactReadSystemUptoCardSaid : Prop := Claim7.holds Tryd.pinned (.plain (OpenSpec.upto fnExactReadSystemSpec)) fnExactReadSystemUptoCard
end Rows
end Go.Proofs.YtooaafekllkpbaaDoor
